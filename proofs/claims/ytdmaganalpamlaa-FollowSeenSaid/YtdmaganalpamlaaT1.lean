/- The functions of a program, compiled: printed by wip/hm/tools/Gen.lean. -/
import Derived.Test.YtdmaganalpamlaaHmG10
import Derived.Test.YtdmaganalpamlaaHmG12
import Derived.Test.YtdmaganalpamlaaRw
import Derived.Test.YtdmaganalpamlaaRg
import Derived.Test.YtdmaganalpamlaaRows
namespace Go.Proofs.Ytdmaganalpamlaa
open Go Go.Hm
def kx (d : Nat) (o : AOp) : AI := ⟨some d, none, o, 0, false⟩
def ux (n : Nat) : AO := .tmp n
def t3L1 : AC := (.seq (.seq (.regN [1, 3, 4, 5, 6, 7, 8] [
 ⟨some 50, none, .mv (.tmp 8), 0, false⟩,⟨some 51, none, .fldA 1 (.tmp 7), 0, false⟩,⟨some 52, none, .ld1 (some 7) (.tmp 51), 0, false⟩,⟨some 53, none, .len false (.tmp 52), 0, false⟩,⟨some 54, none, .bini .lss (.tmp 50) (.tmp 53), 0, false⟩])
 (.cond (.tmp 54)
 .skip
 (.exit 2)))
 (.seq (.block 3
 (.seq (.regD [1, 3, 4, 5, 6, 7, 8] 0 [
 ⟨some 57, none, .fldA 1 (.tmp 7), 0, false⟩,⟨some 58, none, .ld1 (some 7) (.tmp 57), 0, false⟩,⟨some 59, none, .mv (.tmp 8), 0, false⟩,⟨some 60, none, .ixA 1 (.tmp 58) (.tmp 59), 0, false⟩,⟨some 61, none, .ld1 none (.tmp 60), 0, false⟩,⟨some 62, none, .fldA 0 (.tmp 1), 0, false⟩,⟨some 63, none, .ld1 (some 1) (.tmp 62), 0, false⟩,⟨some 64, none, .bini .geq (.tmp 61) (.tmp 63), 0, false⟩])
 (.cond (.tmp 64)
 (.seq (.regD [1, 3, 4, 5, 6, 7, 8] 0 [
 ⟨some 65, none, .fldA 1 (.tmp 7), 0, false⟩,⟨some 66, none, .ld1 (some 7) (.tmp 65), 0, false⟩,⟨some 67, none, .mv (.tmp 8), 0, false⟩,⟨some 68, none, .ixA 1 (.tmp 66) (.tmp 67), 0, false⟩,⟨some 69, none, .ld1 none (.tmp 68), 0, false⟩,⟨some 70, none, .fldA 0 (.tmp 1), 0, false⟩,⟨some 71, none, .ld1 (some 1) (.tmp 70), 0, false⟩,⟨some 72, none, .bini .sub (.tmp 69) (.tmp 71), 0, false⟩,⟨some 9, none, .mv (.tmp 72), 0, false⟩])
 (.regD [1, 3, 4, 5, 6, 7, 8, 9] 0 [
 ⟨some 73, none, .mv (.tmp 5), 0, false⟩,⟨some 74, none, .mv (.tmp 9), 0, false⟩,⟨some 75, none, .mv (.tmp 5), 0, false⟩,⟨some 76, none, .mv (.tmp 9), 0, false⟩,⟨some 77, none, .ixA 1 (.tmp 75) (.tmp 76), 0, false⟩,⟨some 78, none, .ld1 none (.tmp 77), 0, false⟩,⟨some 79, none, .fldA 2 (.tmp 1), 0, false⟩,⟨some 80, none, .ld1 (some 1) (.tmp 79), 0, false⟩,⟨some 81, none, .ldA (some 1) 4 (.tmp 1), 0, false⟩,⟨some 82, none, .mv (.tmp 4), 0, false⟩,⟨some 83, none, .fldA 1 (.tmp 7), 0, false⟩,⟨some 84, none, .ld1 (some 7) (.tmp 83), 0, false⟩,⟨some 85, none, .mv (.tmp 8), 0, false⟩,⟨some 86, none, .bini .add (.tmp 85) (.con (.val (.int .i64 1))), 0, false⟩,⟨some 87, none, .slC 1 (.tmp 84) (some (.tmp 86)) none, 0, false⟩,⟨some 88, none, .call 16 [(.tmp 81), (.tmp 82), (.tmp 87)], 0, false⟩,⟨some 89, none, .mv (.tmp 3), 0, false⟩,⟨some 90, none, .fldA 0 (.tmp 7), 0, false⟩,⟨some 91, none, .ld1 (some 7) (.tmp 90), 0, false⟩,⟨some 92, none, .ixA 1 (.tmp 89) (.tmp 91), 0, false⟩,⟨some 93, none, .ld1 none (.tmp 92), 0, false⟩,⟨some 94, none, .call 15 [(.tmp 80), (.tmp 88), (.tmp 93)], 0, false⟩,⟨some 95, none, .call 14 [(.tmp 78), (.tmp 94)], 0, true⟩,⟨some 96, none, .ixA 1 (.tmp 73) (.tmp 74), 0, false⟩,⟨none, none, .st none 1 (.tmp 96) (.tmp 95), 0, false⟩]))
 .skip)))
 (.regN [1, 3, 4, 5, 6, 7, 8] [
 ⟨some 55, none, .mv (.tmp 8), 0, false⟩,⟨some 56, none, .bini .add (.tmp 55) (.con (.val (.int .i64 1))), 0, false⟩,⟨some 8, none, .mv (.tmp 56), 0, false⟩])))
def t3L2 : AC := (.seq (.seq (.regN [1, 3, 4, 5, 6] [
 ⟨some 38, none, .mv (.tmp 6), 0, false⟩,⟨some 39, none, .fldA 3 (.tmp 1), 0, false⟩,⟨some 40, none, .ld1 (some 1) (.tmp 39), 0, false⟩,⟨some 41, none, .len false (.tmp 40), 0, false⟩,⟨some 42, none, .bini .lss (.tmp 38) (.tmp 41), 0, false⟩])
 (.cond (.tmp 42)
 .skip
 (.exit 0)))
 (.seq (.block 1
 (.seq (.regN [1, 3, 4, 5, 6] [
 ⟨some 45, none, .fldA 3 (.tmp 1), 0, false⟩,⟨some 46, none, .ld1 (some 1) (.tmp 45), 0, false⟩,⟨some 47, none, .mv (.tmp 6), 0, false⟩,⟨some 48, none, .ixA 2 (.tmp 46) (.tmp 47), 0, false⟩,⟨some 49, none, .ldA none 2 (.tmp 48), 0, false⟩,⟨some 7, none, .allocR [(.val (.int .i64 0)), .e0], 0, false⟩,⟨none, none, .st (some 7) 2 (.tmp 7) (.tmp 49), 0, false⟩])
 (.seq (.regN [1, 3, 4, 5, 6, 7] [
 ⟨some 8, none, .mv (.con (.val (.int .i64 0))), 0, false⟩])
 (.block 2
 (.loop [1, 3, 4, 5, 6, 7, 8] t3L1)))))
 (.regN [1, 3, 4, 5, 6] [
 ⟨some 43, none, .mv (.tmp 6), 0, false⟩,⟨some 44, none, .bini .add (.tmp 43) (.con (.val (.int .i64 1))), 0, false⟩,⟨some 6, none, .mv (.tmp 44), 0, false⟩])))
def t3L3 : AC := (.seq (.seq (.regN [1, 3, 5, 10, 11] [
 ⟨some 103, none, .mv (.tmp 11), 0, false⟩,⟨some 104, none, .mv (.tmp 3), 0, false⟩,⟨some 105, none, .mv (.tmp 10), 0, false⟩,⟨some 106, none, .ixA 1 (.tmp 104) (.tmp 105), 0, false⟩,⟨some 107, none, .ld1 none (.tmp 106), 0, false⟩,⟨some 108, none, .len false (.tmp 107), 0, false⟩,⟨some 109, none, .bini .lss (.tmp 103) (.tmp 108), 0, false⟩])
 (.cond (.tmp 109)
 .skip
 (.exit 6)))
 (.seq (.block 7
 (.seq (.regN [1, 3, 5, 10, 11] [
 ⟨some 112, none, .mv (.tmp 3), 0, false⟩,⟨some 113, none, .mv (.tmp 10), 0, false⟩,⟨some 114, none, .ixA 1 (.tmp 112) (.tmp 113), 0, false⟩,⟨some 115, none, .ld1 none (.tmp 114), 0, false⟩,⟨some 116, none, .mv (.tmp 11), 0, false⟩,⟨some 117, none, .ixA 1 (.tmp 115) (.tmp 116), 0, false⟩,⟨some 118, none, .ld1 none (.tmp 117), 0, false⟩,⟨some 12, none, .mv (.tmp 118), 0, false⟩])
 (.seq (.regN [1, 3, 5, 10, 11, 12] [
 ⟨some 119, none, .mv (.tmp 12), 0, false⟩,⟨some 120, none, .len true (.tmp 119), 0, false⟩,⟨some 121, none, .bini .lss (.tmp 120) (.con (.val (.int .i64 1))), 0, false⟩,⟨some 122, none, .mv (.tmp 121), 0, false⟩,⟨some 123, some (122, false), .mv (.tmp 12), 0, false⟩,⟨some 124, some (122, false), .len true (.tmp 123), 0, false⟩,⟨some 125, some (122, false), .fldA 2 (.tmp 1), 0, false⟩,⟨some 126, some (122, false), .ld1 (some 1) (.tmp 125), 0, false⟩,⟨some 127, some (122, false), .bini .gtr (.tmp 124) (.tmp 126), 0, false⟩,⟨some 128, none, .pick (.tmp 122) (.con (.val (.bool true))) (.tmp 127), 0, false⟩,⟨some 129, none, .mv (.tmp 128), 0, false⟩,⟨some 130, some (129, false), .mv (.tmp 12), 0, false⟩,⟨some 131, some (129, false), .len true (.tmp 130), 0, false⟩,⟨some 132, some (129, false), .fldA 2 (.tmp 1), 0, false⟩,⟨some 133, some (129, false), .ld1 (some 1) (.tmp 132), 0, false⟩,⟨some 134, some (129, false), .bini .lss (.tmp 131) (.tmp 133), 0, false⟩,⟨some 135, some (129, false), .mv (.tmp 134), 0, false⟩,⟨some 136, some (135, true), .mv (.tmp 12), 0, false⟩,⟨some 137, some (135, true), .mv (.tmp 12), 0, false⟩,⟨some 138, some (135, true), .len true (.tmp 137), 0, false⟩,⟨some 139, some (135, true), .bini .sub (.tmp 138) (.con (.val (.int .i64 1))), 0, false⟩,⟨some 140, some (135, true), .ixS (.tmp 136) (.tmp 139), 0, false⟩,⟨some 141, some (135, true), .bini .neq (.tmp 140) (.con (.val (.int .u8 255))), 0, false⟩,⟨some 142, some (129, false), .pick (.tmp 135) (.tmp 141) (.con (.val (.bool false))), 0, false⟩,⟨some 143, none, .pick (.tmp 129) (.con (.val (.bool true))) (.tmp 142), 0, false⟩,⟨some 144, none, .mv (.tmp 143), 0, false⟩,⟨some 145, some (144, false), .mv (.tmp 11), 0, false⟩,⟨some 146, some (144, false), .bini .gtr (.tmp 145) (.con (.val (.int .i64 0))), 0, false⟩,⟨some 147, some (144, false), .mv (.tmp 146), 0, false⟩,⟨some 148, some (147, true), .mv (.tmp 3), 0, false⟩,⟨some 149, some (147, true), .mv (.tmp 10), 0, false⟩,⟨some 150, some (147, true), .ixA 1 (.tmp 148) (.tmp 149), 0, false⟩,⟨some 151, some (147, true), .ld1 none (.tmp 150), 0, false⟩,⟨some 152, some (147, true), .mv (.tmp 11), 0, false⟩,⟨some 153, some (147, true), .bini .sub (.tmp 152) (.con (.val (.int .i64 1))), 0, false⟩,⟨some 154, some (147, true), .ixA 1 (.tmp 151) (.tmp 153), 0, false⟩,⟨some 155, some (147, true), .ld1 none (.tmp 154), 0, false⟩,⟨some 156, some (147, true), .mv (.tmp 12), 0, false⟩,⟨some 157, some (147, true), .bins .geq (.tmp 155) (.tmp 156), 0, false⟩,⟨some 158, some (144, false), .pick (.tmp 147) (.tmp 157) (.con (.val (.bool false))), 0, false⟩,⟨some 159, none, .pick (.tmp 144) (.con (.val (.bool true))) (.tmp 158), 0, false⟩])
 (.cond (.tmp 159)
 (.seq (.regN [] [
 ⟨some 2, none, .mv (.con (.val (.bool false))), 0, false⟩])
 .ret)
 .skip))))
 (.regN [1, 3, 5, 10, 11] [
 ⟨some 110, none, .mv (.tmp 11), 0, false⟩,⟨some 111, none, .bini .add (.tmp 110) (.con (.val (.int .i64 1))), 0, false⟩,⟨some 11, none, .mv (.tmp 111), 0, false⟩])))
def t3L4 : AC := (.seq (.seq (.regN [1, 3, 5, 10] [
 ⟨some 97, none, .mv (.tmp 10), 0, false⟩,⟨some 98, none, .fldA 1 (.tmp 1), 0, false⟩,⟨some 99, none, .ld1 (some 1) (.tmp 98), 0, false⟩,⟨some 100, none, .bini .lss (.tmp 97) (.tmp 99), 0, false⟩])
 (.cond (.tmp 100)
 .skip
 (.exit 4)))
 (.seq (.block 5
 (.seq (.regN [1, 3, 5, 10] [
 ⟨some 11, none, .mv (.con (.val (.int .i64 0))), 0, false⟩])
 (.block 6
 (.loop [1, 3, 5, 10, 11] t3L3))))
 (.regN [1, 3, 5, 10] [
 ⟨some 101, none, .mv (.tmp 10), 0, false⟩,⟨some 102, none, .bini .add (.tmp 101) (.con (.val (.int .i64 1))), 0, false⟩,⟨some 10, none, .mv (.tmp 102), 0, false⟩])))
def t3B : AC := (.seq (.regN [0] [
 ⟨some 1, none, .boxR 4 (.tmp 0), 0, false⟩,⟨some 2, none, .mv (.con (.val (.bool false))), 0, false⟩])
 (.seq (.seq (.regN [1] [
 ⟨some 13, none, .call 9 [], 0, false⟩,⟨some 14, none, .not (.tmp 13), 0, false⟩])
 (.cond (.tmp 14)
 (.seq (.regN [] [
 ⟨some 2, none, .mv (.con (.val (.bool false))), 0, false⟩])
 .ret)
 .skip))
 (.seq (.seq (.regN [1] [
 ⟨some 15, none, .ldA (some 1) 4 (.tmp 1), 0, false⟩,⟨some 16, none, .call 10 [(.tmp 15)], 0, false⟩,⟨some 17, none, .not (.tmp 16), 0, false⟩,⟨some 18, none, .mv (.tmp 17), 0, false⟩,⟨some 19, some (18, false), .ldA (some 1) 4 (.tmp 1), 0, false⟩,⟨some 20, some (18, false), .call 11 [(.tmp 19)], 0, false⟩,⟨some 21, some (18, false), .bini .neq (.tmp 20) (.con (.val (.int .i64 0))), 0, false⟩,⟨some 22, none, .pick (.tmp 18) (.con (.val (.bool true))) (.tmp 21), 0, false⟩])
 (.cond (.tmp 22)
 (.seq (.regN [] [
 ⟨some 2, none, .mv (.con (.val (.bool true))), 0, false⟩])
 .ret)
 .skip))
 (.seq (.regD [1] 0 [
 ⟨some 23, none, .ldA (some 1) 4 (.tmp 1), 0, false⟩,⟨some 24, none, .call 12 [(.tmp 23)], 0, true⟩,⟨some 25, none, .ldA (some 1) 4 (.tmp 1), 0, false⟩,⟨some 26, none, .call 13 [(.tmp 25)], 0, true⟩,⟨some 3, none, .mv (.tmp 24), 0, false⟩,⟨some 4, none, .mv (.tmp 26), 0, false⟩])
 (.seq (.seq (.regN [1, 3, 4] [
 ⟨some 27, none, .mv (.tmp 3), 0, false⟩,⟨some 28, none, .len false (.tmp 27), 0, false⟩,⟨some 29, none, .fldA 1 (.tmp 1), 0, false⟩,⟨some 30, none, .ld1 (some 1) (.tmp 29), 0, false⟩,⟨some 31, none, .bini .neq (.tmp 28) (.tmp 30), 0, false⟩])
 (.cond (.tmp 31)
 (.seq (.regN [] [
 ⟨some 2, none, .mv (.con (.val (.bool false))), 0, false⟩])
 .ret)
 .skip))
 (.seq (.regN [1, 3, 4] [
 ⟨some 32, none, .fldA 1 (.tmp 1), 0, false⟩,⟨some 33, none, .ld1 (some 1) (.tmp 32), 0, false⟩,⟨some 34, none, .mks 1 24 [.e0] (.tmp 33), 0, false⟩,⟨some 5, none, .mv (.tmp 34), 0, false⟩])
 (.seq (.regN [1, 3, 4, 5] [
 ⟨some 35, none, .mv (.tmp 5), 0, false⟩,⟨some 36, none, .buildS 1 [(.val (.string ⟨#[]⟩))] [(0, 1, (.con (.val (.string ⟨#[255]⟩))))], 0, false⟩,⟨some 37, none, .ixA 1 (.tmp 35) (.con (.val (.int .i64 0))), 0, false⟩,⟨none, none, .st none 1 (.tmp 37) (.tmp 36), 0, false⟩])
 (.seq (.seq (.regN [1, 3, 4, 5] [
 ⟨some 6, none, .mv (.con (.val (.int .i64 0))), 0, false⟩])
 (.block 0
 (.loop [1, 3, 4, 5, 6] t3L2)))
 (.seq (.seq (.regN [1, 3, 5] [
 ⟨some 10, none, .mv (.con (.val (.int .i64 0))), 0, false⟩])
 (.block 4
 (.loop [1, 3, 5, 10] t3L4)))
 (.seq (.regN [3, 5] [
 ⟨some 160, none, .mv (.tmp 5), 0, false⟩,⟨some 161, none, .mv (.tmp 3), 0, false⟩,⟨some 162, none, .call 17 [(.tmp 160), (.tmp 161)], 0, false⟩,⟨some 2, none, .mv (.tmp 162), 0, false⟩])
 .ret))))))))))
def t3 : AFn := ⟨1, t3B,
 [.tmp 2], true⟩
def t9B : AC := (.seq (.regN [] [
 kx 0 (.mv (.con (.val (.bool false))))])
 (.seq (.regN [] [
 kx 1 (.call 22 []),kx 2 (.call 12 [(ux 1)]),kx 3 (.buildS 1 [(.val (.string ⟨#[]⟩))] [(0, 1, (.con (.val (.string ⟨#[255]⟩))))]),kx 4 (.buildS 1 [(.val (.string ⟨#[]⟩))] [(0, 1, (.con (.val (.string ⟨#[0]⟩))))]),kx 5 (.buildS 2 [.e0, .e0] [(0, 1, (ux 3)), (1, 1, (ux 4))]),kx 6 (.call 17 [(ux 2), (ux 5)]),kx 0 (.mv (ux 6))])
 .ret))
def t9 : AFn := ⟨0, t9B,
 [.tmp 0], true⟩
def t22B : AC := (.seq (.regN [] [
 kx 0 (.allocR [(.val (.int .i64 0)), (.val (.int .i64 0)), (.val (.int .i64 0)), .e0])])
 (.seq (.regN [0] [
 kx 1 (.buildS 2 [(.val (.int .i64 0)), (.val (.int .i64 0))] [(0, 1, (.con (.val (.int .i64 3)))), (1, 1, (.con (.val (.int .i64 0))))]),kx 2 (.build [(.val (.int .i64 0)), .e0] [(0, 1, (.con (.val (.int .i64 0)))), (1, 1, (ux 1))]),kx 3 (.buildS 1 [(.val (.int .i64 0))] [(0, 1, (.con (.val (.int .i64 1))))]),kx 4 (.build [(.val (.int .i64 0)), .e0] [(0, 1, (.con (.val (.int .i64 1)))), (1, 1, (ux 3))]),kx 5 (.build [(.val (.int .i64 0)), .e0] [(0, 1, (.con (.val (.int .i64 1))))]),kx 6 (.buildS 3 [(.val (.int .i64 0)), .e0, (.val (.int .i64 0)), .e0, (.val (.int .i64 0)), .e0] [(0, 2, (ux 2)), (2, 2, (ux 4)), (4, 2, (ux 5))]),kx 7 (.build [(.val (.int .i64 0)), (.val (.int .i64 0)), (.val (.int .i64 0)), .e0] [(0, 1, (.con (.val (.int .i64 2)))), (1, 1, (.con (.val (.int .i64 2)))), (2, 1, (.con (.val (.int .i64 1)))), (3, 1, (ux 6))]),⟨none, none, .st (some 0) 4 (ux 0) (ux 7), 0, false⟩])
 .ret))
def t22 : AFn := ⟨0, t22B,
 [.cell 0 4 true], true⟩
def t12L1 : AC := (.seq (.regN [1, 2, 3, 4, 5, 6, 38, 39, 40] [
 ⟨some 41, none, .bini .lss (.tmp 40) (.tmp 39), 0, false⟩])
 (.seq (.cond (.tmp 41)
 .skip
 (.exit 2))
 (.seq (.block 3
 (.seq (.regN [1, 2, 3, 4, 5, 6, 38, 39, 40] [
 ⟨some 42, none, .ixA 1 (.tmp 38) (.tmp 40), 0, false⟩,⟨some 43, none, .ld1 none (.tmp 42), 0, false⟩,⟨some 9, none, .mv (.tmp 43), 0, false⟩])
 (.seq (.regN [1, 2, 3, 4, 5, 6, 9, 38, 39, 40] [
 ⟨some 44, none, .fldA 3 (.tmp 1), 0, false⟩,⟨some 45, none, .ld1 none (.tmp 44), 0, false⟩,⟨some 46, none, .mv (.tmp 9), 0, false⟩,⟨some 47, none, .ixA 2 (.tmp 45) (.tmp 46), 0, false⟩,⟨some 48, none, .fldA 1 (.tmp 47), 0, false⟩,⟨some 49, none, .ld1 none (.tmp 48), 0, false⟩,⟨some 10, none, .allocH [.e0], 0, false⟩,⟨none, none, .st none 1 (.tmp 10) (.tmp 49), 0, false⟩])
 (.seq (.regN [1, 2, 3, 4, 5, 6, 10, 38, 39, 40] [
 ⟨some 50, none, .ld1 none (.tmp 10), 0, false⟩,⟨some 51, none, .call 35 [(.tmp 50)], 0, false⟩])
 (.block 4
 (.rangeF [1, 2, 3, 4, 5, 6, 10, 38, 39, 40, 51] backIt (.tmp 51) [52, 53]
 (.seq (.regN [1, 3, 4, 5, 6, 10, 52, 53] [
 ⟨some 11, none, .mv (.tmp 52), 0, false⟩])
 (.regN [1, 3, 4, 5, 6, 10, 11, 53] [
 ⟨some 12, none, .mv (.tmp 53), 0, false⟩]))
 (.block 5
 (.seq (.seq (.regN [1, 3, 4, 5, 6, 10, 11, 12] [
 ⟨some 54, none, .mv (.tmp 12), 0, false⟩,⟨some 55, none, .fldA 0 (.tmp 1), 0, false⟩,⟨some 56, none, .ld1 none (.tmp 55), 0, false⟩,⟨some 57, none, .bini .lss (.tmp 54) (.tmp 56), 0, false⟩])
 (.cond (.tmp 57)
 (.exit 5)
 .skip))
 (.seq (.regN [1, 3, 4, 5, 6, 10, 11, 12] [
 ⟨some 58, none, .mv (.tmp 12), 0, false⟩,⟨some 59, none, .fldA 0 (.tmp 1), 0, false⟩,⟨some 60, none, .ld1 none (.tmp 59), 0, false⟩,⟨some 61, none, .bini .sub (.tmp 58) (.tmp 60), 0, false⟩,⟨some 13, none, .mv (.tmp 61), 0, false⟩])
 (.seq (.regD [1, 3, 4, 5, 6, 10, 11, 13] 0 [
 ⟨some 62, none, .ld1 none (.tmp 4), 0, false⟩,⟨some 63, none, .mv (.tmp 13), 0, false⟩,⟨some 64, none, .ixA 1 (.tmp 62) (.tmp 63), 0, false⟩,⟨some 65, none, .ld1 none (.tmp 64), 0, false⟩,⟨some 66, none, .fldA 2 (.tmp 1), 0, false⟩,⟨some 67, none, .ld1 none (.tmp 66), 0, false⟩,⟨some 68, none, .ldA none 4 (.tmp 1), 0, false⟩,⟨some 69, none, .ld1 none (.tmp 3), 0, false⟩,⟨some 70, none, .ld1 none (.tmp 10), 0, false⟩,⟨some 71, none, .mv (.tmp 11), 0, false⟩,⟨some 72, none, .bini .add (.tmp 71) (.con (.val (.int .i64 1))), 0, false⟩,⟨some 73, none, .slC 1 (.tmp 70) (some (.tmp 72)) none, 0, false⟩,⟨some 74, none, .call 38 [(.tmp 68), (.tmp 69), (.tmp 73)], 0, false⟩,⟨some 75, none, .ld1 none (.tmp 4), 0, false⟩,⟨some 76, none, .ld1 none (.tmp 6), 0, false⟩,⟨some 77, none, .ixA 1 (.tmp 75) (.tmp 76), 0, false⟩,⟨some 78, none, .ld1 none (.tmp 77), 0, false⟩,⟨some 79, none, .call 37 [(.tmp 67), (.tmp 74), (.tmp 78)], 0, false⟩,⟨some 80, none, .call 36 [(.tmp 65), (.tmp 79)], 0, true⟩,⟨some 14, none, .mv (.tmp 80), 0, false⟩])
 (.seq (.regN [4, 5, 13, 14] [
 ⟨some 81, none, .mv (.tmp 14), 0, false⟩,⟨some 82, none, .len false (.tmp 81), 0, false⟩,⟨some 83, none, .ld1 none (.tmp 4), 0, false⟩,⟨some 84, none, .mv (.tmp 13), 0, false⟩,⟨some 85, none, .ixA 1 (.tmp 83) (.tmp 84), 0, false⟩,⟨some 86, none, .ld1 none (.tmp 85), 0, false⟩,⟨some 87, none, .len false (.tmp 86), 0, false⟩,⟨some 88, none, .bini .gtr (.tmp 82) (.tmp 87), 0, false⟩])
 (.cond (.tmp 88)
 (.seq (.regN [4, 5, 13, 14] [
 ⟨some 89, none, .ld1 none (.tmp 4), 0, false⟩,⟨some 90, none, .mv (.tmp 13), 0, false⟩,⟨some 91, none, .mv (.tmp 14), 0, false⟩,⟨some 92, none, .ixA 1 (.tmp 89) (.tmp 90), 0, false⟩,⟨none, none, .st none 1 (.tmp 92) (.tmp 91), 0, false⟩])
 (.regN [5, 13] [
 ⟨some 93, none, .mv (.tmp 13), 0, false⟩,⟨some 94, none, .call 32 [(.tmp 5), (.tmp 93)], 0, false⟩]))
 .skip))))))))))))
 (.regN [1, 2, 3, 4, 5, 6, 38, 39, 40] [
 ⟨some 95, none, .bini .add (.tmp 40) (.con (.val (.int .i64 1))), 0, false⟩,⟨some 40, none, .mv (.tmp 95), 0, false⟩]))))
def t12L2 : AC := (.seq (.seq (.regN [1, 2, 3, 4, 5, 6, 7] [
 ⟨some 31, none, .mv (.tmp 7), 0, false⟩])
 (.cond (.tmp 31)
 .skip
 (.exit 0)))
 (.seq (.block 1
 (.seq (.regN [1, 2, 3, 4, 5, 6] [
 ⟨some 36, none, .ldA none 4 (.tmp 1), 0, false⟩,⟨some 37, none, .ld1 none (.tmp 6), 0, false⟩,⟨some 38, none, .call 34 [(.tmp 36), (.tmp 37)], 0, false⟩,⟨some 39, none, .len false (.tmp 38), 0, false⟩,⟨some 40, none, .mv (.con (.val (.int .i64 0))), 0, false⟩])
 (.block 2
 (.loop [1, 2, 3, 4, 5, 6, 38, 39, 40] t12L1))))
 (.seq (.seq (.regN [1, 2, 3, 4, 5, 6] [
 ⟨some 96, none, .ld1 none (.tmp 6), 0, false⟩])
 (.regN [1, 2, 3, 4, 5, 96] [
 ⟨some 6, none, .allocH [(.val (.int .i64 0))], 0, false⟩,⟨none, none, .st none 1 (.tmp 6) (.tmp 96), 0, false⟩]))
 (.regN [1, 2, 3, 4, 5, 6] [
 ⟨some 33, none, .call 33 [(.tmp 5)], 0, false⟩,⟨some 32, none, .mv (.tmp 33), 0, false⟩,⟨some 34, none, .ext (.tmp 32) 0, 0, false⟩,⟨some 35, none, .ext (.tmp 32) 1, 0, false⟩,⟨none, none, .st none 1 (.tmp 6) (.tmp 34), 0, false⟩,⟨some 7, none, .mv (.tmp 35), 0, false⟩]))))
def t12B : AC := (.seq (.regN [0] [
 ⟨some 1, none, .boxH 4 (.tmp 0), 0, false⟩,⟨some 2, none, .mv (.con .e0), 0, false⟩])
 (.seq (.seq (.regN [1, 2] [
 ⟨some 15, none, .ldA none 4 (.tmp 1), 0, false⟩,⟨some 16, none, .call 30 [(.tmp 15)], 0, false⟩,⟨some 17, none, .bini .neq (.tmp 16) (.con (.val (.int .i64 0))), 0, false⟩])
 (.cond (.tmp 17)
 (.seq (.regN [] [
 ⟨some 2, none, .mv (.con .e0), 0, false⟩])
 .ret)
 .skip))
 (.seq (.regN [1, 2] [
 ⟨some 18, none, .ldA none 4 (.tmp 1), 0, false⟩,⟨some 19, none, .call 31 [(.tmp 18)], 0, false⟩,⟨some 3, none, .allocH [.e0], 0, false⟩,⟨none, none, .st none 1 (.tmp 3) (.tmp 19), 0, false⟩])
 (.seq (.regN [1, 2, 3] [
 ⟨some 20, none, .fldA 1 (.tmp 1), 0, false⟩,⟨some 21, none, .ld1 none (.tmp 20), 0, false⟩,⟨some 22, none, .mks 1 24 [.e0] (.tmp 21), 0, false⟩,⟨some 4, none, .allocH [.e0], 0, false⟩,⟨none, none, .st none 1 (.tmp 4) (.tmp 22), 0, false⟩])
 (.seq (.regN [1, 2, 3, 4] [
 ⟨some 23, none, .ld1 none (.tmp 4), 0, false⟩,⟨some 24, none, .buildS 1 [(.val (.string ⟨#[]⟩))] [(0, 1, (.con (.val (.string ⟨#[255]⟩))))], 0, false⟩,⟨some 25, none, .ixA 1 (.tmp 23) (.con (.val (.int .i64 0))), 0, false⟩,⟨none, none, .st none 1 (.tmp 25) (.tmp 24), 0, false⟩])
 (.seq (.regN [1, 2, 3, 4] [
 ⟨some 5, none, .allocH [.e0, (.val (.bool false)), (.val (.bool false)), (.val (.bool false)), (.val (.bool false)), (.val (.bool false)), (.val (.bool false)), (.val (.bool false)), (.val (.bool false)), (.val (.bool false)), (.val (.bool false)), (.val (.bool false)), (.val (.bool false)), (.val (.bool false)), (.val (.bool false)), (.val (.bool false)), (.val (.bool false))], 0, false⟩])
 (.seq (.regN [1, 2, 3, 4, 5] [
 ⟨some 26, none, .call 32 [(.tmp 5), (.con (.val (.int .i64 0)))], 0, false⟩])
 (.seq (.seq (.regN [1, 2, 3, 4, 5] [
 ⟨some 28, none, .call 33 [(.tmp 5)], 0, false⟩,⟨some 27, none, .mv (.tmp 28), 0, false⟩,⟨some 29, none, .ext (.tmp 27) 0, 0, false⟩,⟨some 30, none, .ext (.tmp 27) 1, 0, false⟩,⟨some 6, none, .allocH [(.val (.int .i64 0))], 0, false⟩,⟨none, none, .st none 1 (.tmp 6) (.tmp 29), 0, false⟩,⟨some 7, none, .mv (.tmp 30), 0, false⟩])
 (.block 0
 (.loop [1, 2, 3, 4, 5, 6, 7] t12L2)))
 (.seq (.regN [4] [
 ⟨some 97, none, .ld1 none (.tmp 4), 0, false⟩,⟨some 2, none, .mv (.tmp 97), 0, false⟩])
 .ret)))))))))
def t12 : AFn := ⟨1, t12B,
 [.tmp 2], true⟩
def t30L1 : AC := (.seq (.regN [1, 39, 40, 41] [
 ⟨some 42, none, .bini .lss (.tmp 41) (.tmp 40), 0, false⟩])
 (.seq (.cond (.tmp 42)
 .skip
 (.exit 0))
 (.seq (.block 1
 (.seq (.regN [1, 39, 40, 41] [
 ⟨some 43, none, .ixA 2 (.tmp 39) (.tmp 41), 0, false⟩,⟨some 44, none, .ldA none 2 (.tmp 43), 0, false⟩,⟨some 4, none, .allocR [(.val (.int .i64 0)), .e0], 0, false⟩,⟨none, none, .st (some 4) 2 (.tmp 4) (.tmp 44), 0, false⟩])
 (.seq (.regN [1, 4, 39, 40, 41] [
 ⟨some 45, none, .fldA 0 (.tmp 4), 0, false⟩,⟨some 46, none, .ld1 (some 4) (.tmp 45), 0, false⟩,⟨some 47, none, .bini .lss (.tmp 46) (.con (.val (.int .i64 0))), 0, false⟩,⟨some 48, none, .mv (.tmp 47), 0, false⟩,⟨some 49, some (48, false), .fldA 0 (.tmp 4), 0, false⟩,⟨some 50, some (48, false), .ld1 (some 4) (.tmp 49), 0, false⟩,⟨some 51, some (48, false), .fldA 1 (.tmp 1), 0, false⟩,⟨some 52, some (48, false), .ld1 none (.tmp 51), 0, false⟩,⟨some 53, some (48, false), .bini .geq (.tmp 50) (.tmp 52), 0, false⟩,⟨some 54, none, .pick (.tmp 48) (.con (.val (.bool true))) (.tmp 53), 0, false⟩,⟨some 55, none, .mv (.tmp 54), 0, false⟩,⟨some 56, some (55, false), .fldA 1 (.tmp 4), 0, false⟩,⟨some 57, some (55, false), .ld1 (some 4) (.tmp 56), 0, false⟩,⟨some 58, some (55, false), .mkf 49 [(.tmp 1)], 0, false⟩,⟨some 59, some (55, false), .call 48 [(.tmp 57), (.tmp 58)], 0, false⟩,⟨some 60, none, .pick (.tmp 55) (.con (.val (.bool true))) (.tmp 59), 0, false⟩])
 (.cond (.tmp 60)
 (.seq (.regN [] [
 ⟨some 2, none, .mv (.con (.val (.int .i64 2))), 0, false⟩])
 .ret)
 .skip))))
 (.regN [1, 39, 40, 41] [
 ⟨some 61, none, .bini .add (.tmp 41) (.con (.val (.int .i64 1))), 0, false⟩,⟨some 41, none, .mv (.tmp 61), 0, false⟩]))))
def t30B : AC := (.seq (.regN [0] [
 ⟨some 1, none, .boxH 4 (.tmp 0), 0, false⟩,⟨some 2, none, .mv (.con (.val (.int .i64 0))), 0, false⟩])
 (.seq (.seq (.regN [1] [
 ⟨some 5, none, .fldA 0 (.tmp 1), 0, false⟩,⟨some 6, none, .ld1 none (.tmp 5), 0, false⟩,⟨some 7, none, .bini .gtr (.tmp 6) (.con (.val (.int .i64 8))), 0, false⟩,⟨some 8, none, .mv (.tmp 7), 0, false⟩,⟨some 9, some (8, false), .fldA 1 (.tmp 1), 0, false⟩,⟨some 10, some (8, false), .ld1 none (.tmp 9), 0, false⟩,⟨some 11, some (8, false), .bini .gtr (.tmp 10) (.con (.val (.int .i64 16))), 0, false⟩,⟨some 12, none, .pick (.tmp 8) (.con (.val (.bool true))) (.tmp 11), 0, false⟩,⟨some 13, none, .mv (.tmp 12), 0, false⟩,⟨some 14, some (13, false), .fldA 2 (.tmp 1), 0, false⟩,⟨some 15, some (13, false), .ld1 none (.tmp 14), 0, false⟩,⟨some 16, some (13, false), .bini .gtr (.tmp 15) (.con (.val (.int .i64 3))), 0, false⟩,⟨some 17, none, .pick (.tmp 13) (.con (.val (.bool true))) (.tmp 16), 0, false⟩,⟨some 18, none, .mv (.tmp 17), 0, false⟩,⟨some 19, some (18, false), .fldA 3 (.tmp 1), 0, false⟩,⟨some 20, some (18, false), .ld1 none (.tmp 19), 0, false⟩,⟨some 21, some (18, false), .len false (.tmp 20), 0, false⟩,⟨some 22, some (18, false), .bini .gtr (.tmp 21) (.con (.val (.int .i64 64))), 0, false⟩,⟨some 23, none, .pick (.tmp 18) (.con (.val (.bool true))) (.tmp 22), 0, false⟩])
 (.cond (.tmp 23)
 (.seq (.regN [] [
 ⟨some 2, none, .mv (.con (.val (.int .i64 3))), 0, false⟩])
 .ret)
 .skip))
 (.seq (.seq (.regN [1] [
 ⟨some 24, none, .fldA 3 (.tmp 1), 0, false⟩,⟨some 25, none, .ld1 none (.tmp 24), 0, false⟩,⟨some 26, none, .call 46 [(.tmp 25), (.con (.fn 47 []))], 0, false⟩])
 (.cond (.tmp 26)
 (.seq (.regN [] [
 ⟨some 2, none, .mv (.con (.val (.int .i64 3))), 0, false⟩])
 .ret)
 .skip))
 (.seq (.seq (.regN [1] [
 ⟨some 27, none, .fldA 0 (.tmp 1), 0, false⟩,⟨some 28, none, .ld1 none (.tmp 27), 0, false⟩,⟨some 29, none, .fldA 1 (.tmp 1), 0, false⟩,⟨some 30, none, .ld1 none (.tmp 29), 0, false⟩,⟨some 31, none, .fldA 2 (.tmp 1), 0, false⟩,⟨some 32, none, .ld1 none (.tmp 31), 0, false⟩,⟨some 33, none, .fldA 3 (.tmp 1), 0, false⟩,⟨some 34, none, .ld1 none (.tmp 33), 0, false⟩,⟨some 35, none, .len false (.tmp 34), 0, false⟩,⟨some 36, none, .mm false [(.tmp 28), (.tmp 30), (.tmp 32), (.tmp 35)], 0, false⟩,⟨some 37, none, .bini .lss (.tmp 36) (.con (.val (.int .i64 1))), 0, false⟩])
 (.cond (.tmp 37)
 (.seq (.regN [] [
 ⟨some 2, none, .mv (.con (.val (.int .i64 2))), 0, false⟩])
 .ret)
 .skip))
 (.seq (.seq (.regN [1] [
 ⟨some 38, none, .fldA 3 (.tmp 1), 0, false⟩,⟨some 39, none, .ld1 none (.tmp 38), 0, false⟩,⟨some 40, none, .len false (.tmp 39), 0, false⟩,⟨some 41, none, .mv (.con (.val (.int .i64 0))), 0, false⟩])
 (.block 0
 (.loop [1, 39, 40, 41] t30L1)))
 (.seq (.regN [] [
 ⟨some 2, none, .mv (.con (.val (.int .i64 0))), 0, false⟩])
 .ret))))))
def t30 : AFn := ⟨1, t30B,
 [.tmp 2], true⟩
def t46B : AC := (.seq (.regN [0, 1] [
 ⟨some 4, none, .mv (.con (.val (.bool false))), 0, false⟩])
 (.seq (.regN [0, 1] [
 ⟨some 5, none, .mv (.tmp 0), 0, false⟩,⟨some 6, none, .mv (.tmp 1), 0, false⟩,⟨some 7, none, .call 61 [(.tmp 5), (.tmp 6)], 0, false⟩,⟨some 8, none, .bini .geq (.tmp 7) (.con (.val (.int .i64 0))), 0, false⟩,⟨some 4, none, .mv (.tmp 8), 0, false⟩])
 .ret))
def t46 : AFn := ⟨2, t46B,
 [.tmp 4], true⟩
def t61L1 : AC := (.seq (.regN [0, 1, 7, 8] [
 ⟨some 9, none, .bini .lss (.tmp 8) (.tmp 7), 0, false⟩])
 (.seq (.cond (.tmp 9)
 .skip
 (.exit 0))
 (.seq (.block 1
 (.seq (.regN [0, 1, 7, 8] [
 ⟨some 10, none, .mv (.tmp 8), 0, false⟩,⟨some 5, none, .mv (.tmp 10), 0, false⟩])
 (.seq (.regN [0, 1, 5, 7, 8] [
 ⟨some 11, none, .mv (.tmp 1), 0, false⟩,⟨some 12, none, .mv (.tmp 0), 0, false⟩,⟨some 13, none, .mv (.tmp 5), 0, false⟩,⟨some 14, none, .ixA 2 (.tmp 12) (.tmp 13), 0, false⟩,⟨some 15, none, .ldA none 2 (.tmp 14), 0, false⟩,⟨some 16, none, .callv (.tmp 11) [(.tmp 15)], 0, false⟩])
 (.cond (.tmp 16)
 (.seq (.regN [5] [
 ⟨some 17, none, .mv (.tmp 5), 0, false⟩,⟨some 4, none, .mv (.tmp 17), 0, false⟩])
 .ret)
 .skip))))
 (.regN [0, 1, 7, 8] [
 ⟨some 18, none, .bini .add (.tmp 8) (.con (.val (.int .i64 1))), 0, false⟩,⟨some 8, none, .mv (.tmp 18), 0, false⟩]))))
def t61B : AC := (.seq (.regN [0, 1] [
 ⟨some 4, none, .mv (.con (.val (.int .i64 0))), 0, false⟩])
 (.seq (.seq (.regN [0, 1] [
 ⟨some 6, none, .mv (.tmp 0), 0, false⟩,⟨some 7, none, .len false (.tmp 6), 0, false⟩,⟨some 8, none, .mv (.con (.val (.int .i64 0))), 0, false⟩])
 (.block 0
 (.loop [0, 1, 7, 8] t61L1)))
 (.seq (.regN [] [
 ⟨some 4, none, .mv (.con (.val (.int .i64 (-1)))), 0, false⟩])
 .ret)))
def t61 : AFn := ⟨2, t61B,
 [.tmp 4], true⟩
def t47B : AC := (.seq (.regN [0] [
 ⟨some 1, none, .boxR 2 (.tmp 0), 0, false⟩,⟨some 2, none, .mv (.con (.val (.bool false))), 0, false⟩])
 (.seq (.regN [1] [
 ⟨some 3, none, .fldA 1 (.tmp 1), 0, false⟩,⟨some 4, none, .ld1 (some 1) (.tmp 3), 0, false⟩,⟨some 5, none, .len false (.tmp 4), 0, false⟩,⟨some 6, none, .bini .gtr (.tmp 5) (.con (.val (.int .i64 8))), 0, false⟩,⟨some 2, none, .mv (.tmp 6), 0, false⟩])
 .ret))
def t47 : AFn := ⟨1, t47B,
 [.tmp 2], true⟩
def t49B : AC := (.seq (.regN [0, 1] [
 ⟨some 3, none, .mv (.con (.val (.bool false))), 0, false⟩])
 (.seq (.regN [0, 1] [
 ⟨some 4, none, .mv (.tmp 0), 0, false⟩,⟨some 5, none, .bini .lss (.tmp 4) (.con (.val (.int .i64 0))), 0, false⟩,⟨some 6, none, .mv (.tmp 5), 0, false⟩,⟨some 7, some (6, false), .mv (.tmp 0), 0, false⟩,⟨some 8, some (6, false), .fldA 0 (.tmp 1), 0, false⟩,⟨some 9, some (6, false), .ld1 none (.tmp 8), 0, false⟩,⟨some 10, some (6, false), .fldA 1 (.tmp 1), 0, false⟩,⟨some 11, some (6, false), .ld1 none (.tmp 10), 0, false⟩,⟨some 12, some (6, false), .bini .add (.tmp 9) (.tmp 11), 0, false⟩,⟨some 13, some (6, false), .bini .geq (.tmp 7) (.tmp 12), 0, false⟩,⟨some 14, none, .pick (.tmp 6) (.con (.val (.bool true))) (.tmp 13), 0, false⟩,⟨some 3, none, .mv (.tmp 14), 0, false⟩])
 .ret))
def t49 : AFn := ⟨2, t49B,
 [.tmp 3], true⟩
def t48B : AC := (.seq (.regN [0, 1] [
 ⟨some 4, none, .mv (.con (.val (.bool false))), 0, false⟩])
 (.seq (.regN [0, 1] [
 ⟨some 5, none, .mv (.tmp 0), 0, false⟩,⟨some 6, none, .mv (.tmp 1), 0, false⟩,⟨some 7, none, .call 62 [(.tmp 5), (.tmp 6)], 0, false⟩,⟨some 8, none, .bini .geq (.tmp 7) (.con (.val (.int .i64 0))), 0, false⟩,⟨some 4, none, .mv (.tmp 8), 0, false⟩])
 .ret))
def t48 : AFn := ⟨2, t48B,
 [.tmp 4], true⟩
def t62L1 : AC := (.seq (.regN [0, 1, 7, 8] [
 ⟨some 9, none, .bini .lss (.tmp 8) (.tmp 7), 0, false⟩])
 (.seq (.cond (.tmp 9)
 .skip
 (.exit 0))
 (.seq (.block 1
 (.seq (.regN [0, 1, 7, 8] [
 ⟨some 10, none, .mv (.tmp 8), 0, false⟩,⟨some 5, none, .mv (.tmp 10), 0, false⟩])
 (.seq (.regN [0, 1, 5, 7, 8] [
 ⟨some 11, none, .mv (.tmp 1), 0, false⟩,⟨some 12, none, .mv (.tmp 0), 0, false⟩,⟨some 13, none, .mv (.tmp 5), 0, false⟩,⟨some 14, none, .ixA 1 (.tmp 12) (.tmp 13), 0, false⟩,⟨some 15, none, .ld1 none (.tmp 14), 0, false⟩,⟨some 16, none, .callv (.tmp 11) [(.tmp 15)], 0, false⟩])
 (.cond (.tmp 16)
 (.seq (.regN [5] [
 ⟨some 17, none, .mv (.tmp 5), 0, false⟩,⟨some 4, none, .mv (.tmp 17), 0, false⟩])
 .ret)
 .skip))))
 (.regN [0, 1, 7, 8] [
 ⟨some 18, none, .bini .add (.tmp 8) (.con (.val (.int .i64 1))), 0, false⟩,⟨some 8, none, .mv (.tmp 18), 0, false⟩]))))
def t62B : AC := (.seq (.regN [0, 1] [
 ⟨some 4, none, .mv (.con (.val (.int .i64 0))), 0, false⟩])
 (.seq (.seq (.regN [0, 1] [
 ⟨some 6, none, .mv (.tmp 0), 0, false⟩,⟨some 7, none, .len false (.tmp 6), 0, false⟩,⟨some 8, none, .mv (.con (.val (.int .i64 0))), 0, false⟩])
 (.block 0
 (.loop [0, 1, 7, 8] t62L1)))
 (.seq (.regN [] [
 ⟨some 4, none, .mv (.con (.val (.int .i64 (-1)))), 0, false⟩])
 .ret)))
def t62 : AFn := ⟨2, t62B,
 [.tmp 4], true⟩
def t31L1 : AC := (.seq (.regN [1, 3, 4, 16, 17, 18] [
 ⟨some 19, none, .bini .lss (.tmp 18) (.tmp 17), 0, false⟩])
 (.seq (.cond (.tmp 19)
 .skip
 (.exit 2))
 (.seq (.block 3
 (.seq (.regN [1, 3, 4, 16, 17, 18] [
 ⟨some 20, none, .ixA 2 (.tmp 16) (.tmp 18), 0, false⟩,⟨some 21, none, .ldA none 2 (.tmp 20), 0, false⟩,⟨some 6, none, .allocR [(.val (.int .i64 0)), .e0], 0, false⟩,⟨none, none, .st (some 6) 2 (.tmp 6) (.tmp 21), 0, false⟩])
 (.seq (.regD [1, 3, 4, 6, 16, 17, 18] 0 [
 ⟨some 22, none, .mv (.tmp 3), 0, false⟩,⟨some 23, none, .fldA 0 (.tmp 6), 0, false⟩,⟨some 24, none, .ld1 (some 6) (.tmp 23), 0, false⟩,⟨some 25, none, .ixA 1 (.tmp 22) (.tmp 24), 0, false⟩,⟨some 26, none, .ld1 none (.tmp 25), 0, false⟩,⟨some 27, none, .ldA (some 1) 4 (.tmp 1), 0, false⟩,⟨some 28, none, .mv (.tmp 3), 0, false⟩,⟨some 29, none, .fldA 1 (.tmp 6), 0, false⟩,⟨some 30, none, .ld1 (some 6) (.tmp 29), 0, false⟩,⟨some 31, none, .call 50 [(.tmp 27), (.tmp 28), (.tmp 30)], 0, false⟩,⟨some 32, none, .call 36 [(.tmp 26), (.tmp 31)], 0, true⟩,⟨some 7, none, .mv (.tmp 32), 0, false⟩])
 (.seq (.regN [1, 3, 4, 6, 7, 16, 17, 18] [
 ⟨some 33, none, .mv (.tmp 4), 0, false⟩,⟨some 34, none, .mv (.tmp 33), 0, false⟩,⟨some 35, some (34, false), .mv (.tmp 7), 0, false⟩,⟨some 36, some (34, false), .len false (.tmp 35), 0, false⟩,⟨some 37, some (34, false), .mv (.tmp 3), 0, false⟩,⟨some 38, some (34, false), .fldA 0 (.tmp 6), 0, false⟩,⟨some 39, some (34, false), .ld1 (some 6) (.tmp 38), 0, false⟩,⟨some 40, some (34, false), .ixA 1 (.tmp 37) (.tmp 39), 0, false⟩,⟨some 41, some (34, false), .ld1 none (.tmp 40), 0, false⟩,⟨some 42, some (34, false), .len false (.tmp 41), 0, false⟩,⟨some 43, some (34, false), .bini .gtr (.tmp 36) (.tmp 42), 0, false⟩,⟨some 44, none, .pick (.tmp 34) (.con (.val (.bool true))) (.tmp 43), 0, false⟩,⟨some 4, none, .mv (.tmp 44), 0, false⟩])
 (.regN [1, 3, 4, 6, 7, 16, 17, 18] [
 ⟨some 45, none, .mv (.tmp 3), 0, false⟩,⟨some 46, none, .fldA 0 (.tmp 6), 0, false⟩,⟨some 47, none, .ld1 (some 6) (.tmp 46), 0, false⟩,⟨some 48, none, .mv (.tmp 7), 0, false⟩,⟨some 49, none, .ixA 1 (.tmp 45) (.tmp 47), 0, false⟩,⟨none, none, .st none 1 (.tmp 49) (.tmp 48), 0, false⟩])))))
 (.regN [1, 3, 4, 16, 17, 18] [
 ⟨some 50, none, .bini .add (.tmp 18) (.con (.val (.int .i64 1))), 0, false⟩,⟨some 18, none, .mv (.tmp 50), 0, false⟩]))))
def t31L2 : AC := (.seq (.seq (.regN [1, 3, 4] [
 ⟨some 14, none, .mv (.tmp 4), 0, false⟩])
 (.cond (.tmp 14)
 .skip
 (.exit 0)))
 (.block 1
 (.seq (.regN [1, 3] [
 ⟨some 4, none, .mv (.con (.val (.bool false))), 0, false⟩])
 (.seq (.regN [1, 3, 4] [
 ⟨some 15, none, .fldA 3 (.tmp 1), 0, false⟩,⟨some 16, none, .ld1 (some 1) (.tmp 15), 0, false⟩,⟨some 17, none, .len false (.tmp 16), 0, false⟩,⟨some 18, none, .mv (.con (.val (.int .i64 0))), 0, false⟩])
 (.block 2
 (.loop [1, 3, 4, 16, 17, 18] t31L1))))))
def t31B : AC := (.seq (.regN [0] [
 ⟨some 1, none, .boxR 4 (.tmp 0), 0, false⟩,⟨some 2, none, .mv (.con .e0), 0, false⟩])
 (.seq (.seq (.regN [1] [
 ⟨some 8, none, .ldA (some 1) 4 (.tmp 1), 0, false⟩,⟨some 9, none, .call 30 [(.tmp 8)], 0, false⟩,⟨some 10, none, .bini .neq (.tmp 9) (.con (.val (.int .i64 0))), 0, false⟩])
 (.cond (.tmp 10)
 (.seq (.regN [] [
 ⟨some 2, none, .mv (.con .e0), 0, false⟩])
 .ret)
 .skip))
 (.seq (.regN [1] [
 ⟨some 11, none, .fldA 1 (.tmp 1), 0, false⟩,⟨some 12, none, .ld1 (some 1) (.tmp 11), 0, false⟩,⟨some 13, none, .mks 1 24 [.e0] (.tmp 12), 0, false⟩,⟨some 3, none, .mv (.tmp 13), 0, false⟩])
 (.seq (.seq (.regN [1, 3] [
 ⟨some 4, none, .mv (.con (.val (.bool true))), 0, false⟩])
 (.block 0
 (.loop [1, 3, 4] t31L2)))
 (.seq (.regN [3] [
 ⟨some 51, none, .mv (.tmp 3), 0, false⟩,⟨some 2, none, .mv (.tmp 51), 0, false⟩])
 .ret)))))
def t31 : AFn := ⟨1, t31B,
 [.tmp 2], true⟩
def t50L1 : AC := (.seq (.regN [1, 3, 7, 12, 13, 14] [
 ⟨some 15, none, .bini .lss (.tmp 14) (.tmp 13), 0, false⟩])
 (.seq (.cond (.tmp 15)
 .skip
 (.exit 0))
 (.seq (.block 1
 (.seq (.regN [1, 3, 7, 12, 13, 14] [
 ⟨some 16, none, .ixA 1 (.tmp 12) (.tmp 14), 0, false⟩,⟨some 17, none, .ld1 none (.tmp 16), 0, false⟩,⟨some 9, none, .mv (.tmp 17), 0, false⟩])
 (.seq (.regN [1, 3, 7, 9, 12, 13, 14] [
 ⟨some 18, none, .mv (.tmp 9), 0, false⟩,⟨some 19, none, .cvi .u8 (.tmp 18), 0, false⟩,⟨some 20, none, .buildS 1 [(.val (.int .u8 0))] [(0, 1, (.tmp 19))], 0, false⟩,⟨some 21, none, .b2s (.tmp 20), 0, false⟩,⟨some 22, none, .buildS 1 [(.val (.string ⟨#[]⟩))] [(0, 1, (.tmp 21))], 0, false⟩,⟨some 10, none, .mv (.tmp 22), 0, false⟩])
 (.seq (.seq (.regN [1, 3, 7, 9, 10, 12, 13, 14] [
 ⟨some 23, none, .mv (.tmp 9), 0, false⟩,⟨some 24, none, .fldA 0 (.tmp 3), 0, false⟩,⟨some 25, none, .ld1 (some 3) (.tmp 24), 0, false⟩,⟨some 26, none, .bini .geq (.tmp 23) (.tmp 25), 0, false⟩])
 (.cond (.tmp 26)
 (.regN [1, 3, 7, 9, 12, 13, 14] [
 ⟨some 27, none, .mv (.tmp 1), 0, false⟩,⟨some 28, none, .mv (.tmp 9), 0, false⟩,⟨some 29, none, .fldA 0 (.tmp 3), 0, false⟩,⟨some 30, none, .ld1 (some 3) (.tmp 29), 0, false⟩,⟨some 31, none, .bini .sub (.tmp 28) (.tmp 30), 0, false⟩,⟨some 32, none, .ixA 1 (.tmp 27) (.tmp 31), 0, false⟩,⟨some 33, none, .ld1 none (.tmp 32), 0, false⟩,⟨some 10, none, .mv (.tmp 33), 0, false⟩])
 .skip))
 (.regN [1, 3, 7, 10, 12, 13, 14] [
 ⟨some 34, none, .fldA 2 (.tmp 3), 0, false⟩,⟨some 35, none, .ld1 (some 3) (.tmp 34), 0, false⟩,⟨some 36, none, .mv (.tmp 7), 0, false⟩,⟨some 37, none, .mv (.tmp 10), 0, false⟩,⟨some 38, none, .call 37 [(.tmp 35), (.tmp 36), (.tmp 37)], 0, false⟩,⟨some 7, none, .mv (.tmp 38), 0, false⟩])))))
 (.regN [1, 3, 7, 12, 13, 14] [
 ⟨some 39, none, .bini .add (.tmp 14) (.con (.val (.int .i64 1))), 0, false⟩,⟨some 14, none, .mv (.tmp 39), 0, false⟩]))))
def t50B : AC := (.seq (.regN [0, 1, 2] [
 ⟨some 3, none, .boxR 4 (.tmp 0), 0, false⟩,⟨some 6, none, .mv (.con .e0), 0, false⟩])
 (.seq (.regN [1, 2, 3] [
 ⟨some 11, none, .buildS 1 [(.val (.string ⟨#[]⟩))] [(0, 1, (.con (.val (.string ⟨#[]⟩))))], 0, false⟩,⟨some 7, none, .mv (.tmp 11), 0, false⟩])
 (.seq (.seq (.regN [1, 2, 3, 7] [
 ⟨some 12, none, .mv (.tmp 2), 0, false⟩,⟨some 13, none, .len false (.tmp 12), 0, false⟩,⟨some 14, none, .mv (.con (.val (.int .i64 0))), 0, false⟩])
 (.block 0
 (.loop [1, 3, 7, 12, 13, 14] t50L1)))
 (.seq (.regN [7] [
 ⟨some 40, none, .mv (.tmp 7), 0, false⟩,⟨some 6, none, .mv (.tmp 40), 0, false⟩])
 .ret))))
def t50 : AFn := ⟨3, t50B,
 [.tmp 6], true⟩
def t37L1 : AC := (.seq (.regN [0, 2, 7, 9, 19, 20, 21, 37, 38, 39] [
 ⟨some 40, none, .bini .lss (.tmp 39) (.tmp 38), 0, false⟩])
 (.seq (.cond (.tmp 40)
 .skip
 (.exit 2))
 (.seq (.block 3
 (.seq (.regN [0, 2, 7, 9, 19, 20, 21, 37, 38, 39] [
 ⟨some 41, none, .ixA 1 (.tmp 37) (.tmp 39), 0, false⟩,⟨some 42, none, .ld1 none (.tmp 41), 0, false⟩,⟨some 11, none, .mv (.tmp 42), 0, false⟩])
 (.seq (.regN [0, 2, 7, 9, 11, 19, 20, 21, 37, 38, 39] [
 ⟨some 43, none, .mv (.tmp 9), 0, false⟩,⟨some 44, none, .mv (.tmp 11), 0, false⟩,⟨some 45, none, .bins .add (.tmp 43) (.tmp 44), 0, false⟩,⟨some 12, none, .mv (.tmp 45), 0, false⟩])
 (.regN [0, 2, 7, 9, 12, 19, 20, 21, 37, 38, 39] [
 ⟨some 46, none, .mv (.tmp 7), 0, false⟩,⟨some 47, none, .mv (.tmp 12), 0, false⟩,⟨some 48, none, .mv (.tmp 0), 0, false⟩,⟨some 49, none, .mv (.tmp 12), 0, false⟩,⟨some 50, none, .len true (.tmp 49), 0, false⟩,⟨some 51, none, .mm false [(.tmp 48), (.tmp 50)], 0, false⟩,⟨some 52, none, .slS (.tmp 47) none (some (.tmp 51)), 0, false⟩,⟨some 53, none, .buildS 1 [(.val (.string ⟨#[]⟩))] [(0, 1, (.tmp 52))], 0, false⟩,⟨some 54, none, .call 57 [(.tmp 46), (.tmp 53)], 0, false⟩]))))
 (.regN [0, 2, 7, 9, 19, 20, 21, 37, 38, 39] [
 ⟨some 55, none, .bini .add (.tmp 39) (.con (.val (.int .i64 1))), 0, false⟩,⟨some 39, none, .mv (.tmp 55), 0, false⟩]))))
def t37L2 : AC := (.seq (.regN [0, 2, 7, 19, 20, 21] [
 ⟨some 22, none, .bini .lss (.tmp 21) (.tmp 20), 0, false⟩])
 (.seq (.cond (.tmp 22)
 .skip
 (.exit 0))
 (.seq (.block 1
 (.seq (.regN [0, 2, 7, 19, 20, 21] [
 ⟨some 23, none, .ixA 1 (.tmp 19) (.tmp 21), 0, false⟩,⟨some 24, none, .ld1 none (.tmp 23), 0, false⟩,⟨some 9, none, .mv (.tmp 24), 0, false⟩])
 (.seq (.seq (.regN [0, 2, 7, 9, 19, 20, 21] [
 ⟨some 25, none, .mv (.tmp 0), 0, false⟩,⟨some 26, none, .mv (.tmp 9), 0, false⟩,⟨some 27, none, .call 56 [(.tmp 25), (.tmp 26)], 0, false⟩])
 (.cond (.tmp 27)
 (.seq (.regN [0, 2, 7, 9, 19, 20, 21] [
 ⟨some 28, none, .mv (.tmp 7), 0, false⟩,⟨some 29, none, .mv (.tmp 9), 0, false⟩,⟨some 30, none, .mv (.tmp 0), 0, false⟩,⟨some 31, none, .mv (.tmp 9), 0, false⟩,⟨some 32, none, .len true (.tmp 31), 0, false⟩,⟨some 33, none, .mm false [(.tmp 30), (.tmp 32)], 0, false⟩,⟨some 34, none, .slS (.tmp 29) none (some (.tmp 33)), 0, false⟩,⟨some 35, none, .buildS 1 [(.val (.string ⟨#[]⟩))] [(0, 1, (.tmp 34))], 0, false⟩,⟨some 36, none, .call 57 [(.tmp 28), (.tmp 35)], 0, false⟩])
 (.exit 1))
 .skip))
 (.seq (.regN [0, 2, 7, 9, 19, 20, 21] [
 ⟨some 37, none, .mv (.tmp 2), 0, false⟩,⟨some 38, none, .len false (.tmp 37), 0, false⟩,⟨some 39, none, .mv (.con (.val (.int .i64 0))), 0, false⟩])
 (.block 2
 (.loop [0, 2, 7, 9, 19, 20, 21, 37, 38, 39] t37L1))))))
 (.regN [0, 2, 7, 19, 20, 21] [
 ⟨some 56, none, .bini .add (.tmp 21) (.con (.val (.int .i64 1))), 0, false⟩,⟨some 21, none, .mv (.tmp 56), 0, false⟩]))))
def t37B : AC := (.seq (.regN [0, 1, 2] [
 ⟨some 6, none, .mv (.con .e0), 0, false⟩])
 (.seq (.seq (.regN [0, 1, 2] [
 ⟨some 13, none, .mv (.tmp 2), 0, false⟩,⟨some 14, none, .len false (.tmp 13), 0, false⟩,⟨some 15, none, .bini .eql (.tmp 14) (.con (.val (.int .i64 0))), 0, false⟩])
 (.cond (.tmp 15)
 (.seq (.regN [] [
 ⟨some 6, none, .mv (.con .e0), 0, false⟩])
 .ret)
 .skip))
 (.seq (.regN [0, 1, 2] [
 ⟨some 16, none, .mv (.tmp 0), 0, false⟩,⟨some 17, none, .mm true [(.con (.val (.int .i64 0))), (.tmp 16)], 0, false⟩,⟨some 0, none, .mv (.tmp 17), 0, false⟩])
 (.seq (.regN [0, 1, 2] [
 ⟨some 18, none, .mkm, 0, false⟩,⟨some 7, none, .mv (.tmp 18), 0, false⟩])
 (.seq (.seq (.regN [0, 1, 2, 7] [
 ⟨some 19, none, .mv (.tmp 1), 0, false⟩,⟨some 20, none, .len false (.tmp 19), 0, false⟩,⟨some 21, none, .mv (.con (.val (.int .i64 0))), 0, false⟩])
 (.block 0
 (.loop [0, 2, 7, 19, 20, 21] t37L2)))
 (.seq (.regN [7] [
 ⟨some 57, none, .mv (.tmp 7), 0, false⟩,⟨some 58, none, .call 58 [(.tmp 57)], 0, false⟩,⟨some 6, none, .mv (.tmp 58), 0, false⟩])
 .ret))))))
def t37 : AFn := ⟨3, t37B,
 [.tmp 6], true⟩
def t56B : AC := (.seq (.regN [0, 1] [
 ⟨some 4, none, .mv (.con (.val (.bool false))), 0, false⟩])
 (.seq (.regN [0, 1] [
 ⟨some 5, none, .mv (.tmp 1), 0, false⟩,⟨some 6, none, .len true (.tmp 5), 0, false⟩,⟨some 7, none, .mv (.tmp 0), 0, false⟩,⟨some 8, none, .bini .geq (.tmp 6) (.tmp 7), 0, false⟩,⟨some 9, none, .mv (.tmp 8), 0, false⟩,⟨some 10, some (9, false), .mv (.tmp 1), 0, false⟩,⟨some 11, some (9, false), .bins .neq (.tmp 10) (.con (.val (.string ⟨#[]⟩))), 0, false⟩,⟨some 12, some (9, false), .mv (.tmp 11), 0, false⟩,⟨some 13, some (12, true), .mv (.tmp 1), 0, false⟩,⟨some 14, some (12, true), .mv (.tmp 1), 0, false⟩,⟨some 15, some (12, true), .len true (.tmp 14), 0, false⟩,⟨some 16, some (12, true), .bini .sub (.tmp 15) (.con (.val (.int .i64 1))), 0, false⟩,⟨some 17, some (12, true), .ixS (.tmp 13) (.tmp 16), 0, false⟩,⟨some 18, some (12, true), .bini .eql (.tmp 17) (.con (.val (.int .u8 255))), 0, false⟩,⟨some 19, some (9, false), .pick (.tmp 12) (.tmp 18) (.con (.val (.bool false))), 0, false⟩,⟨some 20, none, .pick (.tmp 9) (.con (.val (.bool true))) (.tmp 19), 0, false⟩,⟨some 4, none, .mv (.tmp 20), 0, false⟩])
 .ret))
def t56 : AFn := ⟨2, t56B,
 [.tmp 4], true⟩
def t57L1 : AC := (.seq (.regN [0, 6, 7, 8] [
 ⟨some 9, none, .bini .lss (.tmp 8) (.tmp 7), 0, false⟩])
 (.seq (.cond (.tmp 9)
 .skip
 (.exit 0))
 (.seq (.block 1
 (.seq (.regN [0, 6, 7, 8] [
 ⟨some 10, none, .ixA 1 (.tmp 6) (.tmp 8), 0, false⟩,⟨some 11, none, .ld1 none (.tmp 10), 0, false⟩,⟨some 5, none, .mv (.tmp 11), 0, false⟩])
 (.regN [0, 5, 6, 7, 8] [
 ⟨some 12, none, .mv (.tmp 0), 0, false⟩,⟨some 13, none, .mv (.tmp 5), 0, false⟩,⟨some 14, none, .build [] [], 0, false⟩,⟨none, none, .mup false [2] (.tmp 12) (.tmp 13) (.tmp 14), 0, false⟩])))
 (.regN [0, 6, 7, 8] [
 ⟨some 15, none, .bini .add (.tmp 8) (.con (.val (.int .i64 1))), 0, false⟩,⟨some 8, none, .mv (.tmp 15), 0, false⟩]))))
def t57B : AC := (.seq (.regN [0, 1] [
 ⟨some 6, none, .mv (.tmp 1), 0, false⟩,⟨some 7, none, .len false (.tmp 6), 0, false⟩,⟨some 8, none, .mv (.con (.val (.int .i64 0))), 0, false⟩])
 (.block 0
 (.loop [0, 6, 7, 8] t57L1)))
def t57 : AFn := ⟨2, t57B,
 [], true⟩
def t32B : AC := (.seq (.regN [0, 1] [
 ⟨some 4, none, .mv (.tmp 0), 0, false⟩,⟨some 5, none, .mv (.tmp 1), 0, false⟩,⟨some 6, none, .nilc (.tmp 4), 0, false⟩,⟨some 7, none, .fldA 1 (.tmp 6), 0, false⟩,⟨some 8, none, .ixR 16 1 (.tmp 7) (.tmp 5), 0, false⟩,⟨some 9, none, .ld1 none (.tmp 8), 0, false⟩,⟨some 10, none, .not (.tmp 9), 0, false⟩])
 (.cond (.tmp 10)
 (.seq (.regN [0, 1] [
 ⟨some 11, none, .mv (.tmp 0), 0, false⟩,⟨some 12, none, .mv (.tmp 1), 0, false⟩,⟨some 13, none, .nilc (.tmp 11), 0, false⟩,⟨some 14, none, .fldA 1 (.tmp 13), 0, false⟩,⟨some 15, none, .ixR 16 1 (.tmp 14) (.tmp 12), 0, false⟩,⟨none, none, .st none 1 (.tmp 15) (.con (.val (.bool true))), 0, false⟩])
 (.regN [0, 1] [
 ⟨some 16, none, .mv (.tmp 0), 0, false⟩,⟨some 17, none, .mv (.tmp 0), 0, false⟩,⟨some 18, none, .nilc (.tmp 17), 0, false⟩,⟨some 19, none, .fldA 0 (.tmp 18), 0, false⟩,⟨some 20, none, .ld1 none (.tmp 19), 0, false⟩,⟨some 21, none, .mv (.tmp 1), 0, false⟩,⟨some 22, none, .buildS 1 [(.val (.int .i64 0))] [(0, 1, (.tmp 21))], 0, false⟩,⟨some 23, none, .app 1 8 (.tmp 20) (.tmp 22), 0, false⟩,⟨some 24, none, .nilc (.tmp 16), 0, false⟩,⟨some 25, none, .fldA 0 (.tmp 24), 0, false⟩,⟨none, none, .st none 1 (.tmp 25) (.tmp 23), 0, false⟩]))
 .skip))
def t32 : AFn := ⟨2, t32B,
 [], false⟩
def t33B : AC := (.seq (.regN [0] [
 ⟨some 2, none, .mv (.con (.val (.int .i64 0))), 0, false⟩,⟨some 3, none, .mv (.con (.val (.bool false))), 0, false⟩])
 (.seq (.seq (.regN [0] [
 ⟨some 5, none, .mv (.tmp 0), 0, false⟩,⟨some 6, none, .nilc (.tmp 5), 0, false⟩,⟨some 7, none, .fldA 0 (.tmp 6), 0, false⟩,⟨some 8, none, .ld1 none (.tmp 7), 0, false⟩,⟨some 9, none, .len false (.tmp 8), 0, false⟩,⟨some 10, none, .bini .eql (.tmp 9) (.con (.val (.int .i64 0))), 0, false⟩])
 (.cond (.tmp 10)
 (.seq (.regN [] [
 ⟨some 2, none, .mv (.con (.val (.int .i64 0))), 0, false⟩,⟨some 3, none, .mv (.con (.val (.bool false))), 0, false⟩])
 .ret)
 .skip))
 (.seq (.regN [0] [
 ⟨some 11, none, .mv (.tmp 0), 0, false⟩,⟨some 12, none, .nilc (.tmp 11), 0, false⟩,⟨some 13, none, .fldA 0 (.tmp 12), 0, false⟩,⟨some 14, none, .ld1 none (.tmp 13), 0, false⟩,⟨some 15, none, .ixA 1 (.tmp 14) (.con (.val (.int .i64 0))), 0, false⟩,⟨some 16, none, .ld1 none (.tmp 15), 0, false⟩,⟨some 4, none, .mv (.tmp 16), 0, false⟩])
 (.seq (.regD [0, 4] 0 [
 ⟨some 17, none, .mv (.tmp 0), 0, false⟩,⟨some 18, none, .mv (.tmp 0), 0, false⟩,⟨some 19, none, .mv (.tmp 4), 0, false⟩,⟨some 20, none, .mv (.tmp 0), 0, false⟩,⟨some 21, none, .nilc (.tmp 20), 0, false⟩,⟨some 22, none, .fldA 0 (.tmp 21), 0, false⟩,⟨some 23, none, .ld1 none (.tmp 22), 0, false⟩,⟨some 24, none, .slC 1 (.tmp 23) (some (.con (.val (.int .i64 1)))) none, 0, false⟩,⟨some 25, none, .nilc (.tmp 17), 0, false⟩,⟨some 26, none, .fldA 0 (.tmp 25), 0, false⟩,⟨none, none, .st none 1 (.tmp 26) (.tmp 24), 0, false⟩,⟨some 27, none, .nilc (.tmp 18), 0, false⟩,⟨some 28, none, .fldA 1 (.tmp 27), 0, false⟩,⟨some 29, none, .ixR 16 1 (.tmp 28) (.tmp 19), 0, false⟩,⟨none, none, .st none 1 (.tmp 29) (.con (.val (.bool false))), 0, false⟩])
 (.seq (.regN [4] [
 ⟨some 30, none, .mv (.tmp 4), 0, false⟩,⟨some 2, none, .mv (.tmp 30), 0, false⟩,⟨some 3, none, .mv (.con (.val (.bool true))), 0, false⟩])
 .ret)))))
def t33 : AFn := ⟨1, t33B,
 [.tmp 2, .tmp 3], false⟩
def t34L1 : AC := (.seq (.regN [1, 4, 11, 12, 13] [
 ⟨some 14, none, .bini .lss (.tmp 13) (.tmp 12), 0, false⟩])
 (.seq (.cond (.tmp 14)
 .skip
 (.exit 0))
 (.seq (.block 1
 (.seq (.regN [1, 4, 11, 12, 13] [
 ⟨some 15, none, .mv (.tmp 13), 0, false⟩,⟨some 16, none, .ixA 2 (.tmp 11) (.tmp 13), 0, false⟩,⟨some 17, none, .ldA none 2 (.tmp 16), 0, false⟩,⟨some 6, none, .allocR [(.val (.int .i64 0)), .e0], 0, false⟩,⟨some 5, none, .mv (.tmp 15), 0, false⟩,⟨none, none, .st (some 6) 2 (.tmp 6) (.tmp 17), 0, false⟩])
 (.seq (.regN [1, 4, 5, 6, 11, 12, 13] [
 ⟨some 18, none, .fldA 0 (.tmp 6), 0, false⟩,⟨some 19, none, .ld1 (some 6) (.tmp 18), 0, false⟩,⟨some 20, none, .mv (.tmp 1), 0, false⟩,⟨some 21, none, .bini .eql (.tmp 19) (.tmp 20), 0, false⟩])
 (.cond (.tmp 21)
 (.regN [1, 4, 5, 11, 12, 13] [
 ⟨some 22, none, .mv (.tmp 4), 0, false⟩,⟨some 23, none, .mv (.tmp 5), 0, false⟩,⟨some 24, none, .buildS 1 [(.val (.int .i64 0))] [(0, 1, (.tmp 23))], 0, false⟩,⟨some 25, none, .app 1 8 (.tmp 22) (.tmp 24), 0, false⟩,⟨some 4, none, .mv (.tmp 25), 0, false⟩])
 .skip))))
 (.regN [1, 4, 11, 12, 13] [
 ⟨some 26, none, .bini .add (.tmp 13) (.con (.val (.int .i64 1))), 0, false⟩,⟨some 13, none, .mv (.tmp 26), 0, false⟩]))))
def t34B : AC := (.seq (.regN [0, 1] [
 ⟨some 2, none, .boxR 4 (.tmp 0), 0, false⟩,⟨some 4, none, .mv (.con .e0), 0, false⟩])
 (.seq (.seq (.regN [1, 2, 4] [
 ⟨some 7, none, .ldA (some 2) 4 (.tmp 2), 0, false⟩,⟨some 8, none, .call 30 [(.tmp 7)], 0, false⟩,⟨some 9, none, .bini .neq (.tmp 8) (.con (.val (.int .i64 0))), 0, false⟩])
 (.cond (.tmp 9)
 (.seq (.regN [] [
 ⟨some 4, none, .mv (.con .e0), 0, false⟩])
 .ret)
 .skip))
 (.seq (.seq (.regN [1, 2, 4] [
 ⟨some 10, none, .fldA 3 (.tmp 2), 0, false⟩,⟨some 11, none, .ld1 (some 2) (.tmp 10), 0, false⟩,⟨some 12, none, .len false (.tmp 11), 0, false⟩,⟨some 13, none, .mv (.con (.val (.int .i64 0))), 0, false⟩])
 (.block 0
 (.loop [1, 4, 11, 12, 13] t34L1)))
 (.seq (.regN [4] [
 ⟨some 27, none, .mv (.tmp 4), 0, false⟩,⟨some 4, none, .mv (.tmp 27), 0, false⟩])
 .ret))))
def t34 : AFn := ⟨2, t34B,
 [.tmp 4], true⟩
def t35B : AC := (.seq (.regN [0] [
 ⟨some 1, none, .boxH 1 (.tmp 0), 0, false⟩,⟨some 2, none, .mv (.con (.val .nilFunc)), 0, false⟩])
 (.seq (.regN [1] [
 ⟨some 3, none, .mkf 51 [(.tmp 1)], 0, false⟩,⟨some 2, none, .mv (.tmp 3), 0, false⟩])
 .ret))
def t35 : AFn := ⟨1, t35B,
 [.tmp 2], true⟩
def t51L1 : AC := (.seq (.seq (.regN [0, 1, 3] [
 kx 7 (.mv (ux 3)),kx 8 (.bini .geq (ux 7) (.con (.val (.int .i64 0))))])
 (.cond (ux 8)
 .skip
 (.exit 0)))
 (.seq (.block 1
 (.seq (.regN [0, 1, 3] [
 kx 11 (.mv (ux 0)),kx 12 (.mv (ux 3)),kx 13 (.ld1 none (ux 1)),kx 14 (.mv (ux 3)),kx 15 (.ixA 1 (ux 13) (ux 14)),kx 16 (.ld1 none (ux 15)),kx 17 (.callv (ux 11) [(ux 12), (ux 16)]),kx 18 (.not (ux 17))])
 (.cond (ux 18)
 .ret
 .skip)))
 (.regN [0, 1, 3] [
 kx 9 (.mv (ux 3)),kx 10 (.bini .sub (ux 9) (.con (.val (.int .i64 1)))),kx 3 (.mv (ux 10))])))
def t51B : AC := (.seq (.regN [0, 1] [
 kx 4 (.ld1 none (ux 1)),kx 5 (.len false (ux 4)),kx 6 (.bini .sub (ux 5) (.con (.val (.int .i64 1)))),kx 3 (.mv (ux 6))])
 (.block 0
 (.loop [0, 1, 3] t51L1)))
def t51 : AFn := ⟨2, t51B,
 [], true⟩
def t38B : AC := (.seq (.regN [0, 1, 2] [
 ⟨some 3, none, .boxH 4 (.tmp 0), 0, false⟩,⟨some 6, none, .mv (.con .e0), 0, false⟩])
 (.seq (.seq (.regN [1, 2, 3] [
 ⟨some 7, none, .ldA none 4 (.tmp 3), 0, false⟩,⟨some 8, none, .call 30 [(.tmp 7)], 0, false⟩,⟨some 9, none, .bini .neq (.tmp 8) (.con (.val (.int .i64 0))), 0, false⟩,⟨some 10, none, .mv (.tmp 9), 0, false⟩,⟨some 11, some (10, false), .mv (.tmp 1), 0, false⟩,⟨some 12, some (10, false), .len false (.tmp 11), 0, false⟩,⟨some 13, some (10, false), .fldA 1 (.tmp 3), 0, false⟩,⟨some 14, some (10, false), .ld1 none (.tmp 13), 0, false⟩,⟨some 15, some (10, false), .bini .neq (.tmp 12) (.tmp 14), 0, false⟩,⟨some 16, none, .pick (.tmp 10) (.con (.val (.bool true))) (.tmp 15), 0, false⟩,⟨some 17, none, .mv (.tmp 16), 0, false⟩,⟨some 18, some (17, false), .mv (.tmp 2), 0, false⟩,⟨some 19, some (17, false), .mkf 59 [(.tmp 3)], 0, false⟩,⟨some 20, some (17, false), .call 48 [(.tmp 18), (.tmp 19)], 0, false⟩,⟨some 21, none, .pick (.tmp 17) (.con (.val (.bool true))) (.tmp 20), 0, false⟩])
 (.cond (.tmp 21)
 (.seq (.regN [] [
 ⟨some 6, none, .mv (.con .e0), 0, false⟩])
 .ret)
 .skip))
 (.seq (.regN [1, 2, 3] [
 ⟨some 22, none, .ldA none 4 (.tmp 3), 0, false⟩,⟨some 23, none, .mv (.tmp 1), 0, false⟩,⟨some 24, none, .mv (.tmp 2), 0, false⟩,⟨some 25, none, .call 50 [(.tmp 22), (.tmp 23), (.tmp 24)], 0, false⟩,⟨some 6, none, .mv (.tmp 25), 0, false⟩])
 .ret)))
def t38 : AFn := ⟨3, t38B,
 [.tmp 6], true⟩
def t59B : AC := (.seq (.regN [0, 1] [
 ⟨some 3, none, .mv (.con (.val (.bool false))), 0, false⟩])
 (.seq (.regN [0, 1] [
 ⟨some 4, none, .mv (.tmp 0), 0, false⟩,⟨some 5, none, .bini .lss (.tmp 4) (.con (.val (.int .i64 0))), 0, false⟩,⟨some 6, none, .mv (.tmp 5), 0, false⟩,⟨some 7, some (6, false), .mv (.tmp 0), 0, false⟩,⟨some 8, some (6, false), .fldA 0 (.tmp 1), 0, false⟩,⟨some 9, some (6, false), .ld1 none (.tmp 8), 0, false⟩,⟨some 10, some (6, false), .fldA 1 (.tmp 1), 0, false⟩,⟨some 11, some (6, false), .ld1 none (.tmp 10), 0, false⟩,⟨some 12, some (6, false), .bini .add (.tmp 9) (.tmp 11), 0, false⟩,⟨some 13, some (6, false), .bini .geq (.tmp 7) (.tmp 12), 0, false⟩,⟨some 14, none, .pick (.tmp 6) (.con (.val (.bool true))) (.tmp 13), 0, false⟩,⟨some 3, none, .mv (.tmp 14), 0, false⟩])
 .ret))
def t59 : AFn := ⟨2, t59B,
 [.tmp 3], true⟩
def t17L1 : AC := (.seq (.seq (.regN [0, 1, 5] [
 ⟨some 11, none, .mv (.tmp 5), 0, false⟩,⟨some 12, none, .mv (.tmp 0), 0, false⟩,⟨some 13, none, .len false (.tmp 12), 0, false⟩,⟨some 14, none, .bini .lss (.tmp 11) (.tmp 13), 0, false⟩])
 (.cond (.tmp 14)
 .skip
 (.exit 0)))
 (.seq (.block 1
 (.seq (.regD [0, 1, 5] 0 [
 ⟨some 17, none, .mv (.tmp 0), 0, false⟩,⟨some 18, none, .mv (.tmp 5), 0, false⟩,⟨some 19, none, .ixA 1 (.tmp 17) (.tmp 18), 0, false⟩,⟨some 20, none, .ld1 none (.tmp 19), 0, false⟩,⟨some 21, none, .mv (.tmp 1), 0, false⟩,⟨some 22, none, .mv (.tmp 5), 0, false⟩,⟨some 23, none, .ixA 1 (.tmp 21) (.tmp 22), 0, false⟩,⟨some 24, none, .ld1 none (.tmp 23), 0, false⟩,⟨some 25, none, .call 21 [(.tmp 20), (.tmp 24)], 0, true⟩,⟨some 26, none, .not (.tmp 25), 0, false⟩])
 (.cond (.tmp 26)
 (.seq (.regN [] [
 ⟨some 4, none, .mv (.con (.val (.bool false))), 0, false⟩])
 .ret)
 .skip)))
 (.regN [0, 1, 5] [
 ⟨some 15, none, .mv (.tmp 5), 0, false⟩,⟨some 16, none, .bini .add (.tmp 15) (.con (.val (.int .i64 1))), 0, false⟩,⟨some 5, none, .mv (.tmp 16), 0, false⟩])))
def t17B : AC := (.seq (.regN [0, 1] [
 ⟨some 4, none, .mv (.con (.val (.bool false))), 0, false⟩])
 (.seq (.seq (.regN [0, 1] [
 ⟨some 6, none, .mv (.tmp 0), 0, false⟩,⟨some 7, none, .len false (.tmp 6), 0, false⟩,⟨some 8, none, .mv (.tmp 1), 0, false⟩,⟨some 9, none, .len false (.tmp 8), 0, false⟩,⟨some 10, none, .bini .neq (.tmp 7) (.tmp 9), 0, false⟩])
 (.cond (.tmp 10)
 (.seq (.regN [] [
 ⟨some 4, none, .mv (.con (.val (.bool false))), 0, false⟩])
 .ret)
 .skip))
 (.seq (.seq (.regN [0, 1] [
 ⟨some 5, none, .mv (.con (.val (.int .i64 0))), 0, false⟩])
 (.block 0
 (.loop [0, 1, 5] t17L1)))
 (.seq (.regN [] [
 ⟨some 4, none, .mv (.con (.val (.bool true))), 0, false⟩])
 .ret))))
def t17 : AFn := ⟨2, t17B,
 [.tmp 4], true⟩
def t21L1 : AC := (.seq (.seq (.regN [0, 1, 5] [
 ⟨some 11, none, .mv (.tmp 5), 0, false⟩,⟨some 12, none, .mv (.tmp 0), 0, false⟩,⟨some 13, none, .len false (.tmp 12), 0, false⟩,⟨some 14, none, .bini .lss (.tmp 11) (.tmp 13), 0, false⟩])
 (.cond (.tmp 14)
 .skip
 (.exit 0)))
 (.seq (.block 1
 (.seq (.regD [0, 1, 5] 0 [
 ⟨some 17, none, .mv (.tmp 0), 0, false⟩,⟨some 18, none, .mv (.tmp 5), 0, false⟩,⟨some 19, none, .ixA 1 (.tmp 17) (.tmp 18), 0, false⟩,⟨some 20, none, .ld1 none (.tmp 19), 0, false⟩,⟨some 21, none, .mv (.tmp 1), 0, false⟩,⟨some 22, none, .mv (.tmp 5), 0, false⟩,⟨some 23, none, .ixA 1 (.tmp 21) (.tmp 22), 0, false⟩,⟨some 24, none, .ld1 none (.tmp 23), 0, false⟩,⟨some 25, none, .bins .neq (.tmp 20) (.tmp 24), 0, false⟩])
 (.cond (.tmp 25)
 (.seq (.regN [] [
 ⟨some 4, none, .mv (.con (.val (.bool false))), 0, false⟩])
 .ret)
 .skip)))
 (.regN [0, 1, 5] [
 ⟨some 15, none, .mv (.tmp 5), 0, false⟩,⟨some 16, none, .bini .add (.tmp 15) (.con (.val (.int .i64 1))), 0, false⟩,⟨some 5, none, .mv (.tmp 16), 0, false⟩])))
def t21B : AC := (.seq (.regN [0, 1] [
 ⟨some 4, none, .mv (.con (.val (.bool false))), 0, false⟩])
 (.seq (.seq (.regN [0, 1] [
 ⟨some 6, none, .mv (.tmp 0), 0, false⟩,⟨some 7, none, .len false (.tmp 6), 0, false⟩,⟨some 8, none, .mv (.tmp 1), 0, false⟩,⟨some 9, none, .len false (.tmp 8), 0, false⟩,⟨some 10, none, .bini .neq (.tmp 7) (.tmp 9), 0, false⟩])
 (.cond (.tmp 10)
 (.seq (.regN [] [
 ⟨some 4, none, .mv (.con (.val (.bool false))), 0, false⟩])
 .ret)
 .skip))
 (.seq (.seq (.regN [0, 1] [
 ⟨some 5, none, .mv (.con (.val (.int .i64 0))), 0, false⟩])
 (.block 0
 (.loop [0, 1, 5] t21L1)))
 (.seq (.regN [] [
 ⟨some 4, none, .mv (.con (.val (.bool true))), 0, false⟩])
 .ret))))
def t21 : AFn := ⟨2, t21B,
 [.tmp 4], true⟩
def t10L1 : AC := (.seq (.seq (.regN [1, 3] [
 ⟨some 8, none, .mv (.tmp 3), 0, false⟩,⟨some 9, none, .fldA 3 (.tmp 1), 0, false⟩,⟨some 10, none, .ld1 (some 1) (.tmp 9), 0, false⟩,⟨some 11, none, .len false (.tmp 10), 0, false⟩,⟨some 12, none, .bini .lss (.tmp 8) (.tmp 11), 0, false⟩])
 (.cond (.tmp 12)
 .skip
 (.exit 0)))
 (.seq (.block 1
 (.seq (.regN [1, 3] [
 ⟨some 15, none, .fldA 3 (.tmp 1), 0, false⟩,⟨some 16, none, .ld1 (some 1) (.tmp 15), 0, false⟩,⟨some 17, none, .mv (.tmp 3), 0, false⟩,⟨some 18, none, .ixA 2 (.tmp 16) (.tmp 17), 0, false⟩,⟨some 19, none, .fldA 1 (.tmp 18), 0, false⟩,⟨some 20, none, .ld1 none (.tmp 19), 0, false⟩,⟨some 21, none, .len false (.tmp 20), 0, false⟩,⟨some 22, none, .bini .gtr (.tmp 21) (.con (.val (.int .i64 5))), 0, false⟩,⟨some 23, none, .mv (.tmp 22), 0, false⟩,⟨some 24, some (23, true), .fldA 3 (.tmp 1), 0, false⟩,⟨some 25, some (23, true), .ld1 (some 1) (.tmp 24), 0, false⟩,⟨some 26, some (23, true), .mv (.tmp 3), 0, false⟩,⟨some 27, some (23, true), .ixA 2 (.tmp 25) (.tmp 26), 0, false⟩,⟨some 28, some (23, true), .fldA 1 (.tmp 27), 0, false⟩,⟨some 29, some (23, true), .ld1 none (.tmp 28), 0, false⟩,⟨some 30, some (23, true), .len false (.tmp 29), 0, false⟩,⟨some 31, some (23, true), .bini .leq (.tmp 30) (.con (.val (.int .i64 8))), 0, false⟩,⟨some 32, none, .pick (.tmp 23) (.tmp 31) (.con (.val (.bool false))), 0, false⟩,⟨some 33, none, .mv (.tmp 32), 0, false⟩,⟨some 34, some (33, false), .fldA 3 (.tmp 1), 0, false⟩,⟨some 35, some (33, false), .ld1 (some 1) (.tmp 34), 0, false⟩,⟨some 36, some (33, false), .mv (.tmp 3), 0, false⟩,⟨some 37, some (33, false), .ixA 2 (.tmp 35) (.tmp 36), 0, false⟩,⟨some 38, some (33, false), .fldA 1 (.tmp 37), 0, false⟩,⟨some 39, some (33, false), .ld1 none (.tmp 38), 0, false⟩,⟨some 40, some (33, false), .len false (.tmp 39), 0, false⟩,⟨some 41, some (33, false), .bini .gtr (.tmp 40) (.con (.val (.int .i64 100))), 0, false⟩,⟨some 42, none, .pick (.tmp 33) (.con (.val (.bool true))) (.tmp 41), 0, false⟩])
 (.cond (.tmp 42)
 (.seq (.regN [] [
 ⟨some 2, none, .mv (.con (.val (.bool false))), 0, false⟩])
 .ret)
 .skip)))
 (.regN [1, 3] [
 ⟨some 13, none, .mv (.tmp 3), 0, false⟩,⟨some 14, none, .bini .add (.tmp 13) (.con (.val (.int .i64 1))), 0, false⟩,⟨some 3, none, .mv (.tmp 14), 0, false⟩])))
def t10B : AC := (.seq (.regN [0] [
 ⟨some 1, none, .boxR 4 (.tmp 0), 0, false⟩,⟨some 2, none, .mv (.con (.val (.bool false))), 0, false⟩])
 (.seq (.seq (.regN [1] [
 ⟨some 4, none, .fldA 3 (.tmp 1), 0, false⟩,⟨some 5, none, .ld1 (some 1) (.tmp 4), 0, false⟩,⟨some 6, none, .len false (.tmp 5), 0, false⟩,⟨some 7, none, .bini .gtr (.tmp 6) (.con (.val (.int .i64 100))), 0, false⟩])
 (.cond (.tmp 7)
 (.seq (.regN [] [
 ⟨some 2, none, .mv (.con (.val (.bool false))), 0, false⟩])
 .ret)
 .skip))
 (.seq (.seq (.regN [1] [
 ⟨some 3, none, .mv (.con (.val (.int .i64 0))), 0, false⟩])
 (.block 0
 (.loop [1, 3] t10L1)))
 (.seq (.seq (.regN [1] [
 ⟨some 43, none, .fldA 0 (.tmp 1), 0, false⟩,⟨some 44, none, .ld1 (some 1) (.tmp 43), 0, false⟩,⟨some 45, none, .bini .gtr (.tmp 44) (.con (.val (.int .i64 8))), 0, false⟩,⟨some 46, none, .mv (.tmp 45), 0, false⟩,⟨some 47, some (46, false), .fldA 1 (.tmp 1), 0, false⟩,⟨some 48, some (46, false), .ld1 (some 1) (.tmp 47), 0, false⟩,⟨some 49, some (46, false), .bini .gtr (.tmp 48) (.con (.val (.int .i64 16))), 0, false⟩,⟨some 50, none, .pick (.tmp 46) (.con (.val (.bool true))) (.tmp 49), 0, false⟩,⟨some 51, none, .mv (.tmp 50), 0, false⟩,⟨some 52, some (51, false), .fldA 2 (.tmp 1), 0, false⟩,⟨some 53, some (51, false), .ld1 (some 1) (.tmp 52), 0, false⟩,⟨some 54, some (51, false), .bini .gtr (.tmp 53) (.con (.val (.int .i64 3))), 0, false⟩,⟨some 55, none, .pick (.tmp 51) (.con (.val (.bool true))) (.tmp 54), 0, false⟩,⟨some 56, none, .mv (.tmp 55), 0, false⟩,⟨some 57, some (56, false), .fldA 3 (.tmp 1), 0, false⟩,⟨some 58, some (56, false), .ld1 (some 1) (.tmp 57), 0, false⟩,⟨some 59, some (56, false), .len false (.tmp 58), 0, false⟩,⟨some 60, some (56, false), .bini .gtr (.tmp 59) (.con (.val (.int .i64 64))), 0, false⟩,⟨some 61, none, .pick (.tmp 56) (.con (.val (.bool true))) (.tmp 60), 0, false⟩])
 (.cond (.tmp 61)
 (.seq (.regN [] [
 ⟨some 2, none, .mv (.con (.val (.bool true))), 0, false⟩])
 .ret)
 .skip))
 (.seq (.regN [1] [
 ⟨some 62, none, .fldA 0 (.tmp 1), 0, false⟩,⟨some 63, none, .ld1 (some 1) (.tmp 62), 0, false⟩,⟨some 64, none, .bini .leq (.tmp 63) (.con (.val (.int .i64 4))), 0, false⟩,⟨some 65, none, .mv (.tmp 64), 0, false⟩,⟨some 66, some (65, true), .fldA 1 (.tmp 1), 0, false⟩,⟨some 67, some (65, true), .ld1 (some 1) (.tmp 66), 0, false⟩,⟨some 68, some (65, true), .bini .leq (.tmp 67) (.con (.val (.int .i64 6))), 0, false⟩,⟨some 69, none, .pick (.tmp 65) (.tmp 68) (.con (.val (.bool false))), 0, false⟩,⟨some 70, none, .mv (.tmp 69), 0, false⟩,⟨some 71, some (70, true), .fldA 3 (.tmp 1), 0, false⟩,⟨some 72, some (70, true), .ld1 (some 1) (.tmp 71), 0, false⟩,⟨some 73, some (70, true), .len false (.tmp 72), 0, false⟩,⟨some 74, some (70, true), .bini .leq (.tmp 73) (.con (.val (.int .i64 14))), 0, false⟩,⟨some 75, none, .pick (.tmp 70) (.tmp 74) (.con (.val (.bool false))), 0, false⟩,⟨some 76, none, .mv (.tmp 75), 0, false⟩,⟨some 77, some (76, true), .fldA 2 (.tmp 1), 0, false⟩,⟨some 78, some (76, true), .ld1 (some 1) (.tmp 77), 0, false⟩,⟨some 79, some (76, true), .bini .leq (.tmp 78) (.con (.val (.int .i64 2))), 0, false⟩,⟨some 80, some (76, true), .mv (.tmp 79), 0, false⟩,⟨some 81, some (80, false), .fldA 0 (.tmp 1), 0, false⟩,⟨some 82, some (80, false), .ld1 (some 1) (.tmp 81), 0, false⟩,⟨some 83, some (80, false), .bini .leq (.tmp 82) (.con (.val (.int .i64 3))), 0, false⟩,⟨some 84, some (76, true), .pick (.tmp 80) (.con (.val (.bool true))) (.tmp 83), 0, false⟩,⟨some 85, none, .pick (.tmp 76) (.tmp 84) (.con (.val (.bool false))), 0, false⟩,⟨some 2, none, .mv (.tmp 85), 0, false⟩])
 .ret)))))
def t10 : AFn := ⟨1, t10B,
 [.tmp 2], true⟩
def t11L1 : AC := (.seq (.seq (.regN [1, 3] [
 ⟨some 26, none, .mv (.tmp 3), 0, false⟩,⟨some 27, none, .fldA 3 (.tmp 1), 0, false⟩,⟨some 28, none, .ld1 (some 1) (.tmp 27), 0, false⟩,⟨some 29, none, .len false (.tmp 28), 0, false⟩,⟨some 30, none, .bini .lss (.tmp 26) (.tmp 29), 0, false⟩])
 (.cond (.tmp 30)
 .skip
 (.exit 0)))
 (.seq (.block 1
 (.seq (.regN [1, 3] [
 ⟨some 33, none, .fldA 3 (.tmp 1), 0, false⟩,⟨some 34, none, .ld1 (some 1) (.tmp 33), 0, false⟩,⟨some 35, none, .mv (.tmp 3), 0, false⟩,⟨some 36, none, .ixA 2 (.tmp 34) (.tmp 35), 0, false⟩,⟨some 37, none, .fldA 1 (.tmp 36), 0, false⟩,⟨some 38, none, .ld1 none (.tmp 37), 0, false⟩,⟨some 39, none, .len false (.tmp 38), 0, false⟩,⟨some 40, none, .bini .gtr (.tmp 39) (.con (.val (.int .i64 8))), 0, false⟩])
 (.cond (.tmp 40)
 (.seq (.regN [] [
 ⟨some 2, none, .mv (.con (.val (.int .i64 3))), 0, false⟩])
 .ret)
 .skip)))
 (.regN [1, 3] [
 ⟨some 31, none, .mv (.tmp 3), 0, false⟩,⟨some 32, none, .bini .add (.tmp 31) (.con (.val (.int .i64 1))), 0, false⟩,⟨some 3, none, .mv (.tmp 32), 0, false⟩])))
def t11L2 : AC := (.seq (.seq (.regN [1, 4, 5, 6] [
 ⟨some 82, none, .mv (.tmp 6), 0, false⟩,⟨some 83, none, .fldA 1 (.tmp 5), 0, false⟩,⟨some 84, none, .ld1 (some 5) (.tmp 83), 0, false⟩,⟨some 85, none, .len false (.tmp 84), 0, false⟩,⟨some 86, none, .bini .lss (.tmp 82) (.tmp 85), 0, false⟩])
 (.cond (.tmp 86)
 .skip
 (.exit 4)))
 (.seq (.block 5
 (.seq (.regD [1, 4, 5, 6] 0 [
 ⟨some 89, none, .fldA 1 (.tmp 5), 0, false⟩,⟨some 90, none, .ld1 (some 5) (.tmp 89), 0, false⟩,⟨some 91, none, .mv (.tmp 6), 0, false⟩,⟨some 92, none, .ixA 1 (.tmp 90) (.tmp 91), 0, false⟩,⟨some 93, none, .ld1 none (.tmp 92), 0, false⟩,⟨some 94, none, .bini .lss (.tmp 93) (.con (.val (.int .i64 0))), 0, false⟩,⟨some 95, none, .mv (.tmp 94), 0, false⟩,⟨some 96, some (95, false), .fldA 1 (.tmp 5), 0, false⟩,⟨some 97, some (95, false), .ld1 (some 5) (.tmp 96), 0, false⟩,⟨some 98, some (95, false), .mv (.tmp 6), 0, false⟩,⟨some 99, some (95, false), .ixA 1 (.tmp 97) (.tmp 98), 0, false⟩,⟨some 100, some (95, false), .ld1 none (.tmp 99), 0, false⟩,⟨some 101, some (95, false), .fldA 0 (.tmp 1), 0, false⟩,⟨some 102, some (95, false), .ld1 (some 1) (.tmp 101), 0, false⟩,⟨some 103, some (95, false), .fldA 1 (.tmp 1), 0, false⟩,⟨some 104, some (95, false), .ld1 (some 1) (.tmp 103), 0, false⟩,⟨some 105, some (95, false), .bini .add (.tmp 102) (.tmp 104), 0, false⟩,⟨some 106, some (95, false), .bini .geq (.tmp 100) (.tmp 105), 0, false⟩,⟨some 107, none, .pick (.tmp 95) (.con (.val (.bool true))) (.tmp 106), 0, false⟩])
 (.cond (.tmp 107)
 (.seq (.regN [] [
 ⟨some 2, none, .mv (.con (.val (.int .i64 2))), 0, false⟩])
 .ret)
 .skip)))
 (.regN [1, 4, 5, 6] [
 ⟨some 87, none, .mv (.tmp 6), 0, false⟩,⟨some 88, none, .bini .add (.tmp 87) (.con (.val (.int .i64 1))), 0, false⟩,⟨some 6, none, .mv (.tmp 88), 0, false⟩])))
def t11L3 : AC := (.seq (.seq (.regN [1, 4] [
 ⟨some 60, none, .mv (.tmp 4), 0, false⟩,⟨some 61, none, .fldA 3 (.tmp 1), 0, false⟩,⟨some 62, none, .ld1 (some 1) (.tmp 61), 0, false⟩,⟨some 63, none, .len false (.tmp 62), 0, false⟩,⟨some 64, none, .bini .lss (.tmp 60) (.tmp 63), 0, false⟩])
 (.cond (.tmp 64)
 .skip
 (.exit 2)))
 (.seq (.block 3
 (.seq (.regN [1, 4] [
 ⟨some 67, none, .fldA 3 (.tmp 1), 0, false⟩,⟨some 68, none, .ld1 (some 1) (.tmp 67), 0, false⟩,⟨some 69, none, .mv (.tmp 4), 0, false⟩,⟨some 70, none, .ixA 2 (.tmp 68) (.tmp 69), 0, false⟩,⟨some 71, none, .ldA none 2 (.tmp 70), 0, false⟩,⟨some 5, none, .allocR [(.val (.int .i64 0)), .e0], 0, false⟩,⟨none, none, .st (some 5) 2 (.tmp 5) (.tmp 71), 0, false⟩])
 (.seq (.seq (.regN [1, 4, 5] [
 ⟨some 72, none, .fldA 0 (.tmp 5), 0, false⟩,⟨some 73, none, .ld1 (some 5) (.tmp 72), 0, false⟩,⟨some 74, none, .bini .lss (.tmp 73) (.con (.val (.int .i64 0))), 0, false⟩,⟨some 75, none, .mv (.tmp 74), 0, false⟩,⟨some 76, some (75, false), .fldA 0 (.tmp 5), 0, false⟩,⟨some 77, some (75, false), .ld1 (some 5) (.tmp 76), 0, false⟩,⟨some 78, some (75, false), .fldA 1 (.tmp 1), 0, false⟩,⟨some 79, some (75, false), .ld1 (some 1) (.tmp 78), 0, false⟩,⟨some 80, some (75, false), .bini .geq (.tmp 77) (.tmp 79), 0, false⟩,⟨some 81, none, .pick (.tmp 75) (.con (.val (.bool true))) (.tmp 80), 0, false⟩])
 (.cond (.tmp 81)
 (.seq (.regN [] [
 ⟨some 2, none, .mv (.con (.val (.int .i64 2))), 0, false⟩])
 .ret)
 .skip))
 (.seq (.regN [1, 4, 5] [
 ⟨some 6, none, .mv (.con (.val (.int .i64 0))), 0, false⟩])
 (.block 4
 (.loop [1, 4, 5, 6] t11L2))))))
 (.regN [1, 4] [
 ⟨some 65, none, .mv (.tmp 4), 0, false⟩,⟨some 66, none, .bini .add (.tmp 65) (.con (.val (.int .i64 1))), 0, false⟩,⟨some 4, none, .mv (.tmp 66), 0, false⟩])))
def t11B : AC := (.seq (.regN [0] [
 ⟨some 1, none, .boxR 4 (.tmp 0), 0, false⟩,⟨some 2, none, .mv (.con (.val (.int .i64 0))), 0, false⟩])
 (.seq (.seq (.regN [1] [
 ⟨some 7, none, .fldA 0 (.tmp 1), 0, false⟩,⟨some 8, none, .ld1 (some 1) (.tmp 7), 0, false⟩,⟨some 9, none, .bini .gtr (.tmp 8) (.con (.val (.int .i64 8))), 0, false⟩,⟨some 10, none, .mv (.tmp 9), 0, false⟩,⟨some 11, some (10, false), .fldA 1 (.tmp 1), 0, false⟩,⟨some 12, some (10, false), .ld1 (some 1) (.tmp 11), 0, false⟩,⟨some 13, some (10, false), .bini .gtr (.tmp 12) (.con (.val (.int .i64 16))), 0, false⟩,⟨some 14, none, .pick (.tmp 10) (.con (.val (.bool true))) (.tmp 13), 0, false⟩,⟨some 15, none, .mv (.tmp 14), 0, false⟩,⟨some 16, some (15, false), .fldA 2 (.tmp 1), 0, false⟩,⟨some 17, some (15, false), .ld1 (some 1) (.tmp 16), 0, false⟩,⟨some 18, some (15, false), .bini .gtr (.tmp 17) (.con (.val (.int .i64 3))), 0, false⟩,⟨some 19, none, .pick (.tmp 15) (.con (.val (.bool true))) (.tmp 18), 0, false⟩,⟨some 20, none, .mv (.tmp 19), 0, false⟩,⟨some 21, some (20, false), .fldA 3 (.tmp 1), 0, false⟩,⟨some 22, some (20, false), .ld1 (some 1) (.tmp 21), 0, false⟩,⟨some 23, some (20, false), .len false (.tmp 22), 0, false⟩,⟨some 24, some (20, false), .bini .gtr (.tmp 23) (.con (.val (.int .i64 64))), 0, false⟩,⟨some 25, none, .pick (.tmp 20) (.con (.val (.bool true))) (.tmp 24), 0, false⟩])
 (.cond (.tmp 25)
 (.seq (.regN [] [
 ⟨some 2, none, .mv (.con (.val (.int .i64 3))), 0, false⟩])
 .ret)
 .skip))
 (.seq (.seq (.regN [1] [
 ⟨some 3, none, .mv (.con (.val (.int .i64 0))), 0, false⟩])
 (.block 0
 (.loop [1, 3] t11L1)))
 (.seq (.seq (.regN [1] [
 ⟨some 41, none, .fldA 0 (.tmp 1), 0, false⟩,⟨some 42, none, .ld1 (some 1) (.tmp 41), 0, false⟩,⟨some 43, none, .bini .lss (.tmp 42) (.con (.val (.int .i64 1))), 0, false⟩,⟨some 44, none, .mv (.tmp 43), 0, false⟩,⟨some 45, some (44, false), .fldA 1 (.tmp 1), 0, false⟩,⟨some 46, some (44, false), .ld1 (some 1) (.tmp 45), 0, false⟩,⟨some 47, some (44, false), .bini .lss (.tmp 46) (.con (.val (.int .i64 1))), 0, false⟩,⟨some 48, none, .pick (.tmp 44) (.con (.val (.bool true))) (.tmp 47), 0, false⟩,⟨some 49, none, .mv (.tmp 48), 0, false⟩,⟨some 50, some (49, false), .fldA 2 (.tmp 1), 0, false⟩,⟨some 51, some (49, false), .ld1 (some 1) (.tmp 50), 0, false⟩,⟨some 52, some (49, false), .bini .lss (.tmp 51) (.con (.val (.int .i64 1))), 0, false⟩,⟨some 53, none, .pick (.tmp 49) (.con (.val (.bool true))) (.tmp 52), 0, false⟩,⟨some 54, none, .mv (.tmp 53), 0, false⟩,⟨some 55, some (54, false), .fldA 3 (.tmp 1), 0, false⟩,⟨some 56, some (54, false), .ld1 (some 1) (.tmp 55), 0, false⟩,⟨some 57, some (54, false), .len false (.tmp 56), 0, false⟩,⟨some 58, some (54, false), .bini .lss (.tmp 57) (.con (.val (.int .i64 1))), 0, false⟩,⟨some 59, none, .pick (.tmp 54) (.con (.val (.bool true))) (.tmp 58), 0, false⟩])
 (.cond (.tmp 59)
 (.seq (.regN [] [
 ⟨some 2, none, .mv (.con (.val (.int .i64 2))), 0, false⟩])
 .ret)
 .skip))
 (.seq (.seq (.regN [1] [
 ⟨some 4, none, .mv (.con (.val (.int .i64 0))), 0, false⟩])
 (.block 2
 (.loop [1, 4] t11L3)))
 (.seq (.regN [] [
 ⟨some 2, none, .mv (.con (.val (.int .i64 0))), 0, false⟩])
 .ret))))))
def t11 : AFn := ⟨1, t11B,
 [.tmp 2], true⟩
def t13L1 : AC := (.seq (.seq (.regN [1, 3, 4, 5] [
 ⟨some 15, none, .mv (.tmp 5), 0, false⟩,⟨some 16, none, .fldA 3 (.tmp 1), 0, false⟩,⟨some 17, none, .ld1 (some 1) (.tmp 16), 0, false⟩,⟨some 18, none, .len false (.tmp 17), 0, false⟩,⟨some 19, none, .bini .lss (.tmp 15) (.tmp 18), 0, false⟩])
 (.cond (.tmp 19)
 .skip
 (.exit 2)))
 (.seq (.block 3
 (.seq (.regN [1, 3, 4, 5] [
 ⟨some 22, none, .fldA 3 (.tmp 1), 0, false⟩,⟨some 23, none, .ld1 (some 1) (.tmp 22), 0, false⟩,⟨some 24, none, .mv (.tmp 5), 0, false⟩,⟨some 25, none, .ixA 2 (.tmp 23) (.tmp 24), 0, false⟩,⟨some 26, none, .ldA none 2 (.tmp 25), 0, false⟩,⟨some 6, none, .allocR [(.val (.int .i64 0)), .e0], 0, false⟩,⟨none, none, .st (some 6) 2 (.tmp 6) (.tmp 26), 0, false⟩])
 (.seq (.regD [1, 3, 4, 5, 6] 0 [
 ⟨some 27, none, .mv (.tmp 3), 0, false⟩,⟨some 28, none, .fldA 0 (.tmp 6), 0, false⟩,⟨some 29, none, .ld1 (some 6) (.tmp 28), 0, false⟩,⟨some 30, none, .ixA 1 (.tmp 27) (.tmp 29), 0, false⟩,⟨some 31, none, .ld1 none (.tmp 30), 0, false⟩,⟨some 32, none, .ldA (some 1) 4 (.tmp 1), 0, false⟩,⟨some 33, none, .mv (.tmp 3), 0, false⟩,⟨some 34, none, .fldA 1 (.tmp 6), 0, false⟩,⟨some 35, none, .ld1 (some 6) (.tmp 34), 0, false⟩,⟨some 36, none, .call 39 [(.tmp 32), (.tmp 33), (.tmp 35)], 0, false⟩,⟨some 37, none, .call 14 [(.tmp 31), (.tmp 36)], 0, true⟩,⟨some 7, none, .mv (.tmp 37), 0, false⟩])
 (.seq (.regN [1, 3, 4, 5, 6, 7] [
 ⟨some 38, none, .mv (.tmp 4), 0, false⟩,⟨some 39, none, .mv (.tmp 38), 0, false⟩,⟨some 40, some (39, false), .mv (.tmp 7), 0, false⟩,⟨some 41, some (39, false), .len false (.tmp 40), 0, false⟩,⟨some 42, some (39, false), .mv (.tmp 3), 0, false⟩,⟨some 43, some (39, false), .fldA 0 (.tmp 6), 0, false⟩,⟨some 44, some (39, false), .ld1 (some 6) (.tmp 43), 0, false⟩,⟨some 45, some (39, false), .ixA 1 (.tmp 42) (.tmp 44), 0, false⟩,⟨some 46, some (39, false), .ld1 none (.tmp 45), 0, false⟩,⟨some 47, some (39, false), .len false (.tmp 46), 0, false⟩,⟨some 48, some (39, false), .bini .gtr (.tmp 41) (.tmp 47), 0, false⟩,⟨some 49, none, .pick (.tmp 39) (.con (.val (.bool true))) (.tmp 48), 0, false⟩,⟨some 4, none, .mv (.tmp 49), 0, false⟩])
 (.regN [1, 3, 4, 5, 6, 7] [
 ⟨some 50, none, .mv (.tmp 3), 0, false⟩,⟨some 51, none, .fldA 0 (.tmp 6), 0, false⟩,⟨some 52, none, .ld1 (some 6) (.tmp 51), 0, false⟩,⟨some 53, none, .mv (.tmp 7), 0, false⟩,⟨some 54, none, .ixA 1 (.tmp 50) (.tmp 52), 0, false⟩,⟨none, none, .st none 1 (.tmp 54) (.tmp 53), 0, false⟩])))))
 (.regN [1, 3, 4, 5] [
 ⟨some 20, none, .mv (.tmp 5), 0, false⟩,⟨some 21, none, .bini .add (.tmp 20) (.con (.val (.int .i64 1))), 0, false⟩,⟨some 5, none, .mv (.tmp 21), 0, false⟩])))
def t13L2 : AC := (.seq (.seq (.regN [1, 3, 4] [
 ⟨some 14, none, .mv (.tmp 4), 0, false⟩])
 (.cond (.tmp 14)
 .skip
 (.exit 0)))
 (.block 1
 (.seq (.regN [1, 3] [
 ⟨some 4, none, .mv (.con (.val (.bool false))), 0, false⟩])
 (.seq (.regN [1, 3, 4] [
 ⟨some 5, none, .mv (.con (.val (.int .i64 0))), 0, false⟩])
 (.block 2
 (.loop [1, 3, 4, 5] t13L1))))))
def t13B : AC := (.seq (.regN [0] [
 ⟨some 1, none, .boxR 4 (.tmp 0), 0, false⟩,⟨some 2, none, .mv (.con .e0), 0, false⟩])
 (.seq (.seq (.regN [1] [
 ⟨some 8, none, .ldA (some 1) 4 (.tmp 1), 0, false⟩,⟨some 9, none, .call 11 [(.tmp 8)], 0, false⟩,⟨some 10, none, .bini .neq (.tmp 9) (.con (.val (.int .i64 0))), 0, false⟩])
 (.cond (.tmp 10)
 (.seq (.regN [] [
 ⟨some 2, none, .mv (.con .e0), 0, false⟩])
 .ret)
 .skip))
 (.seq (.regN [1] [
 ⟨some 11, none, .fldA 1 (.tmp 1), 0, false⟩,⟨some 12, none, .ld1 (some 1) (.tmp 11), 0, false⟩,⟨some 13, none, .mks 1 24 [.e0] (.tmp 12), 0, false⟩,⟨some 3, none, .mv (.tmp 13), 0, false⟩])
 (.seq (.seq (.regN [1, 3] [
 ⟨some 4, none, .mv (.con (.val (.bool true))), 0, false⟩])
 (.block 0
 (.loop [1, 3, 4] t13L2)))
 (.seq (.regN [3] [
 ⟨some 55, none, .mv (.tmp 3), 0, false⟩,⟨some 2, none, .mv (.tmp 55), 0, false⟩])
 .ret)))))
def t13 : AFn := ⟨1, t13B,
 [.tmp 2], true⟩
def t39L1 : AC := (.seq (.seq (.regN [1, 2, 3, 7, 8] [
 ⟨some 10, none, .mv (.tmp 8), 0, false⟩,⟨some 11, none, .mv (.tmp 2), 0, false⟩,⟨some 12, none, .len false (.tmp 11), 0, false⟩,⟨some 13, none, .bini .lss (.tmp 10) (.tmp 12), 0, false⟩])
 (.cond (.tmp 13)
 .skip
 (.exit 0)))
 (.seq (.block 1
 (.seq (.regD [1, 2, 3, 7, 8] 0 [
 ⟨some 16, none, .mv (.tmp 2), 0, false⟩,⟨some 17, none, .mv (.tmp 8), 0, false⟩,⟨some 18, none, .ixA 1 (.tmp 16) (.tmp 17), 0, false⟩,⟨some 19, none, .ld1 none (.tmp 18), 0, false⟩,⟨some 20, none, .fldA 0 (.tmp 3), 0, false⟩,⟨some 21, none, .ld1 (some 3) (.tmp 20), 0, false⟩,⟨some 22, none, .bini .lss (.tmp 19) (.tmp 21), 0, false⟩])
 (.cond (.tmp 22)
 (.regD [1, 2, 3, 7, 8] 0 [
 ⟨some 23, none, .fldA 2 (.tmp 3), 0, false⟩,⟨some 24, none, .ld1 (some 3) (.tmp 23), 0, false⟩,⟨some 25, none, .mv (.tmp 7), 0, false⟩,⟨some 26, none, .mv (.tmp 2), 0, false⟩,⟨some 27, none, .mv (.tmp 8), 0, false⟩,⟨some 28, none, .ixA 1 (.tmp 26) (.tmp 27), 0, false⟩,⟨some 29, none, .ld1 none (.tmp 28), 0, false⟩,⟨some 30, none, .cvi .u8 (.tmp 29), 0, false⟩,⟨some 31, none, .buildS 1 [(.val (.int .u8 0))] [(0, 1, (.tmp 30))], 0, false⟩,⟨some 32, none, .b2s (.tmp 31), 0, false⟩,⟨some 33, none, .buildS 1 [(.val (.string ⟨#[]⟩))] [(0, 1, (.tmp 32))], 0, false⟩,⟨some 34, none, .call 15 [(.tmp 24), (.tmp 25), (.tmp 33)], 0, true⟩,⟨some 7, none, .mv (.tmp 34), 0, false⟩])
 (.regD [1, 2, 3, 7, 8] 0 [
 ⟨some 35, none, .fldA 2 (.tmp 3), 0, false⟩,⟨some 36, none, .ld1 (some 3) (.tmp 35), 0, false⟩,⟨some 37, none, .mv (.tmp 7), 0, false⟩,⟨some 38, none, .mv (.tmp 1), 0, false⟩,⟨some 39, none, .mv (.tmp 2), 0, false⟩,⟨some 40, none, .mv (.tmp 8), 0, false⟩,⟨some 41, none, .ixA 1 (.tmp 39) (.tmp 40), 0, false⟩,⟨some 42, none, .ld1 none (.tmp 41), 0, false⟩,⟨some 43, none, .fldA 0 (.tmp 3), 0, false⟩,⟨some 44, none, .ld1 (some 3) (.tmp 43), 0, false⟩,⟨some 45, none, .bini .sub (.tmp 42) (.tmp 44), 0, false⟩,⟨some 46, none, .ixA 1 (.tmp 38) (.tmp 45), 0, false⟩,⟨some 47, none, .ld1 none (.tmp 46), 0, false⟩,⟨some 48, none, .call 15 [(.tmp 36), (.tmp 37), (.tmp 47)], 0, true⟩,⟨some 7, none, .mv (.tmp 48), 0, false⟩]))))
 (.regN [1, 2, 3, 7, 8] [
 ⟨some 14, none, .mv (.tmp 8), 0, false⟩,⟨some 15, none, .bini .add (.tmp 14) (.con (.val (.int .i64 1))), 0, false⟩,⟨some 8, none, .mv (.tmp 15), 0, false⟩])))
def t39B : AC := (.seq (.regN [0, 1, 2] [
 ⟨some 3, none, .boxR 4 (.tmp 0), 0, false⟩,⟨some 6, none, .mv (.con .e0), 0, false⟩])
 (.seq (.regN [1, 2, 3] [
 ⟨some 9, none, .buildS 1 [(.val (.string ⟨#[]⟩))] [(0, 1, (.con (.val (.string ⟨#[]⟩))))], 0, false⟩,⟨some 7, none, .mv (.tmp 9), 0, false⟩])
 (.seq (.seq (.regN [1, 2, 3, 7] [
 ⟨some 8, none, .mv (.con (.val (.int .i64 0))), 0, false⟩])
 (.block 0
 (.loop [1, 2, 3, 7, 8] t39L1)))
 (.seq (.regN [7] [
 ⟨some 49, none, .mv (.tmp 7), 0, false⟩,⟨some 6, none, .mv (.tmp 49), 0, false⟩])
 .ret))))
def t39 : AFn := ⟨3, t39B,
 [.tmp 6], true⟩
def t15L1 : AC := (.seq (.seq (.regN [0, 1, 2, 7, 8, 9, 10, 11] [
 ⟨some 64, none, .mv (.tmp 11), 0, false⟩,⟨some 65, none, .mv (.tmp 2), 0, false⟩,⟨some 66, none, .len false (.tmp 65), 0, false⟩,⟨some 67, none, .bini .lss (.tmp 64) (.tmp 66), 0, false⟩,⟨some 68, none, .mv (.tmp 67), 0, false⟩,⟨some 69, some (68, true), .mv (.tmp 10), 0, false⟩,⟨some 70, some (68, true), .not (.tmp 69), 0, false⟩,⟨some 71, none, .pick (.tmp 68) (.tmp 70) (.con (.val (.bool false))), 0, false⟩])
 (.cond (.tmp 71)
 .skip
 (.exit 2)))
 (.seq (.block 3
 (.regD [0, 1, 2, 7, 8, 9, 10, 11] 0 [
 ⟨some 74, none, .mv (.tmp 8), 0, false⟩,⟨some 75, none, .mv (.tmp 7), 0, false⟩,⟨some 76, none, .mv (.tmp 0), 0, false⟩,⟨some 77, none, .mv (.tmp 1), 0, false⟩,⟨some 78, none, .mv (.tmp 9), 0, false⟩,⟨some 79, none, .ixA 1 (.tmp 77) (.tmp 78), 0, false⟩,⟨some 80, none, .ld1 none (.tmp 79), 0, false⟩,⟨some 81, none, .mv (.tmp 2), 0, false⟩,⟨some 82, none, .mv (.tmp 11), 0, false⟩,⟨some 83, none, .ixA 1 (.tmp 81) (.tmp 82), 0, false⟩,⟨some 84, none, .ld1 none (.tmp 83), 0, false⟩,⟨some 85, none, .call 42 [(.tmp 76), (.tmp 80), (.tmp 84)], 0, true⟩,⟨some 86, none, .call 40 [(.tmp 74), (.tmp 75), (.tmp 85)], 0, true⟩,⟨some 8, none, .mv (.tmp 86), 0, false⟩]))
 (.regN [0, 1, 2, 7, 8, 9, 10, 11] [
 ⟨some 72, none, .mv (.tmp 11), 0, false⟩,⟨some 73, none, .bini .add (.tmp 72) (.con (.val (.int .i64 1))), 0, false⟩,⟨some 11, none, .mv (.tmp 73), 0, false⟩])))
def t15L2 : AC := (.seq (.seq (.regN [0, 1, 2, 7, 8, 9] [
 ⟨some 15, none, .mv (.tmp 9), 0, false⟩,⟨some 16, none, .mv (.tmp 1), 0, false⟩,⟨some 17, none, .len false (.tmp 16), 0, false⟩,⟨some 18, none, .bini .lss (.tmp 15) (.tmp 17), 0, false⟩,⟨some 19, none, .mv (.tmp 18), 0, false⟩,⟨some 20, some (19, true), .mv (.tmp 2), 0, false⟩,⟨some 21, some (19, true), .len false (.tmp 20), 0, false⟩,⟨some 22, some (19, true), .bini .gtr (.tmp 21) (.con (.val (.int .i64 0))), 0, false⟩,⟨some 23, none, .pick (.tmp 19) (.tmp 22) (.con (.val (.bool false))), 0, false⟩])
 (.cond (.tmp 23)
 .skip
 (.exit 0)))
 (.seq (.block 1
 (.seq (.regD [0, 1, 2, 7, 8, 9] 0 [
 ⟨some 26, none, .mv (.tmp 1), 0, false⟩,⟨some 27, none, .mv (.tmp 9), 0, false⟩,⟨some 28, none, .ixA 1 (.tmp 26) (.tmp 27), 0, false⟩,⟨some 29, none, .ld1 none (.tmp 28), 0, false⟩,⟨some 30, none, .len true (.tmp 29), 0, false⟩,⟨some 31, none, .mv (.tmp 0), 0, false⟩,⟨some 32, none, .bini .geq (.tmp 30) (.tmp 31), 0, false⟩,⟨some 33, none, .mv (.tmp 32), 0, false⟩,⟨some 34, some (33, false), .mv (.tmp 1), 0, false⟩,⟨some 35, some (33, false), .mv (.tmp 9), 0, false⟩,⟨some 36, some (33, false), .ixA 1 (.tmp 34) (.tmp 35), 0, false⟩,⟨some 37, some (33, false), .ld1 none (.tmp 36), 0, false⟩,⟨some 38, some (33, false), .bins .neq (.tmp 37) (.con (.val (.string ⟨#[]⟩))), 0, false⟩,⟨some 39, some (33, false), .mv (.tmp 38), 0, false⟩,⟨some 40, some (39, true), .mv (.tmp 1), 0, false⟩,⟨some 41, some (39, true), .mv (.tmp 9), 0, false⟩,⟨some 42, some (39, true), .ixA 1 (.tmp 40) (.tmp 41), 0, false⟩,⟨some 43, some (39, true), .ld1 none (.tmp 42), 0, false⟩,⟨some 44, some (39, true), .mv (.tmp 1), 0, false⟩,⟨some 45, some (39, true), .mv (.tmp 9), 0, false⟩,⟨some 46, some (39, true), .ixA 1 (.tmp 44) (.tmp 45), 0, false⟩,⟨some 47, some (39, true), .ld1 none (.tmp 46), 0, false⟩,⟨some 48, some (39, true), .len true (.tmp 47), 0, false⟩,⟨some 49, some (39, true), .bini .sub (.tmp 48) (.con (.val (.int .i64 1))), 0, false⟩,⟨some 50, some (39, true), .ixS (.tmp 43) (.tmp 49), 0, false⟩,⟨some 51, some (39, true), .bini .eql (.tmp 50) (.con (.val (.int .u8 255))), 0, false⟩,⟨some 52, some (33, false), .pick (.tmp 39) (.tmp 51) (.con (.val (.bool false))), 0, false⟩,⟨some 53, none, .pick (.tmp 33) (.con (.val (.bool true))) (.tmp 52), 0, false⟩,⟨some 10, none, .mv (.tmp 53), 0, false⟩])
 (.seq (.seq (.regN [0, 1, 2, 7, 8, 9, 10] [
 ⟨some 54, none, .mv (.tmp 10), 0, false⟩])
 (.cond (.tmp 54)
 (.regN [0, 1, 2, 7, 8, 9, 10] [
 ⟨some 55, none, .mv (.tmp 8), 0, false⟩,⟨some 56, none, .mv (.tmp 7), 0, false⟩,⟨some 57, none, .mv (.tmp 0), 0, false⟩,⟨some 58, none, .mv (.tmp 1), 0, false⟩,⟨some 59, none, .mv (.tmp 9), 0, false⟩,⟨some 60, none, .ixA 1 (.tmp 58) (.tmp 59), 0, false⟩,⟨some 61, none, .ld1 none (.tmp 60), 0, false⟩,⟨some 62, none, .call 42 [(.tmp 57), (.tmp 61), (.con (.val (.string ⟨#[]⟩)))], 0, false⟩,⟨some 63, none, .call 40 [(.tmp 55), (.tmp 56), (.tmp 62)], 0, false⟩,⟨some 8, none, .mv (.tmp 63), 0, false⟩])
 .skip))
 (.seq (.regN [0, 1, 2, 7, 8, 9, 10] [
 ⟨some 11, none, .mv (.con (.val (.int .i64 0))), 0, false⟩])
 (.block 2
 (.loop [0, 1, 2, 7, 8, 9, 10, 11] t15L1))))))
 (.regN [0, 1, 2, 7, 8, 9] [
 ⟨some 24, none, .mv (.tmp 9), 0, false⟩,⟨some 25, none, .bini .add (.tmp 24) (.con (.val (.int .i64 1))), 0, false⟩,⟨some 9, none, .mv (.tmp 25), 0, false⟩])))
def t15B : AC := (.seq (.regN [0, 1, 2] [
 ⟨some 6, none, .mv (.con .e0), 0, false⟩])
 (.seq (.regN [0, 1, 2] [
 ⟨some 12, none, .mv (.tmp 0), 0, false⟩,⟨some 13, none, .mm true [(.con (.val (.int .i64 0))), (.tmp 12)], 0, false⟩,⟨some 0, none, .mv (.tmp 13), 0, false⟩])
 (.seq (.regN [0, 1, 2] [
 ⟨some 14, none, .mkm, 0, false⟩,⟨some 7, none, .mv (.tmp 14), 0, false⟩])
 (.seq (.regN [0, 1, 2, 7] [
 ⟨some 8, none, .mv (.con .e0), 0, false⟩])
 (.seq (.seq (.regN [0, 1, 2, 7, 8] [
 ⟨some 9, none, .mv (.con (.val (.int .i64 0))), 0, false⟩])
 (.block 0
 (.loop [0, 1, 2, 7, 8, 9] t15L2)))
 (.seq .frz
 (.seq (.regN [8] [
 ⟨some 87, none, .mv (.tmp 8), 0, false⟩,⟨some 88, none, .call 41 [(.tmp 87)], 0, false⟩,⟨some 6, none, .mv (.tmp 88), 0, false⟩])
 .ret)))))))
def t15 : AFn := ⟨3, t15B,
 [.tmp 6], true⟩
def t42B : AC := (.seq (.regN [0, 1, 2] [
 ⟨some 6, none, .mv (.con (.val (.string ⟨#[]⟩))), 0, false⟩])
 (.seq (.seq (.regN [0, 1, 2] [
 ⟨some 7, none, .mv (.tmp 1), 0, false⟩,⟨some 8, none, .len true (.tmp 7), 0, false⟩,⟨some 9, none, .mv (.tmp 0), 0, false⟩,⟨some 10, none, .bini .lss (.tmp 8) (.tmp 9), 0, false⟩,⟨some 11, none, .mv (.tmp 10), 0, false⟩,⟨some 12, some (11, true), .mv (.tmp 1), 0, false⟩,⟨some 13, some (11, true), .bins .eql (.tmp 12) (.con (.val (.string ⟨#[]⟩))), 0, false⟩,⟨some 14, some (11, true), .mv (.tmp 13), 0, false⟩,⟨some 15, some (14, false), .mv (.tmp 1), 0, false⟩,⟨some 16, some (14, false), .mv (.tmp 1), 0, false⟩,⟨some 17, some (14, false), .len true (.tmp 16), 0, false⟩,⟨some 18, some (14, false), .bini .sub (.tmp 17) (.con (.val (.int .i64 1))), 0, false⟩,⟨some 19, some (14, false), .ixS (.tmp 15) (.tmp 18), 0, false⟩,⟨some 20, some (14, false), .bini .neq (.tmp 19) (.con (.val (.int .u8 255))), 0, false⟩,⟨some 21, some (11, true), .pick (.tmp 14) (.con (.val (.bool true))) (.tmp 20), 0, false⟩,⟨some 22, none, .pick (.tmp 11) (.tmp 21) (.con (.val (.bool false))), 0, false⟩])
 (.cond (.tmp 22)
 (.regN [0, 1, 2] [
 ⟨some 23, none, .mv (.tmp 1), 0, false⟩,⟨some 24, none, .mv (.tmp 2), 0, false⟩,⟨some 25, none, .bins .add (.tmp 23) (.tmp 24), 0, false⟩,⟨some 1, none, .mv (.tmp 25), 0, false⟩])
 .skip))
 (.seq (.seq (.regN [0, 1] [
 ⟨some 26, none, .mv (.tmp 1), 0, false⟩,⟨some 27, none, .len true (.tmp 26), 0, false⟩,⟨some 28, none, .mv (.tmp 0), 0, false⟩,⟨some 29, none, .bini .gtr (.tmp 27) (.tmp 28), 0, false⟩])
 (.cond (.tmp 29)
 (.regN [0, 1] [
 ⟨some 30, none, .mv (.tmp 1), 0, false⟩,⟨some 31, none, .mv (.tmp 0), 0, false⟩,⟨some 32, none, .slS (.tmp 30) none (some (.tmp 31)), 0, false⟩,⟨some 1, none, .mv (.tmp 32), 0, false⟩])
 .skip))
 (.seq (.regN [1] [
 ⟨some 33, none, .mv (.tmp 1), 0, false⟩,⟨some 6, none, .mv (.tmp 33), 0, false⟩])
 .ret))))
def t42 : AFn := ⟨3, t42B,
 [.tmp 6], true⟩
def t40B : AC := (.seq (.regN [0, 1, 2] [
 ⟨some 6, none, .mv (.con .e0), 0, false⟩])
 (.seq (.seq (.regN [0, 1, 2] [
 ⟨some 7, none, .mv (.tmp 1), 0, false⟩,⟨some 8, none, .mv (.tmp 2), 0, false⟩,⟨some 9, none, .mlk false [2] (.val (.bool false)) false (.tmp 7) (.tmp 8), 0, false⟩])
 (.cond (.tmp 9)
 (.seq (.regN [0] [
 ⟨some 10, none, .mv (.tmp 0), 0, false⟩,⟨some 6, none, .mv (.tmp 10), 0, false⟩])
 .ret)
 .skip))
 (.seq (.regN [0, 1, 2] [
 ⟨some 11, none, .mv (.tmp 1), 0, false⟩,⟨some 12, none, .mv (.tmp 2), 0, false⟩,⟨none, none, .mup false [2] (.tmp 11) (.tmp 12) (.con (.val (.bool true))), 0, false⟩])
 (.seq (.regN [0, 2] [
 ⟨some 13, none, .mv (.tmp 0), 0, false⟩,⟨some 14, none, .mv (.tmp 2), 0, false⟩,⟨some 15, none, .buildS 1 [(.val (.string ⟨#[]⟩))] [(0, 1, (.tmp 14))], 0, false⟩,⟨some 16, none, .app 1 16 (.tmp 13) (.tmp 15), 0, false⟩,⟨some 6, none, .mv (.tmp 16), 0, false⟩])
 .ret))))
def t40 : AFn := ⟨3, t40B,
 [.tmp 6], false⟩
def t41L1 : AC := (.seq (.seq (.regN [3, 4, 5] [
 ⟨some 22, none, .mv (.tmp 3), 0, false⟩,⟨some 23, none, .len false (.tmp 22), 0, false⟩,⟨some 24, none, .bini .gtr (.tmp 23) (.con (.val (.int .i64 0))), 0, false⟩,⟨some 25, none, .mv (.tmp 24), 0, false⟩,⟨some 26, some (25, true), .mv (.tmp 4), 0, false⟩,⟨some 27, some (25, true), .len false (.tmp 26), 0, false⟩,⟨some 28, some (25, true), .bini .gtr (.tmp 27) (.con (.val (.int .i64 0))), 0, false⟩,⟨some 29, none, .pick (.tmp 25) (.tmp 28) (.con (.val (.bool false))), 0, false⟩])
 (.cond (.tmp 29)
 .skip
 (.exit 0)))
 (.block 1
 (.seq (.regD [3, 4, 5] 0 [
 ⟨some 30, none, .mv (.tmp 3), 0, false⟩,⟨some 31, none, .ixA 1 (.tmp 30) (.con (.val (.int .i64 0))), 0, false⟩,⟨some 32, none, .ld1 none (.tmp 31), 0, false⟩,⟨some 33, none, .mv (.tmp 4), 0, false⟩,⟨some 34, none, .ixA 1 (.tmp 33) (.con (.val (.int .i64 0))), 0, false⟩,⟨some 35, none, .ld1 none (.tmp 34), 0, false⟩,⟨some 36, none, .bins .leq (.tmp 32) (.tmp 35), 0, false⟩])
 (.cond (.tmp 36)
 (.regD [3, 4, 5] 0 [
 ⟨some 37, none, .mv (.tmp 5), 0, false⟩,⟨some 38, none, .mv (.tmp 3), 0, false⟩,⟨some 39, none, .ixA 1 (.tmp 38) (.con (.val (.int .i64 0))), 0, false⟩,⟨some 40, none, .ld1 none (.tmp 39), 0, false⟩,⟨some 41, none, .buildS 1 [(.val (.string ⟨#[]⟩))] [(0, 1, (.tmp 40))], 0, false⟩,⟨some 42, none, .app 1 16 (.tmp 37) (.tmp 41), 0, false⟩,⟨some 43, none, .mv (.tmp 3), 0, false⟩,⟨some 44, none, .slC 1 (.tmp 43) (some (.con (.val (.int .i64 1)))) none, 0, false⟩,⟨some 5, none, .mv (.tmp 42), 0, false⟩,⟨some 3, none, .mv (.tmp 44), 0, false⟩])
 (.regD [3, 4, 5] 0 [
 ⟨some 45, none, .mv (.tmp 5), 0, false⟩,⟨some 46, none, .mv (.tmp 4), 0, false⟩,⟨some 47, none, .ixA 1 (.tmp 46) (.con (.val (.int .i64 0))), 0, false⟩,⟨some 48, none, .ld1 none (.tmp 47), 0, false⟩,⟨some 49, none, .buildS 1 [(.val (.string ⟨#[]⟩))] [(0, 1, (.tmp 48))], 0, false⟩,⟨some 50, none, .app 1 16 (.tmp 45) (.tmp 49), 0, false⟩,⟨some 51, none, .mv (.tmp 4), 0, false⟩,⟨some 52, none, .slC 1 (.tmp 51) (some (.con (.val (.int .i64 1)))) none, 0, false⟩,⟨some 5, none, .mv (.tmp 50), 0, false⟩,⟨some 4, none, .mv (.tmp 52), 0, false⟩])))))
def t41B : AC := (.seq (.regN [0] [
 ⟨some 2, none, .mv (.con .e0), 0, false⟩])
 (.seq (.seq (.regN [0] [
 ⟨some 6, none, .mv (.tmp 0), 0, false⟩,⟨some 7, none, .len false (.tmp 6), 0, false⟩,⟨some 8, none, .bini .lss (.tmp 7) (.con (.val (.int .i64 2))), 0, false⟩])
 (.cond (.tmp 8)
 (.seq (.regN [0] [
 ⟨some 9, none, .mv (.tmp 0), 0, false⟩,⟨some 2, none, .mv (.tmp 9), 0, false⟩])
 .ret)
 .skip))
 (.seq (.regD [0] 0 [
 ⟨some 10, none, .mv (.tmp 0), 0, false⟩,⟨some 11, none, .mv (.tmp 0), 0, false⟩,⟨some 12, none, .len false (.tmp 11), 0, false⟩,⟨some 13, none, .bini .quo (.tmp 12) (.con (.val (.int .i64 2))), 0, false⟩,⟨some 14, none, .slC 1 (.tmp 10) none (some (.tmp 13)), 0, false⟩,⟨some 15, none, .call 41 [(.tmp 14)], 0, true⟩,⟨some 16, none, .mv (.tmp 0), 0, false⟩,⟨some 17, none, .mv (.tmp 0), 0, false⟩,⟨some 18, none, .len false (.tmp 17), 0, false⟩,⟨some 19, none, .bini .quo (.tmp 18) (.con (.val (.int .i64 2))), 0, false⟩,⟨some 20, none, .slC 1 (.tmp 16) (some (.tmp 19)) none, 0, false⟩,⟨some 21, none, .call 41 [(.tmp 20)], 0, true⟩,⟨some 3, none, .mv (.tmp 15), 0, false⟩,⟨some 4, none, .mv (.tmp 21), 0, false⟩])
 (.seq (.regN [3, 4] [
 ⟨some 5, none, .mv (.con .e0), 0, false⟩])
 (.seq (.block 0
 (.loop [3, 4, 5] t41L1))
 (.seq (.regN [3, 4, 5] [
 ⟨some 53, none, .mv (.tmp 5), 0, false⟩,⟨some 54, none, .mv (.tmp 3), 0, false⟩,⟨some 55, none, .app 1 16 (.tmp 53) (.tmp 54), 0, false⟩,⟨some 56, none, .mv (.tmp 4), 0, false⟩,⟨some 57, none, .app 1 16 (.tmp 55) (.tmp 56), 0, false⟩,⟨some 2, none, .mv (.tmp 57), 0, false⟩])
 .ret))))))
def t41 : AFn := ⟨1, t41B,
 [.tmp 2], true⟩
def t14L1 : AC := (.seq (.seq (.regN [0, 1, 5, 6, 7] [
 ⟨some 10, none, .mv (.tmp 7), 0, false⟩,⟨some 11, none, .mv (.tmp 0), 0, false⟩,⟨some 12, none, .len false (.tmp 11), 0, false⟩,⟨some 13, none, .bini .lss (.tmp 10) (.tmp 12), 0, false⟩])
 (.cond (.tmp 13)
 .skip
 (.exit 0)))
 (.seq (.block 1
 (.regN [0, 1, 5, 6, 7] [
 ⟨some 16, none, .mv (.tmp 6), 0, false⟩,⟨some 17, none, .mv (.tmp 5), 0, false⟩,⟨some 18, none, .mv (.tmp 0), 0, false⟩,⟨some 19, none, .mv (.tmp 7), 0, false⟩,⟨some 20, none, .ixA 1 (.tmp 18) (.tmp 19), 0, false⟩,⟨some 21, none, .ld1 none (.tmp 20), 0, false⟩,⟨some 22, none, .call 40 [(.tmp 16), (.tmp 17), (.tmp 21)], 0, false⟩,⟨some 6, none, .mv (.tmp 22), 0, false⟩]))
 (.regN [0, 1, 5, 6, 7] [
 ⟨some 14, none, .mv (.tmp 7), 0, false⟩,⟨some 15, none, .bini .add (.tmp 14) (.con (.val (.int .i64 1))), 0, false⟩,⟨some 7, none, .mv (.tmp 15), 0, false⟩])))
def t14L2 : AC := (.seq (.seq (.regN [1, 5, 6, 8] [
 ⟨some 23, none, .mv (.tmp 8), 0, false⟩,⟨some 24, none, .mv (.tmp 1), 0, false⟩,⟨some 25, none, .len false (.tmp 24), 0, false⟩,⟨some 26, none, .bini .lss (.tmp 23) (.tmp 25), 0, false⟩])
 (.cond (.tmp 26)
 .skip
 (.exit 2)))
 (.seq (.block 3
 (.regN [1, 5, 6, 8] [
 ⟨some 29, none, .mv (.tmp 6), 0, false⟩,⟨some 30, none, .mv (.tmp 5), 0, false⟩,⟨some 31, none, .mv (.tmp 1), 0, false⟩,⟨some 32, none, .mv (.tmp 8), 0, false⟩,⟨some 33, none, .ixA 1 (.tmp 31) (.tmp 32), 0, false⟩,⟨some 34, none, .ld1 none (.tmp 33), 0, false⟩,⟨some 35, none, .call 40 [(.tmp 29), (.tmp 30), (.tmp 34)], 0, false⟩,⟨some 6, none, .mv (.tmp 35), 0, false⟩]))
 (.regN [1, 5, 6, 8] [
 ⟨some 27, none, .mv (.tmp 8), 0, false⟩,⟨some 28, none, .bini .add (.tmp 27) (.con (.val (.int .i64 1))), 0, false⟩,⟨some 8, none, .mv (.tmp 28), 0, false⟩])))
def t14B : AC := (.seq (.regN [0, 1] [
 ⟨some 4, none, .mv (.con .e0), 0, false⟩])
 (.seq (.regN [0, 1] [
 ⟨some 9, none, .mkm, 0, false⟩,⟨some 5, none, .mv (.tmp 9), 0, false⟩])
 (.seq (.regN [0, 1, 5] [
 ⟨some 6, none, .mv (.con .e0), 0, false⟩])
 (.seq (.seq (.regN [0, 1, 5, 6] [
 ⟨some 7, none, .mv (.con (.val (.int .i64 0))), 0, false⟩])
 (.block 0
 (.loop [0, 1, 5, 6, 7] t14L1)))
 (.seq (.seq (.regN [1, 5, 6] [
 ⟨some 8, none, .mv (.con (.val (.int .i64 0))), 0, false⟩])
 (.block 2
 (.loop [1, 5, 6, 8] t14L2)))
 (.seq .frz
 (.seq (.regN [6] [
 ⟨some 36, none, .mv (.tmp 6), 0, false⟩,⟨some 37, none, .call 41 [(.tmp 36)], 0, false⟩,⟨some 4, none, .mv (.tmp 37), 0, false⟩])
 .ret)))))))
def t14 : AFn := ⟨2, t14B,
 [.tmp 4], true⟩
def t16L1 : AC := (.seq (.seq (.regN [1, 2, 3, 7] [
 ⟨some 18, none, .mv (.tmp 7), 0, false⟩,⟨some 19, none, .mv (.tmp 2), 0, false⟩,⟨some 20, none, .len false (.tmp 19), 0, false⟩,⟨some 21, none, .bini .lss (.tmp 18) (.tmp 20), 0, false⟩])
 (.cond (.tmp 21)
 .skip
 (.exit 0)))
 (.seq (.block 1
 (.seq (.regD [1, 2, 3, 7] 0 [
 ⟨some 24, none, .mv (.tmp 2), 0, false⟩,⟨some 25, none, .mv (.tmp 7), 0, false⟩,⟨some 26, none, .ixA 1 (.tmp 24) (.tmp 25), 0, false⟩,⟨some 27, none, .ld1 none (.tmp 26), 0, false⟩,⟨some 28, none, .bini .lss (.tmp 27) (.con (.val (.int .i64 0))), 0, false⟩,⟨some 29, none, .mv (.tmp 28), 0, false⟩,⟨some 30, some (29, false), .mv (.tmp 2), 0, false⟩,⟨some 31, some (29, false), .mv (.tmp 7), 0, false⟩,⟨some 32, some (29, false), .ixA 1 (.tmp 30) (.tmp 31), 0, false⟩,⟨some 33, some (29, false), .ld1 none (.tmp 32), 0, false⟩,⟨some 34, some (29, false), .fldA 0 (.tmp 3), 0, false⟩,⟨some 35, some (29, false), .ld1 (some 3) (.tmp 34), 0, false⟩,⟨some 36, some (29, false), .fldA 1 (.tmp 3), 0, false⟩,⟨some 37, some (29, false), .ld1 (some 3) (.tmp 36), 0, false⟩,⟨some 38, some (29, false), .bini .add (.tmp 35) (.tmp 37), 0, false⟩,⟨some 39, some (29, false), .bini .geq (.tmp 33) (.tmp 38), 0, false⟩,⟨some 40, none, .pick (.tmp 29) (.con (.val (.bool true))) (.tmp 39), 0, false⟩])
 (.cond (.tmp 40)
 (.seq (.regN [] [
 ⟨some 6, none, .mv (.con .e0), 0, false⟩])
 .ret)
 .skip)))
 (.regN [1, 2, 3, 7] [
 ⟨some 22, none, .mv (.tmp 7), 0, false⟩,⟨some 23, none, .bini .add (.tmp 22) (.con (.val (.int .i64 1))), 0, false⟩,⟨some 7, none, .mv (.tmp 23), 0, false⟩])))
def t16B : AC := (.seq (.regN [0, 1, 2] [
 ⟨some 3, none, .boxR 4 (.tmp 0), 0, false⟩,⟨some 6, none, .mv (.con .e0), 0, false⟩])
 (.seq (.seq (.regN [1, 2, 3] [
 ⟨some 8, none, .ldA (some 3) 4 (.tmp 3), 0, false⟩,⟨some 9, none, .call 11 [(.tmp 8)], 0, false⟩,⟨some 10, none, .bini .neq (.tmp 9) (.con (.val (.int .i64 0))), 0, false⟩,⟨some 11, none, .mv (.tmp 10), 0, false⟩,⟨some 12, some (11, false), .mv (.tmp 1), 0, false⟩,⟨some 13, some (11, false), .len false (.tmp 12), 0, false⟩,⟨some 14, some (11, false), .fldA 1 (.tmp 3), 0, false⟩,⟨some 15, some (11, false), .ld1 (some 3) (.tmp 14), 0, false⟩,⟨some 16, some (11, false), .bini .neq (.tmp 13) (.tmp 15), 0, false⟩,⟨some 17, none, .pick (.tmp 11) (.con (.val (.bool true))) (.tmp 16), 0, false⟩])
 (.cond (.tmp 17)
 (.seq (.regN [] [
 ⟨some 6, none, .mv (.con .e0), 0, false⟩])
 .ret)
 .skip))
 (.seq (.seq (.regN [1, 2, 3] [
 ⟨some 7, none, .mv (.con (.val (.int .i64 0))), 0, false⟩])
 (.block 0
 (.loop [1, 2, 3, 7] t16L1)))
 (.seq (.regN [1, 2, 3] [
 ⟨some 41, none, .ldA (some 3) 4 (.tmp 3), 0, false⟩,⟨some 42, none, .mv (.tmp 1), 0, false⟩,⟨some 43, none, .mv (.tmp 2), 0, false⟩,⟨some 44, none, .call 39 [(.tmp 41), (.tmp 42), (.tmp 43)], 0, false⟩,⟨some 6, none, .mv (.tmp 44), 0, false⟩])
 .ret))))
def t16 : AFn := ⟨3, t16B,
 [.tmp 6], true⟩
def t4L1 : AC := (.seq (.seq (.regN [1, 2, 3, 7, 8, 9, 10, 11, 12, 13, 14, 15, 16] [
 ⟨some 97, none, .mv (.tmp 16), 0, false⟩,⟨some 98, none, .fldA 3 (.tmp 3), 0, false⟩,⟨some 99, none, .ld1 (some 3) (.tmp 98), 0, false⟩,⟨some 100, none, .len false (.tmp 99), 0, false⟩,⟨some 101, none, .bini .lss (.tmp 97) (.tmp 100), 0, false⟩])
 (.cond (.tmp 101)
 .skip
 (.exit 2)))
 (.seq (.block 3
 (.seq (.regD [1, 2, 3, 7, 8, 9, 10, 11, 12, 13, 14, 15, 16] 0 [
 ⟨some 104, none, .fldA 3 (.tmp 3), 0, false⟩,⟨some 105, none, .ld1 (some 3) (.tmp 104), 0, false⟩,⟨some 106, none, .mv (.tmp 16), 0, false⟩,⟨some 107, none, .ixA 2 (.tmp 105) (.tmp 106), 0, false⟩,⟨some 108, none, .fldA 0 (.tmp 107), 0, false⟩,⟨some 109, none, .ld1 none (.tmp 108), 0, false⟩,⟨some 110, none, .mv (.tmp 14), 0, false⟩,⟨some 111, none, .fldA 0 (.tmp 3), 0, false⟩,⟨some 112, none, .ld1 (some 3) (.tmp 111), 0, false⟩,⟨some 113, none, .bini .sub (.tmp 110) (.tmp 112), 0, false⟩,⟨some 114, none, .bini .eql (.tmp 109) (.tmp 113), 0, false⟩])
 (.cond (.tmp 114)
 (.regN [1, 2, 3, 7, 8, 9, 10, 11, 12, 13, 14, 15, 16] [
 ⟨some 115, none, .mv (.tmp 15), 0, false⟩,⟨some 116, none, .mv (.tmp 16), 0, false⟩,⟨some 117, none, .buildS 1 [(.val (.int .i64 0))] [(0, 1, (.tmp 116))], 0, false⟩,⟨some 118, none, .app 1 8 (.tmp 115) (.tmp 117), 0, false⟩,⟨some 15, none, .mv (.tmp 118), 0, false⟩])
 .skip)))
 (.regN [1, 2, 3, 7, 8, 9, 10, 11, 12, 13, 14, 15, 16] [
 ⟨some 102, none, .mv (.tmp 16), 0, false⟩,⟨some 103, none, .bini .add (.tmp 102) (.con (.val (.int .i64 1))), 0, false⟩,⟨some 16, none, .mv (.tmp 103), 0, false⟩])))
def t4L2 : AC := (.seq (.seq (.regN [1, 2, 3, 7, 8, 9, 10, 11, 12, 13, 17, 18] [
 ⟨some 152, none, .mv (.tmp 18), 0, false⟩,⟨some 153, none, .bini .geq (.tmp 152) (.con (.val (.int .i64 0))), 0, false⟩])
 (.cond (.tmp 153)
 .skip
 (.exit 4)))
 (.seq (.block 5
 (.regN [1, 2, 3, 7, 8, 9, 10, 11, 12, 13, 17, 18] [
 ⟨some 156, none, .mv (.tmp 8), 0, false⟩,⟨some 157, none, .fldA 1 (.tmp 17), 0, false⟩,⟨some 158, none, .ld1 (some 17) (.tmp 157), 0, false⟩,⟨some 159, none, .mv (.tmp 18), 0, false⟩,⟨some 160, none, .ixA 1 (.tmp 158) (.tmp 159), 0, false⟩,⟨some 161, none, .ld1 none (.tmp 160), 0, false⟩,⟨some 162, none, .buildS 1 [(.val (.int .i64 0))] [(0, 1, (.tmp 161))], 0, false⟩,⟨some 163, none, .app 1 8 (.tmp 156) (.tmp 162), 0, false⟩,⟨some 8, none, .mv (.tmp 163), 0, false⟩]))
 (.regN [1, 2, 3, 7, 8, 9, 10, 11, 12, 13, 17, 18] [
 ⟨some 154, none, .mv (.tmp 18), 0, false⟩,⟨some 155, none, .bini .sub (.tmp 154) (.con (.val (.int .i64 1))), 0, false⟩,⟨some 18, none, .mv (.tmp 155), 0, false⟩])))
def t4L3 : AC := (.seq (.seq (.regN [1, 2, 3, 7, 8, 9, 10, 11, 12, 13] [
 ⟨some 52, none, .mv (.tmp 8), 0, false⟩,⟨some 53, none, .len false (.tmp 52), 0, false⟩,⟨some 54, none, .bini .gtr (.tmp 53) (.con (.val (.int .i64 0))), 0, false⟩])
 (.cond (.tmp 54)
 .skip
 (.exit 0)))
 (.seq (.block 1
 (.seq (.seq (.regN [1, 2, 3, 7, 8, 9, 10, 11, 12, 13] [
 ⟨some 57, none, .mv (.tmp 12), 0, false⟩,⟨some 58, none, .mv (.tmp 8), 0, false⟩,⟨some 59, none, .len false (.tmp 58), 0, false⟩,⟨some 60, none, .bini .eql (.tmp 57) (.tmp 59), 0, false⟩])
 (.cond (.tmp 60)
 (.regN [1, 2, 3, 7, 8, 9, 10, 13] [
 ⟨some 61, none, .mv (.tmp 9), 0, false⟩,⟨some 62, none, .len true (.tmp 61), 0, false⟩,⟨some 11, none, .mv (.tmp 62), 0, false⟩,⟨some 12, none, .mv (.con (.val (.int .i64 (-2)))), 0, false⟩])
 .skip))
 (.seq (.regN [1, 2, 3, 7, 8, 9, 10, 11, 12, 13] [
 ⟨some 63, none, .mv (.tmp 8), 0, false⟩,⟨some 64, none, .mv (.tmp 8), 0, false⟩,⟨some 65, none, .len false (.tmp 64), 0, false⟩,⟨some 66, none, .bini .sub (.tmp 65) (.con (.val (.int .i64 1))), 0, false⟩,⟨some 67, none, .ixA 1 (.tmp 63) (.tmp 66), 0, false⟩,⟨some 68, none, .ld1 none (.tmp 67), 0, false⟩,⟨some 14, none, .mv (.tmp 68), 0, false⟩])
 (.seq (.regN [1, 2, 3, 7, 8, 9, 10, 11, 12, 13, 14] [
 ⟨some 69, none, .mv (.tmp 8), 0, false⟩,⟨some 70, none, .mv (.tmp 8), 0, false⟩,⟨some 71, none, .len false (.tmp 70), 0, false⟩,⟨some 72, none, .bini .sub (.tmp 71) (.con (.val (.int .i64 1))), 0, false⟩,⟨some 73, none, .slC 1 (.tmp 69) none (some (.tmp 72)), 0, false⟩,⟨some 8, none, .mv (.tmp 73), 0, false⟩])
 (.seq (.seq (.regN [1, 2, 3, 7, 8, 9, 10, 11, 12, 13, 14] [
 ⟨some 74, none, .mv (.tmp 14), 0, false⟩,⟨some 75, none, .fldA 0 (.tmp 3), 0, false⟩,⟨some 76, none, .ld1 (some 3) (.tmp 75), 0, false⟩,⟨some 77, none, .bini .lss (.tmp 74) (.tmp 76), 0, false⟩])
 (.cond (.tmp 77)
 (.seq (.regN [1, 2, 3, 7, 8, 9, 10, 11, 12, 13, 14] [
 ⟨some 78, none, .mv (.tmp 9), 0, false⟩,⟨some 79, none, .mv (.tmp 14), 0, false⟩,⟨some 80, none, .cvi .u8 (.tmp 79), 0, false⟩,⟨some 81, none, .buildS 1 [(.val (.int .u8 0))] [(0, 1, (.tmp 80))], 0, false⟩,⟨some 82, none, .b2s (.tmp 81), 0, false⟩,⟨some 83, none, .bins .add (.tmp 78) (.tmp 82), 0, false⟩,⟨some 9, none, .mv (.tmp 83), 0, false⟩])
 (.exit 1))
 .skip))
 (.seq (.seq (.regN [1, 2, 3, 7, 8, 9, 10, 11, 12, 13, 14] [
 ⟨some 84, none, .mv (.tmp 13), 0, false⟩,⟨some 85, none, .mv (.tmp 2), 0, false⟩,⟨some 86, none, .bini .geq (.tmp 84) (.tmp 85), 0, false⟩,⟨some 87, none, .mv (.tmp 86), 0, false⟩,⟨some 88, some (87, true), .mv (.tmp 10), 0, false⟩,⟨some 89, some (87, true), .bini .lss (.tmp 88) (.con (.val (.int .i64 0))), 0, false⟩,⟨some 90, none, .pick (.tmp 87) (.tmp 89) (.con (.val (.bool false))), 0, false⟩])
 (.cond (.tmp 90)
 (.regN [1, 2, 3, 7, 8, 9, 11, 13, 14] [
 ⟨some 91, none, .mv (.tmp 14), 0, false⟩,⟨some 92, none, .fldA 0 (.tmp 3), 0, false⟩,⟨some 93, none, .ld1 (some 3) (.tmp 92), 0, false⟩,⟨some 94, none, .bini .sub (.tmp 91) (.tmp 93), 0, false⟩,⟨some 95, none, .mv (.tmp 8), 0, false⟩,⟨some 96, none, .len false (.tmp 95), 0, false⟩,⟨some 10, none, .mv (.tmp 94), 0, false⟩,⟨some 12, none, .mv (.tmp 96), 0, false⟩])
 .skip))
 (.seq (.regN [1, 2, 3, 7, 8, 9, 10, 11, 12, 13, 14] [
 ⟨some 15, none, .mv (.con .e0), 0, false⟩])
 (.seq (.seq (.regN [1, 2, 3, 7, 8, 9, 10, 11, 12, 13, 14, 15] [
 ⟨some 16, none, .mv (.con (.val (.int .i64 0))), 0, false⟩])
 (.block 2
 (.loop [1, 2, 3, 7, 8, 9, 10, 11, 12, 13, 14, 15, 16] t4L1)))
 (.seq (.seq (.regN [1, 2, 3, 7, 8, 9, 10, 11, 12, 13, 15] [
 ⟨some 119, none, .mv (.tmp 15), 0, false⟩,⟨some 120, none, .len false (.tmp 119), 0, false⟩,⟨some 121, none, .bini .eql (.tmp 120) (.con (.val (.int .i64 0))), 0, false⟩,⟨some 122, none, .mv (.tmp 121), 0, false⟩,⟨some 123, some (122, false), .mv (.tmp 13), 0, false⟩,⟨some 124, some (122, false), .bini .gtr (.tmp 123) (.con (.val (.int .i64 120))), 0, false⟩,⟨some 125, none, .pick (.tmp 122) (.con (.val (.bool true))) (.tmp 124), 0, false⟩,⟨some 126, none, .mv (.tmp 125), 0, false⟩,⟨some 127, some (126, false), .mv (.tmp 8), 0, false⟩,⟨some 128, some (126, false), .len false (.tmp 127), 0, false⟩,⟨some 129, some (126, false), .bini .gtr (.tmp 128) (.con (.val (.int .i64 200))), 0, false⟩,⟨some 130, none, .pick (.tmp 126) (.con (.val (.bool true))) (.tmp 129), 0, false⟩])
 (.cond (.tmp 130)
 (.seq (.regN [] [
 ⟨some 6, none, .mv (.con (.val (.bool true))), 0, false⟩])
 .ret)
 .skip))
 (.seq (.regD [1, 2, 3, 7, 8, 9, 10, 11, 12, 13, 15] 0 [
 ⟨some 131, none, .fldA 3 (.tmp 3), 0, false⟩,⟨some 132, none, .ld1 (some 3) (.tmp 131), 0, false⟩,⟨some 133, none, .mv (.tmp 15), 0, false⟩,⟨some 134, none, .mv (.tmp 1), 0, false⟩,⟨some 135, none, .mv (.tmp 13), 0, false⟩,⟨some 136, none, .mv (.tmp 1), 0, false⟩,⟨some 137, none, .len false (.tmp 136), 0, false⟩,⟨some 138, none, .bini .rem (.tmp 135) (.tmp 137), 0, false⟩,⟨some 139, none, .ixA 1 (.tmp 134) (.tmp 138), 0, false⟩,⟨some 140, none, .ld1 none (.tmp 139), 0, false⟩,⟨some 141, none, .mv (.tmp 15), 0, false⟩,⟨some 142, none, .len false (.tmp 141), 0, false⟩,⟨some 143, none, .call 18 [(.tmp 140), (.tmp 142)], 0, true⟩,⟨some 144, none, .ixA 1 (.tmp 133) (.tmp 143), 0, false⟩,⟨some 145, none, .ld1 none (.tmp 144), 0, false⟩,⟨some 146, none, .ixA 2 (.tmp 132) (.tmp 145), 0, false⟩,⟨some 147, none, .ldA none 2 (.tmp 146), 0, false⟩,⟨some 17, none, .allocR [(.val (.int .i64 0)), .e0], 0, false⟩,⟨none, none, .st (some 17) 2 (.tmp 17) (.tmp 147), 0, false⟩])
 (.seq (.regN [1, 2, 3, 7, 8, 9, 10, 11, 12, 13, 17] [
 ⟨some 148, none, .fldA 1 (.tmp 17), 0, false⟩,⟨some 149, none, .ld1 (some 17) (.tmp 148), 0, false⟩,⟨some 150, none, .len false (.tmp 149), 0, false⟩,⟨some 151, none, .bini .sub (.tmp 150) (.con (.val (.int .i64 1))), 0, false⟩,⟨some 18, none, .mv (.tmp 151), 0, false⟩])
 (.block 4
 (.loop [1, 2, 3, 7, 8, 9, 10, 11, 12, 13, 17, 18] t4L2)))))))))))))
 (.regN [1, 2, 3, 7, 8, 9, 10, 11, 12, 13] [
 ⟨some 55, none, .mv (.tmp 13), 0, false⟩,⟨some 56, none, .bini .add (.tmp 55) (.con (.val (.int .i64 1))), 0, false⟩,⟨some 13, none, .mv (.tmp 56), 0, false⟩])))
def t4B : AC := (.seq (.regN [0, 1, 2] [
 ⟨some 3, none, .boxR 4 (.tmp 0), 0, false⟩,⟨some 6, none, .mv (.con (.val (.bool false))), 0, false⟩])
 (.seq (.seq (.regN [1, 2, 3] [
 ⟨some 20, none, .call 9 [], 0, false⟩,⟨some 21, none, .not (.tmp 20), 0, false⟩])
 (.cond (.tmp 21)
 (.seq (.regN [] [
 ⟨some 6, none, .mv (.con (.val (.bool false))), 0, false⟩])
 .ret)
 .skip))
 (.seq (.seq (.regN [1, 2, 3] [
 ⟨some 22, none, .ldA (some 3) 4 (.tmp 3), 0, false⟩,⟨some 23, none, .call 10 [(.tmp 22)], 0, false⟩,⟨some 24, none, .not (.tmp 23), 0, false⟩,⟨some 25, none, .mv (.tmp 24), 0, false⟩,⟨some 26, some (25, false), .ldA (some 3) 4 (.tmp 3), 0, false⟩,⟨some 27, some (25, false), .call 11 [(.tmp 26)], 0, false⟩,⟨some 28, some (25, false), .bini .neq (.tmp 27) (.con (.val (.int .i64 0))), 0, false⟩,⟨some 29, none, .pick (.tmp 25) (.con (.val (.bool true))) (.tmp 28), 0, false⟩,⟨some 30, none, .mv (.tmp 29), 0, false⟩,⟨some 31, some (30, false), .mv (.tmp 1), 0, false⟩,⟨some 32, some (30, false), .len false (.tmp 31), 0, false⟩,⟨some 33, some (30, false), .bini .eql (.tmp 32) (.con (.val (.int .i64 0))), 0, false⟩,⟨some 34, none, .pick (.tmp 30) (.con (.val (.bool true))) (.tmp 33), 0, false⟩,⟨some 35, none, .mv (.tmp 34), 0, false⟩,⟨some 36, some (35, false), .mv (.tmp 1), 0, false⟩,⟨some 37, some (35, false), .len false (.tmp 36), 0, false⟩,⟨some 38, some (35, false), .bini .gtr (.tmp 37) (.con (.val (.int .i64 60))), 0, false⟩,⟨some 39, none, .pick (.tmp 35) (.con (.val (.bool true))) (.tmp 38), 0, false⟩])
 (.cond (.tmp 39)
 (.seq (.regN [] [
 ⟨some 6, none, .mv (.con (.val (.bool true))), 0, false⟩])
 .ret)
 .skip))
 (.seq (.regN [1, 2, 3] [
 ⟨some 40, none, .ldA (some 3) 4 (.tmp 3), 0, false⟩,⟨some 41, none, .call 12 [(.tmp 40)], 0, false⟩,⟨some 7, none, .mv (.tmp 41), 0, false⟩])
 (.seq (.seq (.regN [1, 2, 3, 7] [
 ⟨some 42, none, .mv (.tmp 7), 0, false⟩,⟨some 43, none, .len false (.tmp 42), 0, false⟩,⟨some 44, none, .fldA 1 (.tmp 3), 0, false⟩,⟨some 45, none, .ld1 (some 3) (.tmp 44), 0, false⟩,⟨some 46, none, .bini .neq (.tmp 43) (.tmp 45), 0, false⟩])
 (.cond (.tmp 46)
 (.seq (.regN [] [
 ⟨some 6, none, .mv (.con (.val (.bool false))), 0, false⟩])
 .ret)
 .skip))
 (.seq (.regN [1, 2, 3, 7] [
 ⟨some 47, none, .mv (.tmp 2), 0, false⟩,⟨some 48, none, .call 18 [(.tmp 47), (.con (.val (.int .i64 60)))], 0, false⟩,⟨some 2, none, .mv (.tmp 48), 0, false⟩])
 (.seq (.regN [1, 2, 3, 7] [
 ⟨some 49, none, .fldA 0 (.tmp 3), 0, false⟩,⟨some 50, none, .ld1 (some 3) (.tmp 49), 0, false⟩,⟨some 51, none, .buildH 1 1 [(.val (.int .i64 0))] [(0, 1, (.tmp 50))], 0, false⟩,⟨some 8, none, .mv (.tmp 51), 0, false⟩])
 (.seq (.regN [1, 2, 3, 7, 8] [
 ⟨some 9, none, .mv (.con (.val (.string ⟨#[]⟩))), 0, false⟩,⟨some 10, none, .mv (.con (.val (.int .i64 (-1)))), 0, false⟩,⟨some 11, none, .mv (.con (.val (.int .i64 0))), 0, false⟩,⟨some 12, none, .mv (.con (.val (.int .i64 (-1)))), 0, false⟩])
 (.seq (.seq (.regN [1, 2, 3, 7, 8, 9, 10, 11, 12] [
 ⟨some 13, none, .mv (.con (.val (.int .i64 0))), 0, false⟩])
 (.block 0
 (.loop [1, 2, 3, 7, 8, 9, 10, 11, 12, 13] t4L3)))
 (.seq (.seq (.regN [3, 7, 9, 10, 11, 12] [
 ⟨some 164, none, .mv (.tmp 10), 0, false⟩,⟨some 165, none, .bini .lss (.tmp 164) (.con (.val (.int .i64 0))), 0, false⟩])
 (.cond (.tmp 165)
 (.seq (.regN [] [
 ⟨some 6, none, .mv (.con (.val (.bool true))), 0, false⟩])
 .ret)
 .skip))
 (.seq (.seq (.regN [3, 7, 9, 10, 11, 12] [
 ⟨some 166, none, .mv (.tmp 12), 0, false⟩,⟨some 167, none, .bini .geq (.tmp 166) (.con (.val (.int .i64 0))), 0, false⟩])
 (.cond (.tmp 167)
 (.regN [3, 7, 9, 10] [
 ⟨some 168, none, .mv (.tmp 9), 0, false⟩,⟨some 169, none, .len true (.tmp 168), 0, false⟩,⟨some 11, none, .mv (.tmp 169), 0, false⟩])
 .skip))
 (.seq (.regN [3, 7, 9, 10, 11] [
 ⟨some 170, none, .mv (.tmp 9), 0, false⟩,⟨some 171, none, .mv (.tmp 11), 0, false⟩,⟨some 172, none, .slS (.tmp 170) (some (.tmp 171)) none, 0, false⟩,⟨some 173, none, .bins .add (.tmp 172) (.con (.val (.string ⟨#[255]⟩))), 0, false⟩,⟨some 19, none, .mv (.tmp 173), 0, false⟩])
 (.seq (.regD [3, 7, 10, 19] 0 [
 ⟨some 174, none, .mv (.tmp 7), 0, false⟩,⟨some 175, none, .mv (.tmp 10), 0, false⟩,⟨some 176, none, .ixA 1 (.tmp 174) (.tmp 175), 0, false⟩,⟨some 177, none, .ld1 none (.tmp 176), 0, false⟩,⟨some 178, none, .mv (.tmp 19), 0, false⟩,⟨some 179, none, .fldA 2 (.tmp 3), 0, false⟩,⟨some 180, none, .ld1 (some 3) (.tmp 179), 0, false⟩,⟨some 181, none, .mv (.tmp 19), 0, false⟩,⟨some 182, none, .len true (.tmp 181), 0, false⟩,⟨some 183, none, .mm false [(.tmp 180), (.tmp 182)], 0, false⟩,⟨some 184, none, .slS (.tmp 178) none (some (.tmp 183)), 0, false⟩,⟨some 185, none, .call 19 [(.tmp 177), (.tmp 184)], 0, true⟩,⟨some 6, none, .mv (.tmp 185), 0, false⟩])
 .ret)))))))))))))
def t4 : AFn := ⟨3, t4B,
 [.tmp 6], true⟩
def t18B : AC := (.seq (.regN [0, 1] [
 ⟨some 4, none, .mv (.con (.val (.int .i64 0))), 0, false⟩])
 (.seq (.seq (.regN [0, 1] [
 ⟨some 6, none, .mv (.tmp 1), 0, false⟩,⟨some 7, none, .bini .lss (.tmp 6) (.con (.val (.int .i64 1))), 0, false⟩])
 (.cond (.tmp 7)
 (.seq (.regN [] [
 ⟨some 4, none, .mv (.con (.val (.int .i64 0))), 0, false⟩])
 .ret)
 .skip))
 (.seq (.regN [0, 1] [
 ⟨some 8, none, .mv (.tmp 0), 0, false⟩,⟨some 9, none, .mv (.tmp 1), 0, false⟩,⟨some 10, none, .bini .rem (.tmp 8) (.tmp 9), 0, false⟩,⟨some 5, none, .mv (.tmp 10), 0, false⟩])
 (.seq (.seq (.regN [1, 5] [
 ⟨some 11, none, .mv (.tmp 5), 0, false⟩,⟨some 12, none, .bini .lss (.tmp 11) (.con (.val (.int .i64 0))), 0, false⟩])
 (.cond (.tmp 12)
 (.regN [1, 5] [
 ⟨some 13, none, .mv (.tmp 5), 0, false⟩,⟨some 14, none, .mv (.tmp 1), 0, false⟩,⟨some 15, none, .bini .add (.tmp 13) (.tmp 14), 0, false⟩,⟨some 5, none, .mv (.tmp 15), 0, false⟩])
 .skip))
 (.seq (.regN [5] [
 ⟨some 16, none, .mv (.tmp 5), 0, false⟩,⟨some 4, none, .mv (.tmp 16), 0, false⟩])
 .ret)))))
def t18 : AFn := ⟨2, t18B,
 [.tmp 4], true⟩
def t19L1 : AC := (.seq (.seq (.regN [0, 1, 5] [
 ⟨some 6, none, .mv (.tmp 5), 0, false⟩,⟨some 7, none, .mv (.tmp 0), 0, false⟩,⟨some 8, none, .len false (.tmp 7), 0, false⟩,⟨some 9, none, .bini .lss (.tmp 6) (.tmp 8), 0, false⟩])
 (.cond (.tmp 9)
 .skip
 (.exit 0)))
 (.seq (.block 1
 (.seq (.regN [0, 1, 5] [
 ⟨some 12, none, .mv (.tmp 0), 0, false⟩,⟨some 13, none, .mv (.tmp 5), 0, false⟩,⟨some 14, none, .ixA 1 (.tmp 12) (.tmp 13), 0, false⟩,⟨some 15, none, .ld1 none (.tmp 14), 0, false⟩,⟨some 16, none, .mv (.tmp 1), 0, false⟩,⟨some 17, none, .bins .eql (.tmp 15) (.tmp 16), 0, false⟩])
 (.cond (.tmp 17)
 (.seq (.regN [] [
 ⟨some 4, none, .mv (.con (.val (.bool true))), 0, false⟩])
 .ret)
 .skip)))
 (.regN [0, 1, 5] [
 ⟨some 10, none, .mv (.tmp 5), 0, false⟩,⟨some 11, none, .bini .add (.tmp 10) (.con (.val (.int .i64 1))), 0, false⟩,⟨some 5, none, .mv (.tmp 11), 0, false⟩])))
def t19B : AC := (.seq (.regN [0, 1] [
 ⟨some 4, none, .mv (.con (.val (.bool false))), 0, false⟩])
 (.seq (.seq (.regN [0, 1] [
 ⟨some 5, none, .mv (.con (.val (.int .i64 0))), 0, false⟩])
 (.block 0
 (.loop [0, 1, 5] t19L1)))
 (.seq (.regN [] [
 ⟨some 4, none, .mv (.con (.val (.bool false))), 0, false⟩])
 .ret)))
def t19 : AFn := ⟨2, t19B,
 [.tmp 4], true⟩
def t5L1 : AC := (.seq (.seq (.regN [2, 6, 7, 9, 10, 11] [
 ⟨some 68, none, .mv (.tmp 11), 0, false⟩,⟨some 69, none, .mv (.tmp 6), 0, false⟩,⟨some 70, none, .mv (.tmp 10), 0, false⟩,⟨some 71, none, .ixA 1 (.tmp 69) (.tmp 70), 0, false⟩,⟨some 72, none, .ld1 none (.tmp 71), 0, false⟩,⟨some 73, none, .len false (.tmp 72), 0, false⟩,⟨some 74, none, .bini .lss (.tmp 68) (.tmp 73), 0, false⟩])
 (.cond (.tmp 74)
 .skip
 (.exit 2)))
 (.seq (.block 3
 (.seq (.regD [2, 6, 7, 9, 10, 11] 0 [
 ⟨some 77, none, .mv (.tmp 7), 0, false⟩,⟨some 78, none, .mv (.tmp 10), 0, false⟩,⟨some 79, none, .ixA 1 (.tmp 77) (.tmp 78), 0, false⟩,⟨some 80, none, .ld1 none (.tmp 79), 0, false⟩,⟨some 81, none, .mv (.tmp 6), 0, false⟩,⟨some 82, none, .mv (.tmp 10), 0, false⟩,⟨some 83, none, .ixA 1 (.tmp 81) (.tmp 82), 0, false⟩,⟨some 84, none, .ld1 none (.tmp 83), 0, false⟩,⟨some 85, none, .mv (.tmp 11), 0, false⟩,⟨some 86, none, .ixA 1 (.tmp 84) (.tmp 85), 0, false⟩,⟨some 87, none, .ld1 none (.tmp 86), 0, false⟩,⟨some 88, none, .call 19 [(.tmp 80), (.tmp 87)], 0, true⟩,⟨some 89, none, .not (.tmp 88), 0, false⟩])
 (.cond (.tmp 89)
 (.seq (.regN [] [
 ⟨some 4, none, .mv (.con (.val (.bool false))), 0, false⟩])
 .ret)
 .skip)))
 (.regN [2, 6, 7, 9, 10, 11] [
 ⟨some 75, none, .mv (.tmp 11), 0, false⟩,⟨some 76, none, .bini .add (.tmp 75) (.con (.val (.int .i64 1))), 0, false⟩,⟨some 11, none, .mv (.tmp 76), 0, false⟩])))
def t5L2 : AC := (.seq (.seq (.regN [2, 6, 7, 9, 10] [
 ⟨some 62, none, .mv (.tmp 10), 0, false⟩,⟨some 63, none, .fldA 1 (.tmp 2), 0, false⟩,⟨some 64, none, .ld1 (some 2) (.tmp 63), 0, false⟩,⟨some 65, none, .bini .lss (.tmp 62) (.tmp 64), 0, false⟩])
 (.cond (.tmp 65)
 .skip
 (.exit 0)))
 (.seq (.block 1
 (.seq (.seq (.regN [2, 6, 7, 9, 10] [
 ⟨some 11, none, .mv (.con (.val (.int .i64 0))), 0, false⟩])
 (.block 2
 (.loop [2, 6, 7, 9, 10, 11] t5L1)))
 (.seq (.regD [2, 6, 7, 9, 10] 0 [
 ⟨some 90, none, .mv (.tmp 6), 0, false⟩,⟨some 91, none, .mv (.tmp 10), 0, false⟩,⟨some 92, none, .ixA 1 (.tmp 90) (.tmp 91), 0, false⟩,⟨some 93, none, .ld1 none (.tmp 92), 0, false⟩,⟨some 94, none, .buildS 1 [(.val (.string ⟨#[]⟩))] [(0, 1, (.con (.val (.string ⟨#[]⟩))))], 0, false⟩,⟨some 95, none, .call 15 [(.con (.val (.int .i64 1))), (.tmp 93), (.tmp 94)], 0, false⟩,⟨some 96, none, .mv (.tmp 9), 0, false⟩,⟨some 97, none, .mv (.tmp 10), 0, false⟩,⟨some 98, none, .ixA 1 (.tmp 96) (.tmp 97), 0, false⟩,⟨some 99, none, .ld1 none (.tmp 98), 0, false⟩,⟨some 100, none, .call 21 [(.tmp 95), (.tmp 99)], 0, true⟩,⟨some 101, none, .not (.tmp 100), 0, false⟩])
 (.cond (.tmp 101)
 (.seq (.regN [] [
 ⟨some 4, none, .mv (.con (.val (.bool false))), 0, false⟩])
 .ret)
 .skip))))
 (.regN [2, 6, 7, 9, 10] [
 ⟨some 66, none, .mv (.tmp 10), 0, false⟩,⟨some 67, none, .bini .add (.tmp 66) (.con (.val (.int .i64 1))), 0, false⟩,⟨some 10, none, .mv (.tmp 67), 0, false⟩])))
def t5B : AC := (.seq (.regN [0, 1] [
 ⟨some 2, none, .boxR 4 (.tmp 0), 0, false⟩,⟨some 3, none, .boxR 2 (.tmp 1), 0, false⟩,⟨some 4, none, .mv (.con (.val (.bool false))), 0, false⟩])
 (.seq (.seq (.regN [2, 3] [
 ⟨some 12, none, .call 9 [], 0, false⟩,⟨some 13, none, .not (.tmp 12), 0, false⟩])
 (.cond (.tmp 13)
 (.seq (.regN [] [
 ⟨some 4, none, .mv (.con (.val (.bool false))), 0, false⟩])
 .ret)
 .skip))
 (.seq (.regN [2, 3] [
 ⟨some 14, none, .ldA (some 2) 4 (.tmp 2), 0, false⟩,⟨some 15, none, .call 20 [(.tmp 14)], 0, false⟩,⟨some 5, none, .allocR [(.val (.int .i64 0)), (.val (.int .i64 0)), (.val (.int .i64 0)), .e0], 0, false⟩,⟨none, none, .st (some 5) 4 (.tmp 5) (.tmp 15), 0, false⟩])
 (.seq (.regN [2, 3, 5] [
 ⟨some 16, none, .fldA 3 (.tmp 5), 0, false⟩,⟨some 17, none, .ld1 (some 5) (.tmp 16), 0, false⟩,⟨some 18, none, .ldA (some 3) 2 (.tmp 3), 0, false⟩,⟨some 19, none, .buildS 1 [(.val (.int .i64 0)), .e0] [(0, 2, (.tmp 18))], 0, false⟩,⟨some 20, none, .app 2 32 (.tmp 17) (.tmp 19), 0, false⟩,⟨some 21, none, .fldA 3 (.tmp 5), 0, false⟩,⟨none, none, .st (some 5) 1 (.tmp 21) (.tmp 20), 0, false⟩])
 (.seq .frz
 (.seq (.seq (.regN [2, 5] [
 ⟨some 22, none, .ldA (some 5) 4 (.tmp 5), 0, false⟩,⟨some 23, none, .call 10 [(.tmp 22)], 0, false⟩,⟨some 24, none, .not (.tmp 23), 0, false⟩,⟨some 25, none, .mv (.tmp 24), 0, false⟩,⟨some 26, some (25, false), .ldA (some 2) 4 (.tmp 2), 0, false⟩,⟨some 27, some (25, false), .call 11 [(.tmp 26)], 0, false⟩,⟨some 28, some (25, false), .bini .neq (.tmp 27) (.con (.val (.int .i64 0))), 0, false⟩,⟨some 29, none, .pick (.tmp 25) (.con (.val (.bool true))) (.tmp 28), 0, false⟩,⟨some 30, none, .mv (.tmp 29), 0, false⟩,⟨some 31, some (30, false), .ldA (some 5) 4 (.tmp 5), 0, false⟩,⟨some 32, some (30, false), .call 11 [(.tmp 31)], 0, false⟩,⟨some 33, some (30, false), .bini .neq (.tmp 32) (.con (.val (.int .i64 0))), 0, false⟩,⟨some 34, none, .pick (.tmp 30) (.con (.val (.bool true))) (.tmp 33), 0, false⟩])
 (.cond (.tmp 34)
 (.seq (.regN [] [
 ⟨some 4, none, .mv (.con (.val (.bool true))), 0, false⟩])
 .ret)
 .skip))
 (.seq (.regD [2, 5] 0 [
 ⟨some 35, none, .ldA (some 2) 4 (.tmp 2), 0, false⟩,⟨some 36, none, .call 12 [(.tmp 35)], 0, true⟩,⟨some 37, none, .ldA (some 5) 4 (.tmp 5), 0, false⟩,⟨some 38, none, .call 12 [(.tmp 37)], 0, true⟩,⟨some 6, none, .mv (.tmp 36), 0, false⟩,⟨some 7, none, .mv (.tmp 38), 0, false⟩])
 (.seq (.regN [2, 6, 7] [
 ⟨some 39, none, .ldA (some 2) 4 (.tmp 2), 0, false⟩,⟨some 8, none, .allocR [(.val (.int .i64 0)), (.val (.int .i64 0)), (.val (.int .i64 0)), .e0], 0, false⟩,⟨none, none, .st (some 8) 4 (.tmp 8) (.tmp 39), 0, false⟩])
 (.seq (.regN [2, 6, 7, 8] [
 ⟨some 40, none, .fldA 2 (.tmp 8), 0, false⟩,⟨none, none, .st (some 8) 1 (.tmp 40) (.con (.val (.int .i64 1))), 0, false⟩])
 (.seq (.regN [2, 6, 7, 8] [
 ⟨some 41, none, .ldA (some 8) 4 (.tmp 8), 0, false⟩,⟨some 42, none, .call 12 [(.tmp 41)], 0, false⟩,⟨some 9, none, .mv (.tmp 42), 0, false⟩])
 (.seq (.seq (.regN [2, 6, 7, 9] [
 ⟨some 43, none, .mv (.tmp 6), 0, false⟩,⟨some 44, none, .len false (.tmp 43), 0, false⟩,⟨some 45, none, .fldA 1 (.tmp 2), 0, false⟩,⟨some 46, none, .ld1 (some 2) (.tmp 45), 0, false⟩,⟨some 47, none, .bini .neq (.tmp 44) (.tmp 46), 0, false⟩,⟨some 48, none, .mv (.tmp 47), 0, false⟩,⟨some 49, some (48, false), .mv (.tmp 7), 0, false⟩,⟨some 50, some (48, false), .len false (.tmp 49), 0, false⟩,⟨some 51, some (48, false), .fldA 1 (.tmp 2), 0, false⟩,⟨some 52, some (48, false), .ld1 (some 2) (.tmp 51), 0, false⟩,⟨some 53, some (48, false), .bini .neq (.tmp 50) (.tmp 52), 0, false⟩,⟨some 54, none, .pick (.tmp 48) (.con (.val (.bool true))) (.tmp 53), 0, false⟩,⟨some 55, none, .mv (.tmp 54), 0, false⟩,⟨some 56, some (55, false), .mv (.tmp 9), 0, false⟩,⟨some 57, some (55, false), .len false (.tmp 56), 0, false⟩,⟨some 58, some (55, false), .fldA 1 (.tmp 2), 0, false⟩,⟨some 59, some (55, false), .ld1 (some 2) (.tmp 58), 0, false⟩,⟨some 60, some (55, false), .bini .neq (.tmp 57) (.tmp 59), 0, false⟩,⟨some 61, none, .pick (.tmp 55) (.con (.val (.bool true))) (.tmp 60), 0, false⟩])
 (.cond (.tmp 61)
 (.seq (.regN [] [
 ⟨some 4, none, .mv (.con (.val (.bool false))), 0, false⟩])
 .ret)
 .skip))
 (.seq (.seq (.regN [2, 6, 7, 9] [
 ⟨some 10, none, .mv (.con (.val (.int .i64 0))), 0, false⟩])
 (.block 0
 (.loop [2, 6, 7, 9, 10] t5L2)))
 (.seq (.regN [] [
 ⟨some 4, none, .mv (.con (.val (.bool true))), 0, false⟩])
 .ret)))))))))))))
def t5 : AFn := ⟨2, t5B,
 [.tmp 4], true⟩
def t20L1 : AC := (.seq (.seq (.regN [1, 2, 3] [
 ⟨some 8, none, .mv (.tmp 3), 0, false⟩,⟨some 9, none, .fldA 3 (.tmp 1), 0, false⟩,⟨some 10, none, .ld1 (some 1) (.tmp 9), 0, false⟩,⟨some 11, none, .len false (.tmp 10), 0, false⟩,⟨some 12, none, .bini .lss (.tmp 8) (.tmp 11), 0, false⟩])
 (.cond (.tmp 12)
 .skip
 (.exit 0)))
 (.seq (.block 1
 (.regD [1, 2, 3] 0 [
 ⟨some 15, none, .fldA 3 (.tmp 1), 0, false⟩,⟨some 16, none, .ld1 (some 1) (.tmp 15), 0, false⟩,⟨some 17, none, .mv (.tmp 3), 0, false⟩,⟨some 18, none, .fldA 3 (.tmp 1), 0, false⟩,⟨some 19, none, .ld1 (some 1) (.tmp 18), 0, false⟩,⟨some 20, none, .mv (.tmp 3), 0, false⟩,⟨some 21, none, .ixA 2 (.tmp 19) (.tmp 20), 0, false⟩,⟨some 22, none, .fldA 1 (.tmp 21), 0, false⟩,⟨some 23, none, .ld1 none (.tmp 22), 0, false⟩,⟨some 24, none, .call 44 [(.tmp 23)], 0, true⟩,⟨some 25, none, .ixA 2 (.tmp 16) (.tmp 17), 0, false⟩,⟨some 26, none, .fldA 1 (.tmp 25), 0, false⟩,⟨none, none, .st none 1 (.tmp 26) (.tmp 24), 0, false⟩]))
 (.regN [1, 2, 3] [
 ⟨some 13, none, .mv (.tmp 3), 0, false⟩,⟨some 14, none, .bini .add (.tmp 13) (.con (.val (.int .i64 1))), 0, false⟩,⟨some 3, none, .mv (.tmp 14), 0, false⟩])))
def t20B : AC := (.seq (.regN [0] [
 ⟨some 1, none, .boxR 4 (.tmp 0), 0, false⟩,⟨some 2, none, .allocR [(.val (.int .i64 0)), (.val (.int .i64 0)), (.val (.int .i64 0)), .e0], 0, false⟩])
 (.seq (.regN [1, 2] [
 ⟨some 4, none, .fldA 3 (.tmp 1), 0, false⟩,⟨some 5, none, .ld1 (some 1) (.tmp 4), 0, false⟩,⟨some 6, none, .call 43 [(.tmp 5)], 0, false⟩,⟨some 7, none, .fldA 3 (.tmp 1), 0, false⟩,⟨none, none, .st (some 1) 1 (.tmp 7) (.tmp 6), 0, false⟩])
 (.seq (.seq (.regN [1, 2] [
 ⟨some 3, none, .mv (.con (.val (.int .i64 0))), 0, false⟩])
 (.block 0
 (.loop [1, 2, 3] t20L1)))
 (.seq (.regN [1, 2] [
 ⟨some 27, none, .ldA (some 1) 4 (.tmp 1), 0, false⟩,⟨none, none, .st (some 2) 4 (.tmp 2) (.tmp 27), 0, false⟩])
 .ret))))
def t20 : AFn := ⟨1, t20B,
 [.cell 2 4 true], false⟩
def t43B : AC := (.seq (.regN [0] [
 ⟨some 2, none, .mv (.con .e0), 0, false⟩])
 (.seq (.regN [0] [
 ⟨some 3, none, .buildS 0 [] [], 0, false⟩,⟨some 4, none, .mv (.tmp 0), 0, false⟩,⟨some 5, none, .app 2 32 (.tmp 3) (.tmp 4), 0, false⟩,⟨some 2, none, .mv (.tmp 5), 0, false⟩])
 .ret))
def t43 : AFn := ⟨1, t43B,
 [.tmp 2], false⟩
def t44B : AC := (.seq (.regN [0] [
 ⟨some 2, none, .mv (.con .e0), 0, false⟩])
 (.seq (.regN [0] [
 ⟨some 3, none, .buildS 0 [] [], 0, false⟩,⟨some 4, none, .mv (.tmp 0), 0, false⟩,⟨some 5, none, .app 1 8 (.tmp 3) (.tmp 4), 0, false⟩,⟨some 2, none, .mv (.tmp 5), 0, false⟩])
 .ret))
def t44 : AFn := ⟨1, t44B,
 [.tmp 2], true⟩
def t6B : AC := (.seq (.regN [] [
 kx 0 (.mv (.con (.val (.bool false))))])
 (.seq (.seq (.regN [] [
 kx 3 (.call 9 []),kx 4 (.not (ux 3))])
 (.cond (ux 4)
 (.seq (.regN [] [
 kx 0 (.mv (.con (.val (.bool false))))])
 .ret)
 .skip))
 (.seq (.regN [] [
 kx 5 (.call 22 []),kx 1 (.allocR [(.val (.int .i64 0)), (.val (.int .i64 0)), (.val (.int .i64 0)), .e0]),⟨none, none, .st (some 1) 4 (ux 1) (ux 5), 0, false⟩])
 (.seq (.regN [1] [
 kx 6 (.fldA 2 (ux 1)),⟨none, none, .st (some 1) 1 (ux 6) (.con (.val (.int .i64 2))), 0, false⟩])
 (.seq (.regN [1] [
 kx 7 (.buildS 3 [(.val (.int .i64 0)), (.val (.int .i64 0)), (.val (.int .i64 0))] [(0, 1, (.con (.val (.int .i64 0)))), (1, 1, (.con (.val (.int .i64 1)))), (2, 1, (.con (.val (.int .i64 0))))]),kx 8 (.build [(.val (.int .i64 0)), .e0] [(0, 1, (.con (.val (.int .i64 0)))), (1, 1, (ux 7))]),kx 9 (.build [(.val (.int .i64 0)), .e0] [(0, 1, (.con (.val (.int .i64 0))))]),kx 10 (.buildS 2 [(.val (.int .i64 0)), .e0, (.val (.int .i64 0)), .e0] [(0, 2, (ux 8)), (2, 2, (ux 9))]),kx 11 (.build [(.val (.int .i64 0)), (.val (.int .i64 0)), (.val (.int .i64 0)), .e0] [(0, 1, (.con (.val (.int .i64 1)))), (1, 1, (.con (.val (.int .i64 1)))), (2, 1, (.con (.val (.int .i64 2)))), (3, 1, (ux 10))]),kx 2 (.allocR [(.val (.int .i64 0)), (.val (.int .i64 0)), (.val (.int .i64 0)), .e0]),⟨none, none, .st (some 2) 4 (ux 2) (ux 11), 0, false⟩])
 (.seq (.regN [1, 2] [
 kx 12 (.ldA (some 1) 4 (ux 1)),kx 13 (.call 12 [(ux 12)]),kx 14 (.buildS 1 [(.val (.string ⟨#[]⟩))] [(0, 1, (.con (.val (.string ⟨#[255]⟩))))]),kx 15 (.buildS 1 [(.val (.string ⟨#[]⟩))] [(0, 1, (.con (.val (.string ⟨#[0, 255]⟩))))]),kx 16 (.buildS 2 [.e0, .e0] [(0, 1, (ux 14)), (1, 1, (ux 15))]),kx 17 (.call 17 [(ux 13), (ux 16)]),kx 18 (.mv (ux 17)),⟨some 19, some (18, true), .ldA (some 2) 4 (ux 2), 0, false⟩,⟨some 20, some (18, true), .call 12 [(ux 19)], 0, false⟩,⟨some 21, some (18, true), .buildS 3 [(.val (.string ⟨#[]⟩)), (.val (.string ⟨#[]⟩)), (.val (.string ⟨#[]⟩))] [(0, 1, (.con (.val (.string ⟨#[0, 0]⟩)))), (1, 1, (.con (.val (.string ⟨#[0, 255]⟩)))), (2, 1, (.con (.val (.string ⟨#[255]⟩))))], 0, false⟩,⟨some 22, some (18, true), .buildS 1 [.e0] [(0, 1, (ux 21))], 0, false⟩,⟨some 23, some (18, true), .call 17 [(ux 20), (ux 22)], 0, false⟩,kx 24 (.pick (ux 18) (ux 23) (.con (.val (.bool false)))),kx 25 (.mv (ux 24)),⟨some 26, some (25, true), .ldA (some 1) 4 (ux 1), 0, false⟩,⟨some 27, some (25, true), .call 23 [(ux 26), (.con (.val (.int .i64 0)))], 0, false⟩,kx 28 (.pick (ux 25) (ux 27) (.con (.val (.bool false)))),kx 29 (.mv (ux 28)),⟨some 30, some (29, true), .ldA (some 1) 4 (ux 1), 0, false⟩,⟨some 31, some (29, true), .call 23 [(ux 30), (.con (.val (.int .i64 1)))], 0, false⟩,⟨some 32, some (29, true), .not (ux 31), 0, false⟩,kx 33 (.pick (ux 29) (ux 32) (.con (.val (.bool false)))),kx 34 (.mv (ux 33)),⟨some 35, some (34, true), .ldA (some 1) 4 (ux 1), 0, false⟩,⟨some 36, some (34, true), .call 23 [(ux 35), (.con (.val (.int .i64 2)))], 0, false⟩,⟨some 37, some (34, true), .not (ux 36), 0, false⟩,kx 38 (.pick (ux 34) (ux 37) (.con (.val (.bool false)))),kx 39 (.mv (ux 38)),⟨some 40, some (39, true), .ldA (some 1) 4 (ux 1), 0, false⟩,⟨some 41, some (39, true), .call 23 [(ux 40), (.con (.val (.int .i64 (-1))))], 0, false⟩,⟨some 42, some (39, true), .not (ux 41), 0, false⟩,kx 43 (.pick (ux 39) (ux 42) (.con (.val (.bool false)))),kx 44 (.mv (ux 43)),⟨some 45, some (44, true), .call 22 [], 0, false⟩,⟨some 46, some (44, true), .call 25 [(ux 45)], 0, false⟩,⟨some 47, some (44, true), .buildS 3 [(.val (.bool false)), (.val (.bool false)), (.val (.bool false))] [(0, 1, (.con (.val (.bool false)))), (1, 1, (.con (.val (.bool false)))), (2, 1, (.con (.val (.bool true))))], 0, false⟩,⟨some 48, some (44, true), .buildS 3 [(.val (.bool false)), (.val (.bool false)), (.val (.bool false))] [(0, 1, (.con (.val (.bool true)))), (1, 1, (.con (.val (.bool false)))), (2, 1, (.con (.val (.bool false))))], 0, false⟩,⟨some 49, some (44, true), .buildS 2 [.e0, .e0] [(0, 1, (ux 47)), (1, 1, (ux 48))], 0, false⟩,⟨some 50, some (44, true), .call 24 [(ux 46), (ux 49)], 0, false⟩,kx 51 (.pick (ux 44) (ux 50) (.con (.val (.bool false)))),kx 52 (.mv (ux 51)),⟨some 53, some (52, true), .build [(.val (.int .i64 0)), (.val (.int .i64 0)), (.val (.int .i64 0)), .e0] [], 0, false⟩,⟨some 54, some (52, true), .call 12 [(ux 53)], 0, false⟩,⟨some 55, some (52, true), .len false (ux 54), 0, false⟩,⟨some 56, some (52, true), .bini .eql (ux 55) (.con (.val (.int .i64 0))), 0, false⟩,kx 57 (.pick (ux 52) (ux 56) (.con (.val (.bool false)))),kx 58 (.mv (ux 57)),⟨some 59, some (58, true), .build [(.val (.int .i64 0)), (.val (.int .i64 0)), (.val (.int .i64 0)), .e0] [], 0, false⟩,⟨some 60, some (58, true), .call 25 [(ux 59)], 0, false⟩,⟨some 61, some (58, true), .len false (ux 60), 0, false⟩,⟨some 62, some (58, true), .bini .eql (ux 61) (.con (.val (.int .i64 0))), 0, false⟩,kx 63 (.pick (ux 58) (ux 62) (.con (.val (.bool false)))),kx 0 (.mv (ux 63))])
 .ret))))))
def t6 : AFn := ⟨0, t6B,
 [.tmp 0], true⟩
def t23B : AC := (.seq (.regN [0, 1] [
 ⟨some 2, none, .boxR 4 (.tmp 0), 0, false⟩,⟨some 4, none, .mv (.con (.val (.bool false))), 0, false⟩])
 (.seq (.regN [1, 2] [
 ⟨some 6, none, .ldA (some 2) 4 (.tmp 2), 0, false⟩,⟨some 7, none, .call 12 [(.tmp 6)], 0, false⟩,⟨some 5, none, .mv (.tmp 7), 0, false⟩])
 (.seq (.regN [1, 5] [
 ⟨some 8, none, .mv (.tmp 1), 0, false⟩,⟨some 9, none, .bini .geq (.tmp 8) (.con (.val (.int .i64 0))), 0, false⟩,⟨some 10, none, .mv (.tmp 9), 0, false⟩,⟨some 11, some (10, true), .mv (.tmp 1), 0, false⟩,⟨some 12, some (10, true), .mv (.tmp 5), 0, false⟩,⟨some 13, some (10, true), .len false (.tmp 12), 0, false⟩,⟨some 14, some (10, true), .bini .lss (.tmp 11) (.tmp 13), 0, false⟩,⟨some 15, none, .pick (.tmp 10) (.tmp 14) (.con (.val (.bool false))), 0, false⟩,⟨some 16, none, .mv (.tmp 15), 0, false⟩,⟨some 17, some (16, true), .mv (.tmp 5), 0, false⟩,⟨some 18, some (16, true), .mv (.tmp 1), 0, false⟩,⟨some 19, some (16, true), .ixA 1 (.tmp 17) (.tmp 18), 0, false⟩,⟨some 20, some (16, true), .ld1 none (.tmp 19), 0, false⟩,⟨some 21, some (16, true), .call 45 [(.tmp 20), (.con (.val (.string ⟨#[255]⟩)))], 0, false⟩,⟨some 22, none, .pick (.tmp 16) (.tmp 21) (.con (.val (.bool false))), 0, false⟩,⟨some 4, none, .mv (.tmp 22), 0, false⟩])
 .ret)))
def t23 : AFn := ⟨2, t23B,
 [.tmp 4], true⟩
def t45B : AC := (.seq (.regN [0, 1] [
 ⟨some 4, none, .mv (.con (.val (.bool false))), 0, false⟩])
 (.seq (.regN [0, 1] [
 ⟨some 5, none, .mv (.tmp 0), 0, false⟩,⟨some 6, none, .mv (.tmp 1), 0, false⟩,⟨some 7, none, .call 60 [(.tmp 5), (.tmp 6)], 0, false⟩,⟨some 4, none, .mv (.tmp 7), 0, false⟩])
 .ret))
def t45 : AFn := ⟨2, t45B,
 [.tmp 4], true⟩
def t60B : AC := (.seq (.regN [0, 1] [
 ⟨some 4, none, .mv (.con (.val (.bool false))), 0, false⟩])
 (.seq (.regN [0, 1] [
 ⟨some 5, none, .mv (.tmp 0), 0, false⟩,⟨some 6, none, .mv (.tmp 1), 0, false⟩,⟨some 7, none, .call 68 [(.tmp 5), (.tmp 6)], 0, false⟩,⟨some 8, none, .bini .geq (.tmp 7) (.con (.val (.int .i64 0))), 0, false⟩,⟨some 4, none, .mv (.tmp 8), 0, false⟩])
 .ret))
def t60 : AFn := ⟨2, t60B,
 [.tmp 4], true⟩
def t68L1 : AC := (.seq (.regN [0, 1, 7, 8] [
 ⟨some 9, none, .bini .lss (.tmp 8) (.tmp 7), 0, false⟩])
 (.seq (.cond (.tmp 9)
 .skip
 (.exit 0))
 (.seq (.block 1
 (.seq (.regN [0, 1, 7, 8] [
 ⟨some 10, none, .mv (.tmp 8), 0, false⟩,⟨some 5, none, .mv (.tmp 10), 0, false⟩])
 (.seq (.regN [0, 1, 5, 7, 8] [
 ⟨some 11, none, .mv (.tmp 1), 0, false⟩,⟨some 12, none, .mv (.tmp 0), 0, false⟩,⟨some 13, none, .mv (.tmp 5), 0, false⟩,⟨some 14, none, .ixA 1 (.tmp 12) (.tmp 13), 0, false⟩,⟨some 15, none, .ld1 none (.tmp 14), 0, false⟩,⟨some 16, none, .bins .eql (.tmp 11) (.tmp 15), 0, false⟩])
 (.cond (.tmp 16)
 (.seq (.regN [5] [
 ⟨some 17, none, .mv (.tmp 5), 0, false⟩,⟨some 4, none, .mv (.tmp 17), 0, false⟩])
 .ret)
 .skip))))
 (.regN [0, 1, 7, 8] [
 ⟨some 18, none, .bini .add (.tmp 8) (.con (.val (.int .i64 1))), 0, false⟩,⟨some 8, none, .mv (.tmp 18), 0, false⟩]))))
def t68B : AC := (.seq (.regN [0, 1] [
 ⟨some 4, none, .mv (.con (.val (.int .i64 0))), 0, false⟩])
 (.seq (.seq (.regN [0, 1] [
 ⟨some 6, none, .mv (.tmp 0), 0, false⟩,⟨some 7, none, .len false (.tmp 6), 0, false⟩,⟨some 8, none, .mv (.con (.val (.int .i64 0))), 0, false⟩])
 (.block 0
 (.loop [0, 1, 7, 8] t68L1)))
 (.seq (.regN [] [
 ⟨some 4, none, .mv (.con (.val (.int .i64 (-1)))), 0, false⟩])
 .ret)))
def t68 : AFn := ⟨2, t68B,
 [.tmp 4], true⟩
def t25L1 : AC := (.seq (.regN [1, 3, 6, 10, 11, 12, 20, 21, 22] [
 ⟨some 23, none, .bini .lss (.tmp 22) (.tmp 21), 0, false⟩])
 (.seq (.cond (.tmp 23)
 .skip
 (.exit 2))
 (.seq (.block 3
 (.seq (.regN [1, 3, 6, 10, 11, 12, 20, 21, 22] [
 ⟨some 24, none, .ixA 1 (.tmp 20) (.tmp 22), 0, false⟩,⟨some 25, none, .ld1 none (.tmp 24), 0, false⟩,⟨some 8, none, .mv (.tmp 25), 0, false⟩])
 (.seq (.regN [1, 3, 6, 8, 10, 11, 12, 20, 21, 22] [
 ⟨some 26, none, .mv (.tmp 8), 0, false⟩,⟨some 27, none, .bins .neq (.tmp 26) (.con (.val (.string ⟨#[]⟩))), 0, false⟩])
 (.cond (.tmp 27)
 (.regD [1, 3, 6, 8, 10, 11, 12, 20, 21, 22] 0 [
 ⟨some 28, none, .mv (.tmp 6), 0, false⟩,⟨some 29, none, .mv (.tmp 8), 0, false⟩,⟨some 30, none, .ixS (.tmp 29) (.con (.val (.int .i64 0))), 0, false⟩,⟨some 31, none, .cvi .i64 (.tmp 30), 0, false⟩,⟨some 32, none, .fldA 0 (.tmp 1), 0, false⟩,⟨some 33, none, .ld1 (some 1) (.tmp 32), 0, false⟩,⟨some 34, none, .mm false [(.tmp 31), (.tmp 33)], 0, false⟩,⟨some 35, none, .ixA 1 (.tmp 28) (.tmp 34), 0, false⟩,⟨none, none, .st none 1 (.tmp 35) (.con (.val (.bool true))), 0, false⟩])
 .skip))))
 (.regN [1, 3, 6, 10, 11, 12, 20, 21, 22] [
 ⟨some 36, none, .bini .add (.tmp 22) (.con (.val (.int .i64 1))), 0, false⟩,⟨some 22, none, .mv (.tmp 36), 0, false⟩]))))
def t25L2 : AC := (.seq (.regN [1, 3, 10, 11, 12] [
 ⟨some 13, none, .bini .lss (.tmp 12) (.tmp 11), 0, false⟩])
 (.seq (.cond (.tmp 13)
 .skip
 (.exit 0))
 (.seq (.block 1
 (.seq (.regN [1, 3, 10, 11, 12] [
 ⟨some 14, none, .ixA 1 (.tmp 10) (.tmp 12), 0, false⟩,⟨some 15, none, .ld1 none (.tmp 14), 0, false⟩,⟨some 5, none, .mv (.tmp 15), 0, false⟩])
 (.seq (.regN [1, 3, 5, 10, 11, 12] [
 ⟨some 16, none, .fldA 0 (.tmp 1), 0, false⟩,⟨some 17, none, .ld1 (some 1) (.tmp 16), 0, false⟩,⟨some 18, none, .bini .add (.tmp 17) (.con (.val (.int .i64 1))), 0, false⟩,⟨some 19, none, .mks 1 1 [(.val (.bool false))] (.tmp 18), 0, false⟩,⟨some 6, none, .mv (.tmp 19), 0, false⟩])
 (.seq (.seq (.regN [1, 3, 5, 6, 10, 11, 12] [
 ⟨some 20, none, .mv (.tmp 5), 0, false⟩,⟨some 21, none, .len false (.tmp 20), 0, false⟩,⟨some 22, none, .mv (.con (.val (.int .i64 0))), 0, false⟩])
 (.block 2
 (.loop [1, 3, 6, 10, 11, 12, 20, 21, 22] t25L1)))
 (.regN [1, 3, 6, 10, 11, 12] [
 ⟨some 37, none, .mv (.tmp 3), 0, false⟩,⟨some 38, none, .mv (.tmp 6), 0, false⟩,⟨some 39, none, .buildH 1 1 [.e0] [(0, 1, (.tmp 38))], 0, false⟩,⟨some 40, none, .app 1 24 (.tmp 37) (.tmp 39), 0, false⟩,⟨some 3, none, .mv (.tmp 40), 0, false⟩])))))
 (.regN [1, 3, 10, 11, 12] [
 ⟨some 41, none, .bini .add (.tmp 12) (.con (.val (.int .i64 1))), 0, false⟩,⟨some 12, none, .mv (.tmp 41), 0, false⟩]))))
def t25B : AC := (.seq (.regN [0] [
 ⟨some 1, none, .boxR 4 (.tmp 0), 0, false⟩,⟨some 2, none, .mv (.con .e0), 0, false⟩])
 (.seq (.regN [1] [
 ⟨some 3, none, .mv (.con .e0), 0, false⟩])
 (.seq (.seq (.regN [1, 3] [
 ⟨some 9, none, .ldA (some 1) 4 (.tmp 1), 0, false⟩,⟨some 10, none, .call 12 [(.tmp 9)], 0, false⟩,⟨some 11, none, .len false (.tmp 10), 0, false⟩,⟨some 12, none, .mv (.con (.val (.int .i64 0))), 0, false⟩])
 (.block 0
 (.loop [1, 3, 10, 11, 12] t25L2)))
 (.seq (.regN [3] [
 ⟨some 42, none, .mv (.tmp 3), 0, false⟩,⟨some 2, none, .mv (.tmp 42), 0, false⟩])
 .ret))))
def t25 : AFn := ⟨1, t25B,
 [.tmp 2], true⟩
def t24L1 : AC := (.seq (.seq (.regN [0, 1, 5] [
 ⟨some 11, none, .mv (.tmp 5), 0, false⟩,⟨some 12, none, .mv (.tmp 0), 0, false⟩,⟨some 13, none, .len false (.tmp 12), 0, false⟩,⟨some 14, none, .bini .lss (.tmp 11) (.tmp 13), 0, false⟩])
 (.cond (.tmp 14)
 .skip
 (.exit 0)))
 (.seq (.block 1
 (.seq (.regD [0, 1, 5] 0 [
 ⟨some 17, none, .mv (.tmp 0), 0, false⟩,⟨some 18, none, .mv (.tmp 5), 0, false⟩,⟨some 19, none, .ixA 1 (.tmp 17) (.tmp 18), 0, false⟩,⟨some 20, none, .ld1 none (.tmp 19), 0, false⟩,⟨some 21, none, .mv (.tmp 1), 0, false⟩,⟨some 22, none, .mv (.tmp 5), 0, false⟩,⟨some 23, none, .ixA 1 (.tmp 21) (.tmp 22), 0, false⟩,⟨some 24, none, .ld1 none (.tmp 23), 0, false⟩,⟨some 25, none, .call 29 [(.tmp 20), (.tmp 24)], 0, true⟩,⟨some 26, none, .not (.tmp 25), 0, false⟩])
 (.cond (.tmp 26)
 (.seq (.regN [] [
 ⟨some 4, none, .mv (.con (.val (.bool false))), 0, false⟩])
 .ret)
 .skip)))
 (.regN [0, 1, 5] [
 ⟨some 15, none, .mv (.tmp 5), 0, false⟩,⟨some 16, none, .bini .add (.tmp 15) (.con (.val (.int .i64 1))), 0, false⟩,⟨some 5, none, .mv (.tmp 16), 0, false⟩])))
def t24B : AC := (.seq (.regN [0, 1] [
 ⟨some 4, none, .mv (.con (.val (.bool false))), 0, false⟩])
 (.seq (.seq (.regN [0, 1] [
 ⟨some 6, none, .mv (.tmp 0), 0, false⟩,⟨some 7, none, .len false (.tmp 6), 0, false⟩,⟨some 8, none, .mv (.tmp 1), 0, false⟩,⟨some 9, none, .len false (.tmp 8), 0, false⟩,⟨some 10, none, .bini .neq (.tmp 7) (.tmp 9), 0, false⟩])
 (.cond (.tmp 10)
 (.seq (.regN [] [
 ⟨some 4, none, .mv (.con (.val (.bool false))), 0, false⟩])
 .ret)
 .skip))
 (.seq (.seq (.regN [0, 1] [
 ⟨some 5, none, .mv (.con (.val (.int .i64 0))), 0, false⟩])
 (.block 0
 (.loop [0, 1, 5] t24L1)))
 (.seq (.regN [] [
 ⟨some 4, none, .mv (.con (.val (.bool true))), 0, false⟩])
 .ret))))
def t24 : AFn := ⟨2, t24B,
 [.tmp 4], true⟩
def t29L1 : AC := (.seq (.seq (.regN [0, 1, 5] [
 ⟨some 11, none, .mv (.tmp 5), 0, false⟩,⟨some 12, none, .mv (.tmp 0), 0, false⟩,⟨some 13, none, .len false (.tmp 12), 0, false⟩,⟨some 14, none, .bini .lss (.tmp 11) (.tmp 13), 0, false⟩])
 (.cond (.tmp 14)
 .skip
 (.exit 0)))
 (.seq (.block 1
 (.seq (.regD [0, 1, 5] 0 [
 ⟨some 17, none, .mv (.tmp 0), 0, false⟩,⟨some 18, none, .mv (.tmp 5), 0, false⟩,⟨some 19, none, .ixA 1 (.tmp 17) (.tmp 18), 0, false⟩,⟨some 20, none, .ld1 none (.tmp 19), 0, false⟩,⟨some 21, none, .mv (.tmp 1), 0, false⟩,⟨some 22, none, .mv (.tmp 5), 0, false⟩,⟨some 23, none, .ixA 1 (.tmp 21) (.tmp 22), 0, false⟩,⟨some 24, none, .ld1 none (.tmp 23), 0, false⟩,⟨some 25, none, .eqb true (.tmp 20) (.tmp 24), 0, false⟩])
 (.cond (.tmp 25)
 (.seq (.regN [] [
 ⟨some 4, none, .mv (.con (.val (.bool false))), 0, false⟩])
 .ret)
 .skip)))
 (.regN [0, 1, 5] [
 ⟨some 15, none, .mv (.tmp 5), 0, false⟩,⟨some 16, none, .bini .add (.tmp 15) (.con (.val (.int .i64 1))), 0, false⟩,⟨some 5, none, .mv (.tmp 16), 0, false⟩])))
def t29B : AC := (.seq (.regN [0, 1] [
 ⟨some 4, none, .mv (.con (.val (.bool false))), 0, false⟩])
 (.seq (.seq (.regN [0, 1] [
 ⟨some 6, none, .mv (.tmp 0), 0, false⟩,⟨some 7, none, .len false (.tmp 6), 0, false⟩,⟨some 8, none, .mv (.tmp 1), 0, false⟩,⟨some 9, none, .len false (.tmp 8), 0, false⟩,⟨some 10, none, .bini .neq (.tmp 7) (.tmp 9), 0, false⟩])
 (.cond (.tmp 10)
 (.seq (.regN [] [
 ⟨some 4, none, .mv (.con (.val (.bool false))), 0, false⟩])
 .ret)
 .skip))
 (.seq (.seq (.regN [0, 1] [
 ⟨some 5, none, .mv (.con (.val (.int .i64 0))), 0, false⟩])
 (.block 0
 (.loop [0, 1, 5] t29L1)))
 (.seq (.regN [] [
 ⟨some 4, none, .mv (.con (.val (.bool true))), 0, false⟩])
 .ret))))
def t29 : AFn := ⟨2, t29B,
 [.tmp 4], true⟩
def t7B : AC := (.seq (.regN [0, 1] [
 ⟨some 2, none, .boxR 4 (.tmp 0), 0, false⟩,⟨some 4, none, .mv (.con (.val (.bool false))), 0, false⟩])
 (.seq (.seq (.regN [1, 2] [
 ⟨some 5, none, .call 9 [], 0, false⟩,⟨some 6, none, .not (.tmp 5), 0, false⟩])
 (.cond (.tmp 6)
 (.seq (.regN [] [
 ⟨some 4, none, .mv (.con (.val (.bool false))), 0, false⟩])
 .ret)
 .skip))
 (.seq (.seq (.regN [1, 2] [
 ⟨some 7, none, .ldA (some 2) 4 (.tmp 2), 0, false⟩,⟨some 8, none, .call 10 [(.tmp 7)], 0, false⟩,⟨some 9, none, .not (.tmp 8), 0, false⟩])
 (.cond (.tmp 9)
 (.seq (.regN [] [
 ⟨some 4, none, .mv (.con (.val (.bool true))), 0, false⟩])
 .ret)
 .skip))
 (.seq (.regD [1, 2] 0 [
 ⟨some 10, none, .ldA (some 2) 4 (.tmp 2), 0, false⟩,⟨some 11, none, .call 12 [(.tmp 10)], 0, true⟩,⟨some 12, none, .ldA (some 2) 4 (.tmp 2), 0, false⟩,⟨some 13, none, .call 26 [(.tmp 12)], 0, true⟩,⟨some 14, none, .call 17 [(.tmp 11), (.tmp 13)], 0, true⟩,⟨some 15, none, .mv (.tmp 14), 0, false⟩,⟨some 16, some (15, true), .ldA (some 2) 4 (.tmp 2), 0, false⟩,⟨some 17, some (15, true), .mv (.tmp 1), 0, false⟩,⟨some 18, some (15, true), .call 23 [(.tmp 16), (.tmp 17)], 0, true⟩,⟨some 19, some (15, true), .ldA (some 2) 4 (.tmp 2), 0, false⟩,⟨some 20, some (15, true), .mv (.tmp 1), 0, false⟩,⟨some 21, some (15, true), .call 27 [(.tmp 19), (.tmp 20)], 0, true⟩,⟨some 22, some (15, true), .eqb false (.tmp 18) (.tmp 21), 0, false⟩,⟨some 23, none, .pick (.tmp 15) (.tmp 22) (.con (.val (.bool false))), 0, false⟩,⟨some 24, none, .mv (.tmp 23), 0, false⟩,⟨some 25, some (24, true), .ldA (some 2) 4 (.tmp 2), 0, false⟩,⟨some 26, some (24, true), .call 25 [(.tmp 25)], 0, true⟩,⟨some 27, some (24, true), .ldA (some 2) 4 (.tmp 2), 0, false⟩,⟨some 28, some (24, true), .call 28 [(.tmp 27)], 0, true⟩,⟨some 29, some (24, true), .call 24 [(.tmp 26), (.tmp 28)], 0, true⟩,⟨some 30, none, .pick (.tmp 24) (.tmp 29) (.con (.val (.bool false))), 0, false⟩,⟨some 4, none, .mv (.tmp 30), 0, false⟩])
 .ret))))
def t7 : AFn := ⟨2, t7B,
 [.tmp 4], true⟩
def t26L1 : AC := (.seq (.seq (.regN [1, 3, 4, 5, 6, 7, 8] [
 ⟨some 38, none, .mv (.tmp 8), 0, false⟩,⟨some 39, none, .fldA 1 (.tmp 7), 0, false⟩,⟨some 40, none, .ld1 (some 7) (.tmp 39), 0, false⟩,⟨some 41, none, .len false (.tmp 40), 0, false⟩,⟨some 42, none, .bini .lss (.tmp 38) (.tmp 41), 0, false⟩])
 (.cond (.tmp 42)
 .skip
 (.exit 4)))
 (.seq (.block 5
 (.seq (.regD [1, 3, 4, 5, 6, 7, 8] 0 [
 ⟨some 45, none, .fldA 1 (.tmp 7), 0, false⟩,⟨some 46, none, .ld1 (some 7) (.tmp 45), 0, false⟩,⟨some 47, none, .mv (.tmp 8), 0, false⟩,⟨some 48, none, .ixA 1 (.tmp 46) (.tmp 47), 0, false⟩,⟨some 49, none, .ld1 none (.tmp 48), 0, false⟩,⟨some 50, none, .fldA 0 (.tmp 1), 0, false⟩,⟨some 51, none, .ld1 (some 1) (.tmp 50), 0, false⟩,⟨some 52, none, .bini .sub (.tmp 49) (.tmp 51), 0, false⟩,⟨some 9, none, .mv (.tmp 52), 0, false⟩])
 (.seq (.seq (.regN [1, 3, 4, 5, 6, 7, 8, 9] [
 ⟨some 53, none, .mv (.tmp 9), 0, false⟩,⟨some 54, none, .bini .lss (.tmp 53) (.con (.val (.int .i64 0))), 0, false⟩])
 (.cond (.tmp 54)
 (.exit 5)
 .skip))
 (.seq (.regD [1, 3, 4, 5, 6, 7, 8, 9] 0 [
 ⟨some 55, none, .ldA (some 1) 4 (.tmp 1), 0, false⟩,⟨some 56, none, .mv (.tmp 3), 0, false⟩,⟨some 57, none, .fldA 1 (.tmp 7), 0, false⟩,⟨some 58, none, .ld1 (some 7) (.tmp 57), 0, false⟩,⟨some 59, none, .mv (.tmp 8), 0, false⟩,⟨some 60, none, .bini .add (.tmp 59) (.con (.val (.int .i64 1))), 0, false⟩,⟨some 61, none, .slC 1 (.tmp 58) (some (.tmp 60)) none, 0, false⟩,⟨some 62, none, .call 16 [(.tmp 55), (.tmp 56), (.tmp 61)], 0, true⟩,⟨some 10, none, .mv (.tmp 62), 0, false⟩])
 (.seq (.regD [1, 3, 4, 5, 6, 7, 8, 9, 10] 0 [
 ⟨some 63, none, .mv (.tmp 4), 0, false⟩,⟨some 64, none, .mv (.tmp 9), 0, false⟩,⟨some 65, none, .ixA 1 (.tmp 63) (.tmp 64), 0, false⟩,⟨some 66, none, .ld1 none (.tmp 65), 0, false⟩,⟨some 67, none, .fldA 2 (.tmp 1), 0, false⟩,⟨some 68, none, .ld1 (some 1) (.tmp 67), 0, false⟩,⟨some 69, none, .mv (.tmp 10), 0, false⟩,⟨some 70, none, .mv (.tmp 4), 0, false⟩,⟨some 71, none, .fldA 0 (.tmp 7), 0, false⟩,⟨some 72, none, .ld1 (some 7) (.tmp 71), 0, false⟩,⟨some 73, none, .ixA 1 (.tmp 70) (.tmp 72), 0, false⟩,⟨some 74, none, .ld1 none (.tmp 73), 0, false⟩,⟨some 75, none, .call 15 [(.tmp 68), (.tmp 69), (.tmp 74)], 0, false⟩,⟨some 76, none, .call 14 [(.tmp 66), (.tmp 75)], 0, true⟩,⟨some 11, none, .mv (.tmp 76), 0, false⟩])
 (.seq (.regN [1, 3, 4, 5, 6, 7, 8, 9, 11] [
 ⟨some 77, none, .mv (.tmp 5), 0, false⟩,⟨some 78, none, .mv (.tmp 77), 0, false⟩,⟨some 79, some (78, false), .mv (.tmp 11), 0, false⟩,⟨some 80, some (78, false), .len false (.tmp 79), 0, false⟩,⟨some 81, some (78, false), .mv (.tmp 4), 0, false⟩,⟨some 82, some (78, false), .mv (.tmp 9), 0, false⟩,⟨some 83, some (78, false), .ixA 1 (.tmp 81) (.tmp 82), 0, false⟩,⟨some 84, some (78, false), .ld1 none (.tmp 83), 0, false⟩,⟨some 85, some (78, false), .len false (.tmp 84), 0, false⟩,⟨some 86, some (78, false), .bini .gtr (.tmp 80) (.tmp 85), 0, false⟩,⟨some 87, none, .pick (.tmp 78) (.con (.val (.bool true))) (.tmp 86), 0, false⟩,⟨some 5, none, .mv (.tmp 87), 0, false⟩])
 (.regN [1, 3, 4, 5, 6, 7, 8, 9, 11] [
 ⟨some 88, none, .mv (.tmp 4), 0, false⟩,⟨some 89, none, .mv (.tmp 9), 0, false⟩,⟨some 90, none, .mv (.tmp 11), 0, false⟩,⟨some 91, none, .ixA 1 (.tmp 88) (.tmp 89), 0, false⟩,⟨none, none, .st none 1 (.tmp 91) (.tmp 90), 0, false⟩])))))))
 (.regN [1, 3, 4, 5, 6, 7, 8] [
 ⟨some 43, none, .mv (.tmp 8), 0, false⟩,⟨some 44, none, .bini .add (.tmp 43) (.con (.val (.int .i64 1))), 0, false⟩,⟨some 8, none, .mv (.tmp 44), 0, false⟩])))
def t26L2 : AC := (.seq (.seq (.regN [1, 3, 4, 5, 6] [
 ⟨some 26, none, .mv (.tmp 6), 0, false⟩,⟨some 27, none, .fldA 3 (.tmp 1), 0, false⟩,⟨some 28, none, .ld1 (some 1) (.tmp 27), 0, false⟩,⟨some 29, none, .len false (.tmp 28), 0, false⟩,⟨some 30, none, .bini .lss (.tmp 26) (.tmp 29), 0, false⟩])
 (.cond (.tmp 30)
 .skip
 (.exit 2)))
 (.seq (.block 3
 (.seq (.regN [1, 3, 4, 5, 6] [
 ⟨some 33, none, .fldA 3 (.tmp 1), 0, false⟩,⟨some 34, none, .ld1 (some 1) (.tmp 33), 0, false⟩,⟨some 35, none, .mv (.tmp 6), 0, false⟩,⟨some 36, none, .ixA 2 (.tmp 34) (.tmp 35), 0, false⟩,⟨some 37, none, .ldA none 2 (.tmp 36), 0, false⟩,⟨some 7, none, .allocR [(.val (.int .i64 0)), .e0], 0, false⟩,⟨none, none, .st (some 7) 2 (.tmp 7) (.tmp 37), 0, false⟩])
 (.seq (.regN [1, 3, 4, 5, 6, 7] [
 ⟨some 8, none, .mv (.con (.val (.int .i64 0))), 0, false⟩])
 (.block 4
 (.loop [1, 3, 4, 5, 6, 7, 8] t26L1)))))
 (.regN [1, 3, 4, 5, 6] [
 ⟨some 31, none, .mv (.tmp 6), 0, false⟩,⟨some 32, none, .bini .add (.tmp 31) (.con (.val (.int .i64 1))), 0, false⟩,⟨some 6, none, .mv (.tmp 32), 0, false⟩])))
def t26L3 : AC := (.seq (.seq (.regN [1, 3, 4, 5] [
 ⟨some 25, none, .mv (.tmp 5), 0, false⟩])
 (.cond (.tmp 25)
 .skip
 (.exit 0)))
 (.block 1
 (.seq (.regN [1, 3, 4] [
 ⟨some 5, none, .mv (.con (.val (.bool false))), 0, false⟩])
 (.seq (.regN [1, 3, 4, 5] [
 ⟨some 6, none, .mv (.con (.val (.int .i64 0))), 0, false⟩])
 (.block 2
 (.loop [1, 3, 4, 5, 6] t26L2))))))
def t26B : AC := (.seq (.regN [0] [
 ⟨some 1, none, .boxR 4 (.tmp 0), 0, false⟩,⟨some 2, none, .mv (.con .e0), 0, false⟩])
 (.seq (.seq (.regN [1] [
 ⟨some 12, none, .ldA (some 1) 4 (.tmp 1), 0, false⟩,⟨some 13, none, .call 11 [(.tmp 12)], 0, false⟩,⟨some 14, none, .bini .neq (.tmp 13) (.con (.val (.int .i64 0))), 0, false⟩])
 (.cond (.tmp 14)
 (.seq (.regN [] [
 ⟨some 2, none, .mv (.con .e0), 0, false⟩])
 .ret)
 .skip))
 (.seq (.regN [1] [
 ⟨some 15, none, .ldA (some 1) 4 (.tmp 1), 0, false⟩,⟨some 16, none, .call 13 [(.tmp 15)], 0, false⟩,⟨some 3, none, .mv (.tmp 16), 0, false⟩])
 (.seq (.regN [1, 3] [
 ⟨some 17, none, .fldA 1 (.tmp 1), 0, false⟩,⟨some 18, none, .ld1 (some 1) (.tmp 17), 0, false⟩,⟨some 19, none, .mks 1 24 [.e0] (.tmp 18), 0, false⟩,⟨some 4, none, .mv (.tmp 19), 0, false⟩])
 (.seq (.regN [1, 3, 4] [
 ⟨some 20, none, .mv (.tmp 4), 0, false⟩,⟨some 21, none, .buildS 1 [(.val (.int .u8 0))] [(0, 1, (.con (.val (.int .u8 255))))], 0, false⟩,⟨some 22, none, .b2s (.tmp 21), 0, false⟩,⟨some 23, none, .buildS 1 [(.val (.string ⟨#[]⟩))] [(0, 1, (.tmp 22))], 0, false⟩,⟨some 24, none, .ixA 1 (.tmp 20) (.con (.val (.int .i64 0))), 0, false⟩,⟨none, none, .st none 1 (.tmp 24) (.tmp 23), 0, false⟩])
 (.seq (.seq (.regN [1, 3, 4] [
 ⟨some 5, none, .mv (.con (.val (.bool true))), 0, false⟩])
 (.block 0
 (.loop [1, 3, 4, 5] t26L3)))
 (.seq (.regN [4] [
 ⟨some 92, none, .mv (.tmp 4), 0, false⟩,⟨some 2, none, .mv (.tmp 92), 0, false⟩])
 .ret)))))))
def t26 : AFn := ⟨1, t26B,
 [.tmp 2], true⟩
def t27B : AC := (.seq (.regN [0, 1] [
 ⟨some 2, none, .boxR 4 (.tmp 0), 0, false⟩,⟨some 4, none, .mv (.con (.val (.bool false))), 0, false⟩])
 (.seq (.regN [1, 2] [
 ⟨some 6, none, .ldA (some 2) 4 (.tmp 2), 0, false⟩,⟨some 7, none, .call 26 [(.tmp 6)], 0, false⟩,⟨some 5, none, .mv (.tmp 7), 0, false⟩])
 (.seq (.regD [1, 5] 0 [
 ⟨some 8, none, .mv (.tmp 1), 0, false⟩,⟨some 9, none, .bini .geq (.tmp 8) (.con (.val (.int .i64 0))), 0, false⟩,⟨some 10, none, .mv (.tmp 9), 0, false⟩,⟨some 11, some (10, true), .mv (.tmp 1), 0, false⟩,⟨some 12, some (10, true), .mv (.tmp 5), 0, false⟩,⟨some 13, some (10, true), .len false (.tmp 12), 0, false⟩,⟨some 14, some (10, true), .bini .lss (.tmp 11) (.tmp 13), 0, false⟩,⟨some 15, none, .pick (.tmp 10) (.tmp 14) (.con (.val (.bool false))), 0, false⟩,⟨some 16, none, .mv (.tmp 15), 0, false⟩,⟨some 17, some (16, true), .mv (.tmp 5), 0, false⟩,⟨some 18, some (16, true), .mv (.tmp 1), 0, false⟩,⟨some 19, some (16, true), .ixA 1 (.tmp 17) (.tmp 18), 0, false⟩,⟨some 20, some (16, true), .ld1 none (.tmp 19), 0, false⟩,⟨some 21, some (16, true), .buildS 1 [(.val (.int .u8 0))] [(0, 1, (.con (.val (.int .u8 255))))], 0, false⟩,⟨some 22, some (16, true), .b2s (.tmp 21), 0, false⟩,⟨some 23, some (16, true), .call 19 [(.tmp 20), (.tmp 22)], 0, true⟩,⟨some 24, none, .pick (.tmp 16) (.tmp 23) (.con (.val (.bool false))), 0, false⟩,⟨some 4, none, .mv (.tmp 24), 0, false⟩])
 .ret)))
def t27 : AFn := ⟨2, t27B,
 [.tmp 4], true⟩
end Go.Proofs.Ytdmaganalpamlaa
