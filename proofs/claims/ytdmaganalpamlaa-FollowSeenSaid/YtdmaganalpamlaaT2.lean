/- The functions of a program, compiled: printed by wip/hm/tools/Gen.lean. -/
import Derived.Test.YtdmaganalpamlaaT1
namespace Go.Proofs.Ytdmaganalpamlaa
open Go Go.Hm
def t28L1 : AC := (.seq (.seq (.regN [1, 3, 4, 5, 6, 7] [
 ⟨some 21, none, .mv (.tmp 7), 0, false⟩,⟨some 22, none, .mv (.tmp 4), 0, false⟩,⟨some 23, none, .mv (.tmp 5), 0, false⟩,⟨some 24, none, .ixA 1 (.tmp 22) (.tmp 23), 0, false⟩,⟨some 25, none, .ld1 none (.tmp 24), 0, false⟩,⟨some 26, none, .len false (.tmp 25), 0, false⟩,⟨some 27, none, .bini .lss (.tmp 21) (.tmp 26), 0, false⟩])
 (.cond (.tmp 27)
 .skip
 (.exit 2)))
 (.seq (.block 3
 (.seq (.regN [1, 3, 4, 5, 6, 7] [
 ⟨some 30, none, .mv (.tmp 4), 0, false⟩,⟨some 31, none, .mv (.tmp 5), 0, false⟩,⟨some 32, none, .ixA 1 (.tmp 30) (.tmp 31), 0, false⟩,⟨some 33, none, .ld1 none (.tmp 32), 0, false⟩,⟨some 34, none, .mv (.tmp 7), 0, false⟩,⟨some 35, none, .ixA 1 (.tmp 33) (.tmp 34), 0, false⟩,⟨some 36, none, .ld1 none (.tmp 35), 0, false⟩,⟨some 8, none, .mv (.tmp 36), 0, false⟩])
 (.seq (.seq (.regN [1, 3, 4, 5, 6, 7, 8] [
 ⟨some 37, none, .mv (.tmp 8), 0, false⟩,⟨some 38, none, .bins .eql (.tmp 37) (.con (.val (.string ⟨#[]⟩))), 0, false⟩])
 (.cond (.tmp 38)
 (.exit 3)
 .skip))
 (.seq (.regN [1, 3, 4, 5, 6, 7, 8] [
 ⟨some 39, none, .mv (.tmp 8), 0, false⟩,⟨some 40, none, .ixS (.tmp 39) (.con (.val (.int .i64 0))), 0, false⟩,⟨some 41, none, .bini .eql (.tmp 40) (.con (.val (.int .u8 255))), 0, false⟩])
 (.cond (.tmp 41)
 (.regN [1, 3, 4, 5, 6, 7] [
 ⟨some 42, none, .mv (.tmp 6), 0, false⟩,⟨some 43, none, .fldA 0 (.tmp 1), 0, false⟩,⟨some 44, none, .ld1 (some 1) (.tmp 43), 0, false⟩,⟨some 45, none, .ixA 1 (.tmp 42) (.tmp 44), 0, false⟩,⟨none, none, .st none 1 (.tmp 45) (.con (.val (.bool true))), 0, false⟩])
 (.seq (.regD [1, 3, 4, 5, 6, 7, 8] 0 [
 ⟨some 46, none, .mv (.tmp 8), 0, false⟩,⟨some 47, none, .ixS (.tmp 46) (.con (.val (.int .i64 0))), 0, false⟩,⟨some 48, none, .cvi .i64 (.tmp 47), 0, false⟩,⟨some 49, none, .fldA 0 (.tmp 1), 0, false⟩,⟨some 50, none, .ld1 (some 1) (.tmp 49), 0, false⟩,⟨some 51, none, .bini .lss (.tmp 48) (.tmp 50), 0, false⟩])
 (.cond (.tmp 51)
 (.regN [1, 3, 4, 5, 6, 7, 8] [
 ⟨some 52, none, .mv (.tmp 6), 0, false⟩,⟨some 53, none, .mv (.tmp 8), 0, false⟩,⟨some 54, none, .ixS (.tmp 53) (.con (.val (.int .i64 0))), 0, false⟩,⟨some 55, none, .ixA 1 (.tmp 52) (.tmp 54), 0, false⟩,⟨none, none, .st none 1 (.tmp 55) (.con (.val (.bool true))), 0, false⟩])
 .skip)))))))
 (.regN [1, 3, 4, 5, 6, 7] [
 ⟨some 28, none, .mv (.tmp 7), 0, false⟩,⟨some 29, none, .bini .add (.tmp 28) (.con (.val (.int .i64 1))), 0, false⟩,⟨some 7, none, .mv (.tmp 29), 0, false⟩])))
def t28L2 : AC := (.seq (.seq (.regN [1, 3, 4, 5] [
 ⟨some 11, none, .mv (.tmp 5), 0, false⟩,⟨some 12, none, .mv (.tmp 4), 0, false⟩,⟨some 13, none, .len false (.tmp 12), 0, false⟩,⟨some 14, none, .bini .lss (.tmp 11) (.tmp 13), 0, false⟩])
 (.cond (.tmp 14)
 .skip
 (.exit 0)))
 (.seq (.block 1
 (.seq (.regN [1, 3, 4, 5] [
 ⟨some 17, none, .fldA 0 (.tmp 1), 0, false⟩,⟨some 18, none, .ld1 (some 1) (.tmp 17), 0, false⟩,⟨some 19, none, .bini .add (.tmp 18) (.con (.val (.int .i64 1))), 0, false⟩,⟨some 20, none, .mks 1 1 [(.val (.bool false))] (.tmp 19), 0, false⟩,⟨some 6, none, .mv (.tmp 20), 0, false⟩])
 (.seq (.seq (.regN [1, 3, 4, 5, 6] [
 ⟨some 7, none, .mv (.con (.val (.int .i64 0))), 0, false⟩])
 (.block 2
 (.loop [1, 3, 4, 5, 6, 7] t28L1)))
 (.regN [1, 3, 4, 5, 6] [
 ⟨some 56, none, .mv (.tmp 3), 0, false⟩,⟨some 57, none, .mv (.tmp 6), 0, false⟩,⟨some 58, none, .buildH 1 1 [.e0] [(0, 1, (.tmp 57))], 0, false⟩,⟨some 59, none, .app 1 24 (.tmp 56) (.tmp 58), 0, false⟩,⟨some 3, none, .mv (.tmp 59), 0, false⟩]))))
 (.regN [1, 3, 4, 5] [
 ⟨some 15, none, .mv (.tmp 5), 0, false⟩,⟨some 16, none, .bini .add (.tmp 15) (.con (.val (.int .i64 1))), 0, false⟩,⟨some 5, none, .mv (.tmp 16), 0, false⟩])))
def t28B : AC := (.seq (.regN [0] [
 ⟨some 1, none, .boxR 4 (.tmp 0), 0, false⟩,⟨some 2, none, .mv (.con .e0), 0, false⟩])
 (.seq (.regN [1] [
 ⟨some 3, none, .mv (.con .e0), 0, false⟩])
 (.seq (.regN [1, 3] [
 ⟨some 9, none, .ldA (some 1) 4 (.tmp 1), 0, false⟩,⟨some 10, none, .call 26 [(.tmp 9)], 0, false⟩,⟨some 4, none, .mv (.tmp 10), 0, false⟩])
 (.seq (.seq (.regN [1, 3, 4] [
 ⟨some 5, none, .mv (.con (.val (.int .i64 0))), 0, false⟩])
 (.block 0
 (.loop [1, 3, 4, 5] t28L2)))
 (.seq (.regN [3] [
 ⟨some 60, none, .mv (.tmp 3), 0, false⟩,⟨some 2, none, .mv (.tmp 60), 0, false⟩])
 .ret)))))
def t28 : AFn := ⟨1, t28B,
 [.tmp 2], true⟩
def t8L1 : AC := (.seq (.seq (.regN [1, 3, 4, 7, 8, 9] [
 ⟨some 56, none, .mv (.tmp 9), 0, false⟩,⟨some 57, none, .mv (.tmp 3), 0, false⟩,⟨some 58, none, .mv (.tmp 7), 0, false⟩,⟨some 59, none, .ixA 1 (.tmp 57) (.tmp 58), 0, false⟩,⟨some 60, none, .ld1 none (.tmp 59), 0, false⟩,⟨some 61, none, .len false (.tmp 60), 0, false⟩,⟨some 62, none, .bini .lss (.tmp 56) (.tmp 61), 0, false⟩])
 (.cond (.tmp 62)
 .skip
 (.exit 2)))
 (.seq (.block 3
 (.seq (.seq (.regD [1, 3, 4, 7, 8, 9] 0 [
 ⟨some 65, none, .mv (.tmp 3), 0, false⟩,⟨some 66, none, .mv (.tmp 7), 0, false⟩,⟨some 67, none, .ixA 1 (.tmp 65) (.tmp 66), 0, false⟩,⟨some 68, none, .ld1 none (.tmp 67), 0, false⟩,⟨some 69, none, .mv (.tmp 9), 0, false⟩,⟨some 70, none, .ixA 1 (.tmp 68) (.tmp 69), 0, false⟩,⟨some 71, none, .ld1 none (.tmp 70), 0, false⟩,⟨some 72, none, .bins .eql (.tmp 71) (.con (.val (.string ⟨#[]⟩))), 0, false⟩,⟨some 73, none, .mv (.tmp 72), 0, false⟩,⟨some 74, some (73, false), .mv (.tmp 3), 0, false⟩,⟨some 75, some (73, false), .mv (.tmp 7), 0, false⟩,⟨some 76, some (73, false), .ixA 1 (.tmp 74) (.tmp 75), 0, false⟩,⟨some 77, some (73, false), .ld1 none (.tmp 76), 0, false⟩,⟨some 78, some (73, false), .mv (.tmp 9), 0, false⟩,⟨some 79, some (73, false), .ixA 1 (.tmp 77) (.tmp 78), 0, false⟩,⟨some 80, some (73, false), .ld1 none (.tmp 79), 0, false⟩,⟨some 81, some (73, false), .ixS (.tmp 80) (.con (.val (.int .i64 0))), 0, false⟩,⟨some 82, some (73, false), .bini .neq (.tmp 81) (.con (.val (.int .u8 255))), 0, false⟩,⟨some 83, some (73, false), .mv (.tmp 82), 0, false⟩,⟨some 84, some (83, true), .mv (.tmp 3), 0, false⟩,⟨some 85, some (83, true), .mv (.tmp 7), 0, false⟩,⟨some 86, some (83, true), .ixA 1 (.tmp 84) (.tmp 85), 0, false⟩,⟨some 87, some (83, true), .ld1 none (.tmp 86), 0, false⟩,⟨some 88, some (83, true), .mv (.tmp 9), 0, false⟩,⟨some 89, some (83, true), .ixA 1 (.tmp 87) (.tmp 88), 0, false⟩,⟨some 90, some (83, true), .ld1 none (.tmp 89), 0, false⟩,⟨some 91, some (83, true), .ixS (.tmp 90) (.con (.val (.int .i64 0))), 0, false⟩,⟨some 92, some (83, true), .cvi .i64 (.tmp 91), 0, false⟩,⟨some 93, some (83, true), .fldA 0 (.tmp 1), 0, false⟩,⟨some 94, some (83, true), .ld1 (some 1) (.tmp 93), 0, false⟩,⟨some 95, some (83, true), .bini .geq (.tmp 92) (.tmp 94), 0, false⟩,⟨some 96, some (73, false), .pick (.tmp 83) (.tmp 95) (.con (.val (.bool false))), 0, false⟩,⟨some 97, none, .pick (.tmp 73) (.con (.val (.bool true))) (.tmp 96), 0, false⟩])
 (.cond (.tmp 97)
 (.seq (.regN [] [
 ⟨some 2, none, .mv (.con (.val (.bool false))), 0, false⟩])
 .ret)
 .skip))
 (.seq (.regN [1, 3, 4, 7, 8, 9] [
 ⟨some 98, none, .mv (.tmp 3), 0, false⟩,⟨some 99, none, .mv (.tmp 7), 0, false⟩,⟨some 100, none, .ixA 1 (.tmp 98) (.tmp 99), 0, false⟩,⟨some 101, none, .ld1 none (.tmp 100), 0, false⟩,⟨some 102, none, .mv (.tmp 9), 0, false⟩,⟨some 103, none, .ixA 1 (.tmp 101) (.tmp 102), 0, false⟩,⟨some 104, none, .ld1 none (.tmp 103), 0, false⟩,⟨some 105, none, .ixS (.tmp 104) (.con (.val (.int .i64 0))), 0, false⟩,⟨some 106, none, .bini .eql (.tmp 105) (.con (.val (.int .u8 255))), 0, false⟩])
 (.cond (.tmp 106)
 (.regN [1, 3, 4, 7, 8, 9] [
 ⟨some 107, none, .mv (.tmp 8), 0, false⟩,⟨some 108, none, .fldA 0 (.tmp 1), 0, false⟩,⟨some 109, none, .ld1 (some 1) (.tmp 108), 0, false⟩,⟨some 110, none, .ixA 1 (.tmp 107) (.tmp 109), 0, false⟩,⟨none, none, .st none 1 (.tmp 110) (.con (.val (.bool true))), 0, false⟩])
 (.regN [1, 3, 4, 7, 8, 9] [
 ⟨some 111, none, .mv (.tmp 8), 0, false⟩,⟨some 112, none, .mv (.tmp 3), 0, false⟩,⟨some 113, none, .mv (.tmp 7), 0, false⟩,⟨some 114, none, .ixA 1 (.tmp 112) (.tmp 113), 0, false⟩,⟨some 115, none, .ld1 none (.tmp 114), 0, false⟩,⟨some 116, none, .mv (.tmp 9), 0, false⟩,⟨some 117, none, .ixA 1 (.tmp 115) (.tmp 116), 0, false⟩,⟨some 118, none, .ld1 none (.tmp 117), 0, false⟩,⟨some 119, none, .ixS (.tmp 118) (.con (.val (.int .i64 0))), 0, false⟩,⟨some 120, none, .ixA 1 (.tmp 111) (.tmp 119), 0, false⟩,⟨none, none, .st none 1 (.tmp 120) (.con (.val (.bool true))), 0, false⟩])))))
 (.regN [1, 3, 4, 7, 8, 9] [
 ⟨some 63, none, .mv (.tmp 9), 0, false⟩,⟨some 64, none, .bini .add (.tmp 63) (.con (.val (.int .i64 1))), 0, false⟩,⟨some 9, none, .mv (.tmp 64), 0, false⟩])))
def t8L2 : AC := (.seq (.seq (.regN [1, 3, 4, 7] [
 ⟨some 46, none, .mv (.tmp 7), 0, false⟩,⟨some 47, none, .fldA 1 (.tmp 1), 0, false⟩,⟨some 48, none, .ld1 (some 1) (.tmp 47), 0, false⟩,⟨some 49, none, .bini .lss (.tmp 46) (.tmp 48), 0, false⟩])
 (.cond (.tmp 49)
 .skip
 (.exit 0)))
 (.seq (.block 1
 (.seq (.regN [1, 3, 4, 7] [
 ⟨some 52, none, .fldA 0 (.tmp 1), 0, false⟩,⟨some 53, none, .ld1 (some 1) (.tmp 52), 0, false⟩,⟨some 54, none, .bini .add (.tmp 53) (.con (.val (.int .i64 1))), 0, false⟩,⟨some 55, none, .mks 1 1 [(.val (.bool false))] (.tmp 54), 0, false⟩,⟨some 8, none, .mv (.tmp 55), 0, false⟩])
 (.seq (.seq (.regN [1, 3, 4, 7, 8] [
 ⟨some 9, none, .mv (.con (.val (.int .i64 0))), 0, false⟩])
 (.block 2
 (.loop [1, 3, 4, 7, 8, 9] t8L1)))
 (.seq (.regD [1, 3, 4, 7, 8] 0 [
 ⟨some 121, none, .mv (.tmp 4), 0, false⟩,⟨some 122, none, .mv (.tmp 7), 0, false⟩,⟨some 123, none, .ixA 1 (.tmp 121) (.tmp 122), 0, false⟩,⟨some 124, none, .ld1 none (.tmp 123), 0, false⟩,⟨some 125, none, .mv (.tmp 8), 0, false⟩,⟨some 126, none, .call 29 [(.tmp 124), (.tmp 125)], 0, false⟩,⟨some 127, none, .not (.tmp 126), 0, false⟩,⟨some 128, none, .mv (.tmp 127), 0, false⟩,⟨some 129, some (128, false), .ldA (some 1) 4 (.tmp 1), 0, false⟩,⟨some 130, some (128, false), .mv (.tmp 7), 0, false⟩,⟨some 131, some (128, false), .call 23 [(.tmp 129), (.tmp 130)], 0, false⟩,⟨some 132, some (128, false), .mv (.tmp 8), 0, false⟩,⟨some 133, some (128, false), .fldA 0 (.tmp 1), 0, false⟩,⟨some 134, some (128, false), .ld1 (some 1) (.tmp 133), 0, false⟩,⟨some 135, some (128, false), .ixA 1 (.tmp 132) (.tmp 134), 0, false⟩,⟨some 136, some (128, false), .ld1 none (.tmp 135), 0, false⟩,⟨some 137, some (128, false), .eqb true (.tmp 131) (.tmp 136), 0, false⟩,⟨some 138, none, .pick (.tmp 128) (.con (.val (.bool true))) (.tmp 137), 0, false⟩])
 (.cond (.tmp 138)
 (.seq (.regN [] [
 ⟨some 2, none, .mv (.con (.val (.bool false))), 0, false⟩])
 .ret)
 .skip)))))
 (.regN [1, 3, 4, 7] [
 ⟨some 50, none, .mv (.tmp 7), 0, false⟩,⟨some 51, none, .bini .add (.tmp 50) (.con (.val (.int .i64 1))), 0, false⟩,⟨some 7, none, .mv (.tmp 51), 0, false⟩])))
def t8B : AC := (.seq (.regN [0] [
 ⟨some 1, none, .boxR 4 (.tmp 0), 0, false⟩,⟨some 2, none, .mv (.con (.val (.bool false))), 0, false⟩])
 (.seq (.seq (.regN [1] [
 ⟨some 10, none, .call 9 [], 0, false⟩,⟨some 11, none, .not (.tmp 10), 0, false⟩])
 (.cond (.tmp 11)
 (.seq (.regN [] [
 ⟨some 2, none, .mv (.con (.val (.bool false))), 0, false⟩])
 .ret)
 .skip))
 (.seq (.seq (.regN [1] [
 ⟨some 12, none, .ldA (some 1) 4 (.tmp 1), 0, false⟩,⟨some 13, none, .call 10 [(.tmp 12)], 0, false⟩,⟨some 14, none, .not (.tmp 13), 0, false⟩,⟨some 15, none, .mv (.tmp 14), 0, false⟩,⟨some 16, some (15, false), .ldA (some 1) 4 (.tmp 1), 0, false⟩,⟨some 17, some (15, false), .call 11 [(.tmp 16)], 0, false⟩,⟨some 18, some (15, false), .bini .neq (.tmp 17) (.con (.val (.int .i64 0))), 0, false⟩,⟨some 19, none, .pick (.tmp 15) (.con (.val (.bool true))) (.tmp 18), 0, false⟩])
 (.cond (.tmp 19)
 (.seq (.regN [] [
 ⟨some 2, none, .mv (.con (.val (.bool true))), 0, false⟩])
 .ret)
 .skip))
 (.seq (.regD [1] 0 [
 ⟨some 20, none, .ldA (some 1) 4 (.tmp 1), 0, false⟩,⟨some 21, none, .call 12 [(.tmp 20)], 0, true⟩,⟨some 22, none, .ldA (some 1) 4 (.tmp 1), 0, false⟩,⟨some 23, none, .call 25 [(.tmp 22)], 0, true⟩,⟨some 3, none, .mv (.tmp 21), 0, false⟩,⟨some 4, none, .mv (.tmp 23), 0, false⟩])
 (.seq (.regN [1, 3, 4] [
 ⟨some 24, none, .ldA (some 1) 4 (.tmp 1), 0, false⟩,⟨some 5, none, .allocR [(.val (.int .i64 0)), (.val (.int .i64 0)), (.val (.int .i64 0)), .e0], 0, false⟩,⟨none, none, .st (some 5) 4 (.tmp 5) (.tmp 24), 0, false⟩])
 (.seq (.regN [1, 3, 4, 5] [
 ⟨some 25, none, .fldA 2 (.tmp 5), 0, false⟩,⟨none, none, .st (some 5) 1 (.tmp 25) (.con (.val (.int .i64 1))), 0, false⟩])
 (.seq (.regN [1, 3, 4, 5] [
 ⟨some 26, none, .ldA (some 5) 4 (.tmp 5), 0, false⟩,⟨some 27, none, .call 25 [(.tmp 26)], 0, false⟩,⟨some 6, none, .mv (.tmp 27), 0, false⟩])
 (.seq (.seq (.regN [1, 3, 4, 6] [
 ⟨some 28, none, .mv (.tmp 4), 0, false⟩,⟨some 29, none, .len false (.tmp 28), 0, false⟩,⟨some 30, none, .fldA 1 (.tmp 1), 0, false⟩,⟨some 31, none, .ld1 (some 1) (.tmp 30), 0, false⟩,⟨some 32, none, .bini .neq (.tmp 29) (.tmp 31), 0, false⟩,⟨some 33, none, .mv (.tmp 32), 0, false⟩,⟨some 34, some (33, false), .mv (.tmp 3), 0, false⟩,⟨some 35, some (33, false), .len false (.tmp 34), 0, false⟩,⟨some 36, some (33, false), .fldA 1 (.tmp 1), 0, false⟩,⟨some 37, some (33, false), .ld1 (some 1) (.tmp 36), 0, false⟩,⟨some 38, some (33, false), .bini .neq (.tmp 35) (.tmp 37), 0, false⟩,⟨some 39, none, .pick (.tmp 33) (.con (.val (.bool true))) (.tmp 38), 0, false⟩,⟨some 40, none, .mv (.tmp 39), 0, false⟩,⟨some 41, some (40, false), .mv (.tmp 4), 0, false⟩,⟨some 42, some (40, false), .mv (.tmp 6), 0, false⟩,⟨some 43, some (40, false), .call 24 [(.tmp 41), (.tmp 42)], 0, false⟩,⟨some 44, some (40, false), .not (.tmp 43), 0, false⟩,⟨some 45, none, .pick (.tmp 40) (.con (.val (.bool true))) (.tmp 44), 0, false⟩])
 (.cond (.tmp 45)
 (.seq (.regN [] [
 ⟨some 2, none, .mv (.con (.val (.bool false))), 0, false⟩])
 .ret)
 .skip))
 (.seq (.seq (.regN [1, 3, 4] [
 ⟨some 7, none, .mv (.con (.val (.int .i64 0))), 0, false⟩])
 (.block 0
 (.loop [1, 3, 4, 7] t8L2)))
 (.seq (.regN [] [
 ⟨some 2, none, .mv (.con (.val (.bool true))), 0, false⟩])
 .ret))))))))))
def t8 : AFn := ⟨1, t8B,
 [.tmp 2], true⟩
end Go.Proofs.Ytdmaganalpamlaa
