/- The functions of a program, compiled: printed by wip/hm/tools/Gen.lean. -/
import Derived.Test.YtdbbaopgmapmaaaT1
namespace Go.Proofs.Ytdbbaopgmapmaaa
open Go Go.Hm
/-- viewport/viewportref05.Least  -/
def t22L1 : AC := (.seq (.seq (.regN [1, 2, 5, 7, 8, 9, 10, 11, 12] [
 ⟨some 57, none, .mv (.tmp 12), 0, false⟩,⟨some 58, none, .bini .lss (.tmp 57) (.con (.val (.int .i64 256))), 0, false⟩])
 (.cond (.tmp 58)
 .skip
 (.exit 2)))
 (.seq (.block 3
 (.seq (.regD [1, 2, 5, 7, 8, 9, 10, 11, 12] 0 [
 ⟨some 61, none, .ldA (some 1) 2 (.tmp 1), 0, false⟩,⟨some 62, none, .mv (.tmp 8), 0, false⟩,⟨some 63, none, .mv (.tmp 11), 0, false⟩,⟨some 64, none, .ixA 1 (.tmp 62) (.tmp 63), 0, false⟩,⟨some 65, none, .ld1 none (.tmp 64), 0, false⟩,⟨some 66, none, .mv (.tmp 12), 0, false⟩,⟨some 67, none, .call 40 [(.tmp 61), (.tmp 65), (.tmp 66)], 0, true⟩,⟨some 13, none, .mv (.tmp 67), 0, false⟩])
 (.seq (.seq (.regN [1, 2, 5, 7, 8, 9, 10, 11, 12, 13] [
 ⟨some 68, none, .mv (.tmp 5), 0, false⟩,⟨some 69, none, .mv (.tmp 13), 0, false⟩,⟨some 70, none, .ixA 1 (.tmp 68) (.tmp 69), 0, false⟩,⟨some 71, none, .ld1 none (.tmp 70), 0, false⟩,⟨some 72, none, .mv (.tmp 7), 0, false⟩,⟨some 73, none, .bini .eql (.tmp 71) (.tmp 72), 0, false⟩])
 (.cond (.tmp 73)
 (.seq (.regN [1, 2, 5, 7, 8, 9, 10, 11, 12] [
 ⟨some 74, none, .fldA 0 (.tmp 10), 0, false⟩,⟨some 75, none, .ld1 (some 10) (.tmp 74), 0, false⟩,⟨some 76, none, .buildS 1 [(.val (.int .i64 0))] [(0, 1, (.con (.val (.int .i64 (-1)))))], 0, false⟩,⟨some 77, none, .app 1 8 (.tmp 75) (.tmp 76), 0, false⟩,⟨some 78, none, .fldA 0 (.tmp 10), 0, false⟩,⟨none, none, .st (some 10) 1 (.tmp 78) (.tmp 77), 0, false⟩])
 (.exit 3))
 .skip))
 (.seq (.regN [1, 2, 5, 7, 8, 9, 10, 11, 12, 13] [
 ⟨some 80, none, .mv (.tmp 9), 0, false⟩,⟨some 81, none, .mv (.tmp 5), 0, false⟩,⟨some 82, none, .mv (.tmp 13), 0, false⟩,⟨some 83, none, .ixA 1 (.tmp 81) (.tmp 82), 0, false⟩,⟨some 84, none, .ld1 none (.tmp 83), 0, false⟩,⟨some 85, none, .mlk false [1] (.val (.int .i64 0)) true (.tmp 80) (.tmp 84), 0, false⟩,⟨some 79, none, .mv (.tmp 85), 0, false⟩,⟨some 86, none, .ext (.tmp 79) 0, 0, false⟩,⟨some 87, none, .ext (.tmp 79) 1, 0, false⟩,⟨some 14, none, .mv (.tmp 86), 0, false⟩,⟨some 15, none, .mv (.tmp 87), 0, false⟩])
 (.seq (.seq (.regN [1, 2, 5, 7, 8, 9, 10, 11, 12, 13, 14, 15] [
 ⟨some 88, none, .mv (.tmp 15), 0, false⟩,⟨some 89, none, .not (.tmp 88), 0, false⟩])
 (.cond (.tmp 89)
 (.seq (.regN [1, 2, 5, 7, 8, 9, 10, 11, 12, 13] [
 ⟨some 90, none, .mv (.tmp 8), 0, false⟩,⟨some 91, none, .len false (.tmp 90), 0, false⟩,⟨some 14, none, .mv (.tmp 91), 0, false⟩])
 (.seq (.regN [1, 2, 5, 7, 8, 9, 10, 11, 12, 13, 14] [
 ⟨some 92, none, .mv (.tmp 8), 0, false⟩,⟨some 93, none, .mv (.tmp 13), 0, false⟩,⟨some 94, none, .buildS 1 [(.val (.int .i64 0))] [(0, 1, (.tmp 93))], 0, false⟩,⟨some 95, none, .app 1 8 (.tmp 92) (.tmp 94), 0, false⟩,⟨some 8, none, .mv (.tmp 95), 0, false⟩])
 (.regN [1, 2, 5, 7, 8, 9, 10, 11, 12, 13, 14] [
 ⟨some 96, none, .mv (.tmp 9), 0, false⟩,⟨some 97, none, .mv (.tmp 5), 0, false⟩,⟨some 98, none, .mv (.tmp 13), 0, false⟩,⟨some 99, none, .ixA 1 (.tmp 97) (.tmp 98), 0, false⟩,⟨some 100, none, .ld1 none (.tmp 99), 0, false⟩,⟨some 101, none, .mv (.tmp 14), 0, false⟩,⟨none, none, .mup false [1] (.tmp 96) (.tmp 100) (.tmp 101), 0, false⟩])))
 .skip))
 (.regN [1, 2, 5, 7, 8, 9, 10, 11, 12, 14] [
 ⟨some 102, none, .fldA 0 (.tmp 10), 0, false⟩,⟨some 103, none, .ld1 (some 10) (.tmp 102), 0, false⟩,⟨some 104, none, .mv (.tmp 14), 0, false⟩,⟨some 105, none, .buildS 1 [(.val (.int .i64 0))] [(0, 1, (.tmp 104))], 0, false⟩,⟨some 106, none, .app 1 8 (.tmp 103) (.tmp 105), 0, false⟩,⟨some 107, none, .fldA 0 (.tmp 10), 0, false⟩,⟨none, none, .st (some 10) 1 (.tmp 107) (.tmp 106), 0, false⟩]))))))
 (.regN [1, 2, 5, 7, 8, 9, 10, 11, 12] [
 ⟨some 59, none, .mv (.tmp 12), 0, false⟩,⟨some 60, none, .bini .add (.tmp 59) (.con (.val (.int .i64 1))), 0, false⟩,⟨some 12, none, .mv (.tmp 60), 0, false⟩])))
def t22L2 : AC := (.seq (.seq (.regN [1, 2, 5, 7, 8, 9, 10, 11] [
 ⟨some 38, none, .mv (.tmp 11), 0, false⟩,⟨some 39, none, .mv (.tmp 8), 0, false⟩,⟨some 40, none, .len false (.tmp 39), 0, false⟩,⟨some 41, none, .bini .lss (.tmp 38) (.tmp 40), 0, false⟩])
 (.cond (.tmp 41)
 .skip
 (.exit 0)))
 (.seq (.block 1
 (.seq (.regD [1, 2, 5, 7, 8, 9, 10, 11] 0 [
 ⟨some 44, none, .fldA 1 (.tmp 10), 0, false⟩,⟨some 45, none, .ld1 (some 10) (.tmp 44), 0, false⟩,⟨some 46, none, .fldA 1 (.tmp 1), 0, false⟩,⟨some 47, none, .ld1 (some 1) (.tmp 46), 0, false⟩,⟨some 48, none, .mv (.tmp 8), 0, false⟩,⟨some 49, none, .mv (.tmp 11), 0, false⟩,⟨some 50, none, .ixA 1 (.tmp 48) (.tmp 49), 0, false⟩,⟨some 51, none, .ld1 none (.tmp 50), 0, false⟩,⟨some 52, none, .ixA 1 (.tmp 47) (.tmp 51), 0, false⟩,⟨some 53, none, .ld1 none (.tmp 52), 0, false⟩,⟨some 54, none, .buildS 1 [(.val (.int .i64 0))] [(0, 1, (.tmp 53))], 0, false⟩,⟨some 55, none, .app 1 8 (.tmp 45) (.tmp 54), 0, false⟩,⟨some 56, none, .fldA 1 (.tmp 10), 0, false⟩,⟨none, none, .st (some 10) 1 (.tmp 56) (.tmp 55), 0, false⟩])
 (.seq (.regN [1, 2, 5, 7, 8, 9, 10, 11] [
 ⟨some 12, none, .mv (.con (.val (.int .i64 0))), 0, false⟩])
 (.block 2
 (.loop [1, 2, 5, 7, 8, 9, 10, 11, 12] t22L1)))))
 (.regN [1, 2, 5, 7, 8, 9, 10, 11] [
 ⟨some 42, none, .mv (.tmp 11), 0, false⟩,⟨some 43, none, .bini .add (.tmp 42) (.con (.val (.int .i64 1))), 0, false⟩,⟨some 11, none, .mv (.tmp 43), 0, false⟩])))
def t22B : AC := (.seq (.regN [0] [
 ⟨some 1, none, .boxR 2 (.tmp 0), 0, false⟩,⟨some 2, none, .allocR [.e0, .e0], 0, false⟩,⟨some 3, none, .mv (.con (.val (.int .i64 0))), 0, false⟩])
 (.seq (.regN [1, 2] [
 ⟨some 16, none, .ldA (some 1) 2 (.tmp 1), 0, false⟩,⟨some 17, none, .call 11 [(.tmp 16)], 0, false⟩,⟨some 4, none, .mv (.tmp 17), 0, false⟩])
 (.seq (.seq (.regN [1, 2, 4] [
 ⟨some 18, none, .mv (.tmp 4), 0, false⟩,⟨some 19, none, .bini .neq (.tmp 18) (.con (.val (.int .i64 0))), 0, false⟩])
 (.cond (.tmp 19)
 (.seq (.regN [2, 4] [
 ⟨some 20, none, .build [.e0, .e0] [], 0, false⟩,⟨some 21, none, .mv (.tmp 4), 0, false⟩,⟨none, none, .st (some 2) 2 (.tmp 2) (.tmp 20), 0, false⟩,⟨some 3, none, .mv (.tmp 21), 0, false⟩])
 .ret)
 .skip))
 (.seq (.regD [1, 2] 0 [
 ⟨some 22, none, .ldA (some 1) 2 (.tmp 1), 0, false⟩,⟨some 23, none, .call 39 [(.tmp 22)], 0, true⟩,⟨some 24, none, .fldA 1 (.tmp 1), 0, false⟩,⟨some 25, none, .ld1 (some 1) (.tmp 24), 0, false⟩,⟨some 26, none, .len false (.tmp 25), 0, false⟩,⟨some 5, none, .mv (.tmp 23), 0, false⟩,⟨some 6, none, .mv (.tmp 26), 0, false⟩])
 (.seq (.regN [1, 2, 5, 6] [
 ⟨some 27, none, .mv (.tmp 5), 0, false⟩,⟨some 28, none, .mv (.tmp 6), 0, false⟩,⟨some 29, none, .ixA 1 (.tmp 27) (.tmp 28), 0, false⟩,⟨some 30, none, .ld1 none (.tmp 29), 0, false⟩,⟨some 7, none, .mv (.tmp 30), 0, false⟩])
 (.seq (.regN [1, 2, 5, 7] [
 ⟨some 31, none, .buildH 1 1 [(.val (.int .i64 0))] [(0, 1, (.con (.val (.int .i64 0))))], 0, false⟩,⟨some 8, none, .mv (.tmp 31), 0, false⟩])
 (.seq (.regN [1, 2, 5, 7, 8] [
 ⟨some 32, none, .mkm, 0, false⟩,⟨some 33, none, .mv (.tmp 5), 0, false⟩,⟨some 34, none, .ixA 1 (.tmp 33) (.con (.val (.int .i64 0))), 0, false⟩,⟨some 35, none, .ld1 none (.tmp 34), 0, false⟩,⟨none, none, .mup false [1] (.tmp 32) (.tmp 35) (.con (.val (.int .i64 0))), 0, false⟩,⟨some 36, none, .mv (.tmp 32), 0, false⟩,⟨some 9, none, .mv (.tmp 36), 0, false⟩])
 (.seq (.regN [1, 2, 5, 7, 8, 9] [
 ⟨some 37, none, .build [.e0, .e0] [], 0, false⟩,⟨some 10, none, .allocR [.e0, .e0], 0, false⟩,⟨none, none, .st (some 10) 2 (.tmp 10) (.tmp 37), 0, false⟩])
 (.seq (.seq (.regN [1, 2, 5, 7, 8, 9, 10] [
 ⟨some 11, none, .mv (.con (.val (.int .i64 0))), 0, false⟩])
 (.block 0
 (.loop [1, 2, 5, 7, 8, 9, 10, 11] t22L2)))
 (.seq (.regN [2, 10] [
 ⟨some 108, none, .ldA (some 10) 2 (.tmp 10), 0, false⟩,⟨none, none, .st (some 2) 2 (.tmp 2) (.tmp 108), 0, false⟩,⟨some 3, none, .mv (.con (.val (.int .i64 0))), 0, false⟩])
 .ret))))))))))
def t22 : AFn := ⟨1, t22B,
 [.cell 2 2 true, .tmp 3], true⟩
/-- viewport/viewportref04.Check  -/
def t11L1 : AC := (.seq (.seq (.regN [1, 3, 4] [
 ⟨some 23, none, .mv (.tmp 4), 0, false⟩,⟨some 24, none, .mv (.tmp 3), 0, false⟩,⟨some 25, none, .bini .lss (.tmp 23) (.tmp 24), 0, false⟩])
 (.cond (.tmp 25)
 .skip
 (.exit 0)))
 (.seq (.block 1
 (.seq (.regN [1, 3, 4] [
 ⟨some 28, none, .fldA 1 (.tmp 1), 0, false⟩,⟨some 29, none, .ld1 (some 1) (.tmp 28), 0, false⟩,⟨some 30, none, .mv (.tmp 4), 0, false⟩,⟨some 31, none, .ixA 1 (.tmp 29) (.tmp 30), 0, false⟩,⟨some 32, none, .ld1 none (.tmp 31), 0, false⟩,⟨some 33, none, .bini .lss (.tmp 32) (.con (.val (.int .i64 (-1)))), 0, false⟩,⟨some 34, none, .mv (.tmp 33), 0, false⟩,⟨some 35, some (34, false), .fldA 1 (.tmp 1), 0, false⟩,⟨some 36, some (34, false), .ld1 (some 1) (.tmp 35), 0, false⟩,⟨some 37, some (34, false), .mv (.tmp 4), 0, false⟩,⟨some 38, some (34, false), .ixA 1 (.tmp 36) (.tmp 37), 0, false⟩,⟨some 39, some (34, false), .ld1 none (.tmp 38), 0, false⟩,⟨some 40, some (34, false), .bini .geq (.tmp 39) (.con (.val (.int .i64 16))), 0, false⟩,⟨some 41, none, .pick (.tmp 34) (.con (.val (.bool true))) (.tmp 40), 0, false⟩])
 (.cond (.tmp 41)
 (.seq (.regN [] [
 ⟨some 2, none, .mv (.con (.val (.int .i64 2))), 0, false⟩])
 .ret)
 .skip)))
 (.regN [1, 3, 4] [
 ⟨some 26, none, .mv (.tmp 4), 0, false⟩,⟨some 27, none, .bini .add (.tmp 26) (.con (.val (.int .i64 1))), 0, false⟩,⟨some 4, none, .mv (.tmp 27), 0, false⟩])))
def t11L2 : AC := (.seq (.seq (.regN [1, 3, 5] [
 ⟨some 42, none, .mv (.tmp 5), 0, false⟩,⟨some 43, none, .fldA 0 (.tmp 1), 0, false⟩,⟨some 44, none, .ld1 (some 1) (.tmp 43), 0, false⟩,⟨some 45, none, .len false (.tmp 44), 0, false⟩,⟨some 46, none, .bini .lss (.tmp 42) (.tmp 45), 0, false⟩])
 (.cond (.tmp 46)
 .skip
 (.exit 2)))
 (.seq (.block 3
 (.seq (.regN [1, 3, 5] [
 ⟨some 49, none, .fldA 0 (.tmp 1), 0, false⟩,⟨some 50, none, .ld1 (some 1) (.tmp 49), 0, false⟩,⟨some 51, none, .mv (.tmp 5), 0, false⟩,⟨some 52, none, .ixA 1 (.tmp 50) (.tmp 51), 0, false⟩,⟨some 53, none, .ld1 none (.tmp 52), 0, false⟩,⟨some 54, none, .bini .lss (.tmp 53) (.con (.val (.int .i64 (-1)))), 0, false⟩,⟨some 55, none, .mv (.tmp 54), 0, false⟩,⟨some 56, some (55, false), .fldA 0 (.tmp 1), 0, false⟩,⟨some 57, some (55, false), .ld1 (some 1) (.tmp 56), 0, false⟩,⟨some 58, some (55, false), .mv (.tmp 5), 0, false⟩,⟨some 59, some (55, false), .ixA 1 (.tmp 57) (.tmp 58), 0, false⟩,⟨some 60, some (55, false), .ld1 none (.tmp 59), 0, false⟩,⟨some 61, some (55, false), .mv (.tmp 3), 0, false⟩,⟨some 62, some (55, false), .bini .geq (.tmp 60) (.tmp 61), 0, false⟩,⟨some 63, none, .pick (.tmp 55) (.con (.val (.bool true))) (.tmp 62), 0, false⟩])
 (.cond (.tmp 63)
 (.seq (.regN [] [
 ⟨some 2, none, .mv (.con (.val (.int .i64 2))), 0, false⟩])
 .ret)
 .skip)))
 (.regN [1, 3, 5] [
 ⟨some 47, none, .mv (.tmp 5), 0, false⟩,⟨some 48, none, .bini .add (.tmp 47) (.con (.val (.int .i64 1))), 0, false⟩,⟨some 5, none, .mv (.tmp 48), 0, false⟩])))
def t11B : AC := (.seq (.regN [0] [
 ⟨some 1, none, .boxR 2 (.tmp 0), 0, false⟩,⟨some 2, none, .mv (.con (.val (.int .i64 0))), 0, false⟩])
 (.seq (.regN [1] [
 ⟨some 6, none, .fldA 1 (.tmp 1), 0, false⟩,⟨some 7, none, .ld1 (some 1) (.tmp 6), 0, false⟩,⟨some 8, none, .len false (.tmp 7), 0, false⟩,⟨some 3, none, .mv (.tmp 8), 0, false⟩])
 (.seq (.seq (.regN [1, 3] [
 ⟨some 9, none, .mv (.tmp 3), 0, false⟩,⟨some 10, none, .bini .lss (.tmp 9) (.con (.val (.int .i64 1))), 0, false⟩,⟨some 11, none, .mv (.tmp 10), 0, false⟩,⟨some 12, some (11, false), .mv (.tmp 3), 0, false⟩,⟨some 13, some (11, false), .bini .gtr (.tmp 12) (.con (.val (.int .i64 512))), 0, false⟩,⟨some 14, none, .pick (.tmp 11) (.con (.val (.bool true))) (.tmp 13), 0, false⟩,⟨some 15, none, .mv (.tmp 14), 0, false⟩,⟨some 16, some (15, false), .fldA 0 (.tmp 1), 0, false⟩,⟨some 17, some (15, false), .ld1 (some 1) (.tmp 16), 0, false⟩,⟨some 18, some (15, false), .len false (.tmp 17), 0, false⟩,⟨some 19, some (15, false), .mv (.tmp 3), 0, false⟩,⟨some 20, some (15, false), .bini .mul (.con (.val (.int .i64 256))) (.tmp 19), 0, false⟩,⟨some 21, some (15, false), .bini .neq (.tmp 18) (.tmp 20), 0, false⟩,⟨some 22, none, .pick (.tmp 15) (.con (.val (.bool true))) (.tmp 21), 0, false⟩])
 (.cond (.tmp 22)
 (.seq (.regN [] [
 ⟨some 2, none, .mv (.con (.val (.int .i64 2))), 0, false⟩])
 .ret)
 .skip))
 (.seq (.seq (.regN [1, 3] [
 ⟨some 4, none, .mv (.con (.val (.int .i64 0))), 0, false⟩])
 (.block 0
 (.loop [1, 3, 4] t11L1)))
 (.seq (.seq (.regN [1, 3] [
 ⟨some 5, none, .mv (.con (.val (.int .i64 0))), 0, false⟩])
 (.block 2
 (.loop [1, 3, 5] t11L2)))
 (.seq (.regN [] [
 ⟨some 2, none, .mv (.con (.val (.int .i64 0))), 0, false⟩])
 .ret))))))
def t11 : AFn := ⟨1, t11B,
 [.tmp 2], true⟩
/-- viewport/viewportref05.parts  -/
def t39L1 : AC := (.seq (.seq (.regN [1, 3, 4, 5] [
 ⟨some 17, none, .mv (.tmp 5), 0, false⟩,⟨some 18, none, .mv (.tmp 3), 0, false⟩,⟨some 19, none, .bini .lss (.tmp 17) (.tmp 18), 0, false⟩])
 (.cond (.tmp 19)
 .skip
 (.exit 0)))
 (.seq (.block 1
 (.regN [1, 3, 4, 5] [
 ⟨some 22, none, .mv (.tmp 4), 0, false⟩,⟨some 23, none, .mv (.tmp 5), 0, false⟩,⟨some 24, none, .fldA 1 (.tmp 1), 0, false⟩,⟨some 25, none, .ld1 (some 1) (.tmp 24), 0, false⟩,⟨some 26, none, .mv (.tmp 5), 0, false⟩,⟨some 27, none, .ixA 1 (.tmp 25) (.tmp 26), 0, false⟩,⟨some 28, none, .ld1 none (.tmp 27), 0, false⟩,⟨some 29, none, .bini .add (.tmp 28) (.con (.val (.int .i64 1))), 0, false⟩,⟨some 30, none, .ixA 1 (.tmp 22) (.tmp 23), 0, false⟩,⟨none, none, .st none 1 (.tmp 30) (.tmp 29), 0, false⟩]))
 (.regN [1, 3, 4, 5] [
 ⟨some 20, none, .mv (.tmp 5), 0, false⟩,⟨some 21, none, .bini .add (.tmp 20) (.con (.val (.int .i64 1))), 0, false⟩,⟨some 5, none, .mv (.tmp 21), 0, false⟩])))
def t39L2 : AC := (.seq (.seq (.regN [1, 3, 4, 6, 7, 8, 9, 10] [
 ⟨some 47, none, .mv (.tmp 10), 0, false⟩,⟨some 48, none, .bini .geq (.tmp 47) (.con (.val (.int .i64 0))), 0, false⟩])
 (.cond (.tmp 48)
 .skip
 (.exit 6)))
 (.seq (.block 7
 (.seq (.regD [1, 3, 4, 6, 7, 8, 9, 10] 0 [
 ⟨some 51, none, .ldA (some 1) 2 (.tmp 1), 0, false⟩,⟨some 52, none, .mv (.tmp 4), 0, false⟩,⟨some 53, none, .mv (.tmp 9), 0, false⟩,⟨some 54, none, .mv (.tmp 8), 0, false⟩,⟨some 55, none, .mv (.tmp 10), 0, false⟩,⟨some 56, none, .ixA 1 (.tmp 54) (.tmp 55), 0, false⟩,⟨some 57, none, .ld1 none (.tmp 56), 0, false⟩,⟨some 58, none, .call 58 [(.tmp 51), (.tmp 52), (.tmp 53), (.tmp 57)], 0, true⟩])
 (.cond (.tmp 58)
 (.regN [1, 3, 4, 6, 7, 8, 9, 10] [
 ⟨some 59, none, .mv (.tmp 7), 0, false⟩,⟨some 60, none, .mv (.tmp 9), 0, false⟩,⟨some 61, none, .mv (.tmp 10), 0, false⟩,⟨some 62, none, .ixA 1 (.tmp 59) (.tmp 60), 0, false⟩,⟨none, none, .st none 1 (.tmp 62) (.tmp 61), 0, false⟩])
 .skip)))
 (.regN [1, 3, 4, 6, 7, 8, 9, 10] [
 ⟨some 49, none, .mv (.tmp 10), 0, false⟩,⟨some 50, none, .bini .sub (.tmp 49) (.con (.val (.int .i64 1))), 0, false⟩,⟨some 10, none, .mv (.tmp 50), 0, false⟩])))
def t39L3 : AC := (.seq (.seq (.regN [1, 3, 4, 6, 7, 8, 9] [
 ⟨some 34, none, .mv (.tmp 9), 0, false⟩,⟨some 35, none, .mv (.tmp 3), 0, false⟩,⟨some 36, none, .bini .leq (.tmp 34) (.tmp 35), 0, false⟩])
 (.cond (.tmp 36)
 .skip
 (.exit 4)))
 (.seq (.block 5
 (.seq (.regN [1, 3, 4, 6, 7, 8, 9] [
 ⟨some 39, none, .mv (.tmp 7), 0, false⟩,⟨some 40, none, .mv (.tmp 9), 0, false⟩,⟨some 41, none, .mv (.tmp 8), 0, false⟩,⟨some 42, none, .len false (.tmp 41), 0, false⟩,⟨some 43, none, .ixA 1 (.tmp 39) (.tmp 40), 0, false⟩,⟨none, none, .st none 1 (.tmp 43) (.tmp 42), 0, false⟩])
 (.seq (.seq (.regN [1, 3, 4, 6, 7, 8, 9] [
 ⟨some 44, none, .mv (.tmp 8), 0, false⟩,⟨some 45, none, .len false (.tmp 44), 0, false⟩,⟨some 46, none, .bini .sub (.tmp 45) (.con (.val (.int .i64 1))), 0, false⟩,⟨some 10, none, .mv (.tmp 46), 0, false⟩])
 (.block 6
 (.loop [1, 3, 4, 6, 7, 8, 9, 10] t39L2)))
 (.seq (.regN [1, 3, 4, 6, 7, 8, 9] [
 ⟨some 63, none, .mv (.tmp 7), 0, false⟩,⟨some 64, none, .mv (.tmp 9), 0, false⟩,⟨some 65, none, .ixA 1 (.tmp 63) (.tmp 64), 0, false⟩,⟨some 66, none, .ld1 none (.tmp 65), 0, false⟩,⟨some 67, none, .mv (.tmp 8), 0, false⟩,⟨some 68, none, .len false (.tmp 67), 0, false⟩,⟨some 69, none, .bini .eql (.tmp 66) (.tmp 68), 0, false⟩])
 (.cond (.tmp 69)
 (.regN [1, 3, 4, 6, 7, 8, 9] [
 ⟨some 70, none, .mv (.tmp 8), 0, false⟩,⟨some 71, none, .mv (.tmp 9), 0, false⟩,⟨some 72, none, .buildS 1 [(.val (.int .i64 0))] [(0, 1, (.tmp 71))], 0, false⟩,⟨some 73, none, .app 1 8 (.tmp 70) (.tmp 72), 0, false⟩,⟨some 8, none, .mv (.tmp 73), 0, false⟩])
 .skip)))))
 (.regN [1, 3, 4, 6, 7, 8, 9] [
 ⟨some 37, none, .mv (.tmp 9), 0, false⟩,⟨some 38, none, .bini .add (.tmp 37) (.con (.val (.int .i64 1))), 0, false⟩,⟨some 9, none, .mv (.tmp 38), 0, false⟩])))
def t39L4 : AC := (.block 3
 (.seq (.regN [1, 3, 4, 6] [
 ⟨some 31, none, .mv (.tmp 3), 0, false⟩,⟨some 32, none, .bini .add (.tmp 31) (.con (.val (.int .i64 1))), 0, false⟩,⟨some 33, none, .mks 1 8 [(.val (.int .i64 0))] (.tmp 32), 0, false⟩,⟨some 7, none, .mv (.tmp 33), 0, false⟩])
 (.seq (.regN [1, 3, 4, 6, 7] [
 ⟨some 8, none, .mv (.con .e0), 0, false⟩])
 (.seq (.seq (.regN [1, 3, 4, 6, 7, 8] [
 ⟨some 9, none, .mv (.con (.val (.int .i64 0))), 0, false⟩])
 (.block 4
 (.loop [1, 3, 4, 6, 7, 8, 9] t39L3)))
 (.seq (.seq (.regN [1, 3, 6, 7, 8] [
 ⟨some 74, none, .mv (.tmp 8), 0, false⟩,⟨some 75, none, .len false (.tmp 74), 0, false⟩,⟨some 76, none, .mv (.tmp 6), 0, false⟩,⟨some 77, none, .bini .eql (.tmp 75) (.tmp 76), 0, false⟩])
 (.cond (.tmp 77)
 (.seq (.regN [7] [
 ⟨some 78, none, .mv (.tmp 7), 0, false⟩,⟨some 2, none, .mv (.tmp 78), 0, false⟩])
 .ret)
 .skip))
 (.regN [1, 3, 7, 8] [
 ⟨some 79, none, .mv (.tmp 7), 0, false⟩,⟨some 80, none, .mv (.tmp 8), 0, false⟩,⟨some 81, none, .len false (.tmp 80), 0, false⟩,⟨some 4, none, .mv (.tmp 79), 0, false⟩,⟨some 6, none, .mv (.tmp 81), 0, false⟩]))))))
def t39B : AC := (.seq (.regN [0] [
 ⟨some 1, none, .boxR 2 (.tmp 0), 0, false⟩,⟨some 2, none, .mv (.con .e0), 0, false⟩])
 (.seq (.regN [1] [
 ⟨some 11, none, .fldA 1 (.tmp 1), 0, false⟩,⟨some 12, none, .ld1 (some 1) (.tmp 11), 0, false⟩,⟨some 13, none, .len false (.tmp 12), 0, false⟩,⟨some 3, none, .mv (.tmp 13), 0, false⟩])
 (.seq (.regN [1, 3] [
 ⟨some 14, none, .mv (.tmp 3), 0, false⟩,⟨some 15, none, .bini .add (.tmp 14) (.con (.val (.int .i64 1))), 0, false⟩,⟨some 16, none, .mks 1 8 [(.val (.int .i64 0))] (.tmp 15), 0, false⟩,⟨some 4, none, .mv (.tmp 16), 0, false⟩])
 (.seq (.seq (.regN [1, 3, 4] [
 ⟨some 5, none, .mv (.con (.val (.int .i64 0))), 0, false⟩])
 (.block 0
 (.loop [1, 3, 4, 5] t39L1)))
 (.seq (.regN [1, 3, 4] [
 ⟨some 6, none, .mv (.con (.val (.int .i64 0))), 0, false⟩])
 (.block 2
 (.loop [1, 3, 4, 6] t39L4)))))))
def t39 : AFn := ⟨1, t39B,
 [.tmp 2], true⟩
/-- viewport/viewportref05.alike  -/
def t58L1 : AC := (.seq (.seq (.regN [1, 2, 3, 4, 9] [
 ⟨some 19, none, .mv (.tmp 9), 0, false⟩,⟨some 20, none, .bini .lss (.tmp 19) (.con (.val (.int .i64 256))), 0, false⟩])
 (.cond (.tmp 20)
 .skip
 (.exit 0)))
 (.seq (.block 1
 (.seq (.regD [1, 2, 3, 4, 9] 0 [
 ⟨some 23, none, .mv (.tmp 1), 0, false⟩,⟨some 24, none, .ldA (some 4) 2 (.tmp 4), 0, false⟩,⟨some 25, none, .mv (.tmp 2), 0, false⟩,⟨some 26, none, .mv (.tmp 9), 0, false⟩,⟨some 27, none, .call 40 [(.tmp 24), (.tmp 25), (.tmp 26)], 0, false⟩,⟨some 28, none, .ixA 1 (.tmp 23) (.tmp 27), 0, false⟩,⟨some 29, none, .ld1 none (.tmp 28), 0, false⟩,⟨some 30, none, .mv (.tmp 1), 0, false⟩,⟨some 31, none, .ldA (some 4) 2 (.tmp 4), 0, false⟩,⟨some 32, none, .mv (.tmp 3), 0, false⟩,⟨some 33, none, .mv (.tmp 9), 0, false⟩,⟨some 34, none, .call 40 [(.tmp 31), (.tmp 32), (.tmp 33)], 0, false⟩,⟨some 35, none, .ixA 1 (.tmp 30) (.tmp 34), 0, false⟩,⟨some 36, none, .ld1 none (.tmp 35), 0, false⟩,⟨some 37, none, .bini .neq (.tmp 29) (.tmp 36), 0, false⟩])
 (.cond (.tmp 37)
 (.seq (.regN [] [
 ⟨some 8, none, .mv (.con (.val (.bool false))), 0, false⟩])
 .ret)
 .skip)))
 (.regN [1, 2, 3, 4, 9] [
 ⟨some 21, none, .mv (.tmp 9), 0, false⟩,⟨some 22, none, .bini .add (.tmp 21) (.con (.val (.int .i64 1))), 0, false⟩,⟨some 9, none, .mv (.tmp 22), 0, false⟩])))
def t58B : AC := (.seq (.regN [0, 1, 2, 3] [
 ⟨some 4, none, .boxR 2 (.tmp 0), 0, false⟩,⟨some 8, none, .mv (.con (.val (.bool false))), 0, false⟩])
 (.seq (.seq (.regD [1, 2, 3, 4] 0 [
 ⟨some 10, none, .mv (.tmp 1), 0, false⟩,⟨some 11, none, .mv (.tmp 2), 0, false⟩,⟨some 12, none, .ixA 1 (.tmp 10) (.tmp 11), 0, false⟩,⟨some 13, none, .ld1 none (.tmp 12), 0, false⟩,⟨some 14, none, .mv (.tmp 1), 0, false⟩,⟨some 15, none, .mv (.tmp 3), 0, false⟩,⟨some 16, none, .ixA 1 (.tmp 14) (.tmp 15), 0, false⟩,⟨some 17, none, .ld1 none (.tmp 16), 0, false⟩,⟨some 18, none, .bini .neq (.tmp 13) (.tmp 17), 0, false⟩])
 (.cond (.tmp 18)
 (.seq (.regN [] [
 ⟨some 8, none, .mv (.con (.val (.bool false))), 0, false⟩])
 .ret)
 .skip))
 (.seq (.seq (.regN [1, 2, 3, 4] [
 ⟨some 9, none, .mv (.con (.val (.int .i64 0))), 0, false⟩])
 (.block 0
 (.loop [1, 2, 3, 4, 9] t58L1)))
 (.seq (.regN [] [
 ⟨some 8, none, .mv (.con (.val (.bool true))), 0, false⟩])
 .ret))))
def t58 : AFn := ⟨4, t58B,
 [.tmp 8], true⟩
/-- viewport/viewportref05.to  -/
def t40B : AC := (.seq (.regN [0, 1, 2] [
 ⟨some 3, none, .boxR 2 (.tmp 0), 0, false⟩,⟨some 6, none, .mv (.con (.val (.int .i64 0))), 0, false⟩])
 (.seq (.regN [1, 2, 3] [
 ⟨some 8, none, .fldA 1 (.tmp 3), 0, false⟩,⟨some 9, none, .ld1 (some 3) (.tmp 8), 0, false⟩,⟨some 10, none, .len false (.tmp 9), 0, false⟩,⟨some 7, none, .mv (.tmp 10), 0, false⟩])
 (.seq (.seq (.regN [1, 2, 3, 7] [
 ⟨some 11, none, .mv (.tmp 1), 0, false⟩,⟨some 12, none, .mv (.tmp 7), 0, false⟩,⟨some 13, none, .bini .eql (.tmp 11) (.tmp 12), 0, false⟩,⟨some 14, none, .mv (.tmp 13), 0, false⟩,⟨some 15, some (14, false), .fldA 0 (.tmp 3), 0, false⟩,⟨some 16, some (14, false), .ld1 (some 3) (.tmp 15), 0, false⟩,⟨some 17, some (14, false), .mv (.tmp 1), 0, false⟩,⟨some 18, some (14, false), .bini .mul (.con (.val (.int .i64 256))) (.tmp 17), 0, false⟩,⟨some 19, some (14, false), .mv (.tmp 2), 0, false⟩,⟨some 20, some (14, false), .bini .add (.tmp 18) (.tmp 19), 0, false⟩,⟨some 21, some (14, false), .ixA 1 (.tmp 16) (.tmp 20), 0, false⟩,⟨some 22, some (14, false), .ld1 none (.tmp 21), 0, false⟩,⟨some 23, some (14, false), .bini .lss (.tmp 22) (.con (.val (.int .i64 0))), 0, false⟩,⟨some 24, none, .pick (.tmp 14) (.con (.val (.bool true))) (.tmp 23), 0, false⟩])
 (.cond (.tmp 24)
 (.seq (.regN [7] [
 ⟨some 25, none, .mv (.tmp 7), 0, false⟩,⟨some 6, none, .mv (.tmp 25), 0, false⟩])
 .ret)
 .skip))
 (.seq (.regN [1, 2, 3] [
 ⟨some 26, none, .fldA 0 (.tmp 3), 0, false⟩,⟨some 27, none, .ld1 (some 3) (.tmp 26), 0, false⟩,⟨some 28, none, .mv (.tmp 1), 0, false⟩,⟨some 29, none, .bini .mul (.con (.val (.int .i64 256))) (.tmp 28), 0, false⟩,⟨some 30, none, .mv (.tmp 2), 0, false⟩,⟨some 31, none, .bini .add (.tmp 29) (.tmp 30), 0, false⟩,⟨some 32, none, .ixA 1 (.tmp 27) (.tmp 31), 0, false⟩,⟨some 33, none, .ld1 none (.tmp 32), 0, false⟩,⟨some 6, none, .mv (.tmp 33), 0, false⟩])
 .ret))))
def t40 : AFn := ⟨3, t40B,
 [.tmp 6], true⟩
/-- viewport/viewportref05.Witness  -/
def t23L1 : AC := (.seq (.seq (.regN [2, 3, 6, 7, 8, 9] [
 ⟨some 51, none, .mv (.tmp 9), 0, false⟩,⟨some 52, none, .bini .lss (.tmp 51) (.con (.val (.int .i64 256))), 0, false⟩])
 (.cond (.tmp 52)
 .skip
 (.exit 2)))
 (.seq (.block 3
 (.seq (.regD [2, 3, 6, 7, 8, 9] 0 [
 ⟨some 55, none, .ldA (some 2) 2 (.tmp 2), 0, false⟩,⟨some 56, none, .mv (.tmp 6), 0, false⟩,⟨some 57, none, .mv (.tmp 8), 0, false⟩,⟨some 58, none, .ixA 3 (.tmp 56) (.tmp 57), 0, false⟩,⟨some 59, none, .fldA 0 (.tmp 58), 0, false⟩,⟨some 60, none, .ld1 none (.tmp 59), 0, false⟩,⟨some 61, none, .mv (.tmp 9), 0, false⟩,⟨some 62, none, .call 42 [(.tmp 55), (.tmp 60), (.tmp 61)], 0, false⟩,⟨some 63, none, .ldA (some 3) 2 (.tmp 3), 0, false⟩,⟨some 64, none, .mv (.tmp 6), 0, false⟩,⟨some 65, none, .mv (.tmp 8), 0, false⟩,⟨some 66, none, .ixA 3 (.tmp 64) (.tmp 65), 0, false⟩,⟨some 67, none, .fldA 1 (.tmp 66), 0, false⟩,⟨some 68, none, .ld1 none (.tmp 67), 0, false⟩,⟨some 69, none, .mv (.tmp 9), 0, false⟩,⟨some 70, none, .call 42 [(.tmp 63), (.tmp 68), (.tmp 69)], 0, true⟩,⟨some 10, none, .mv (.tmp 62), 0, false⟩,⟨some 11, none, .mv (.tmp 70), 0, false⟩])
 (.seq (.regN [2, 3, 6, 7, 8, 9, 10, 11] [
 ⟨some 71, none, .mv (.tmp 7), 0, false⟩,⟨some 72, none, .mv (.tmp 10), 0, false⟩,⟨some 73, none, .mv (.tmp 11), 0, false⟩,⟨some 74, none, .build [(.val (.int .i64 0)), (.val (.int .i64 0))] [(0, 1, (.tmp 72)), (1, 1, (.tmp 73))], 0, false⟩,⟨some 75, none, .mlk true [1, 1] (.val (.int .i64 0)) false (.tmp 71) (.tmp 74), 0, false⟩,⟨some 76, none, .bini .eql (.tmp 75) (.con (.val (.int .i64 0))), 0, false⟩])
 (.cond (.tmp 76)
 (.seq (.regN [2, 3, 6, 7, 8, 9, 10, 11] [
 ⟨some 77, none, .mv (.tmp 7), 0, false⟩,⟨some 78, none, .mv (.tmp 10), 0, false⟩,⟨some 79, none, .mv (.tmp 11), 0, false⟩,⟨some 80, none, .build [(.val (.int .i64 0)), (.val (.int .i64 0))] [(0, 1, (.tmp 78)), (1, 1, (.tmp 79))], 0, false⟩,⟨none, none, .mup true [1, 1] (.tmp 77) (.tmp 80) (.con (.val (.int .i64 1))), 0, false⟩])
 (.regD [2, 3, 6, 7, 8, 9, 10, 11] 0 [
 ⟨some 81, none, .mv (.tmp 6), 0, false⟩,⟨some 82, none, .mv (.tmp 10), 0, false⟩,⟨some 83, none, .mv (.tmp 11), 0, false⟩,⟨some 84, none, .mv (.tmp 6), 0, false⟩,⟨some 85, none, .mv (.tmp 8), 0, false⟩,⟨some 86, none, .ixA 3 (.tmp 84) (.tmp 85), 0, false⟩,⟨some 87, none, .fldA 2 (.tmp 86), 0, false⟩,⟨some 88, none, .ld1 none (.tmp 87), 0, false⟩,⟨some 89, none, .mv (.tmp 9), 0, false⟩,⟨some 90, none, .cvi .u8 (.tmp 89), 0, false⟩,⟨some 91, none, .buildS 1 [(.val (.int .u8 0))] [(0, 1, (.tmp 90))], 0, false⟩,⟨some 92, none, .b2s (.tmp 91), 0, false⟩,⟨some 93, none, .bins .add (.tmp 88) (.tmp 92), 0, false⟩,⟨some 94, none, .build [(.val (.int .i64 0)), (.val (.int .i64 0)), (.val (.string ⟨#[]⟩))] [(0, 1, (.tmp 82)), (1, 1, (.tmp 83)), (2, 1, (.tmp 93))], 0, false⟩,⟨some 95, none, .buildS 1 [(.val (.int .i64 0)), (.val (.int .i64 0)), (.val (.string ⟨#[]⟩))] [(0, 3, (.tmp 94))], 0, false⟩,⟨some 96, none, .app 3 32 (.tmp 81) (.tmp 95), 0, false⟩,⟨some 6, none, .mv (.tmp 96), 0, false⟩]))
 .skip))))
 (.regN [2, 3, 6, 7, 8, 9] [
 ⟨some 53, none, .mv (.tmp 9), 0, false⟩,⟨some 54, none, .bini .add (.tmp 53) (.con (.val (.int .i64 1))), 0, false⟩,⟨some 9, none, .mv (.tmp 54), 0, false⟩])))
def t23L2 : AC := (.seq (.seq (.regN [2, 3, 6, 7, 8] [
 ⟨some 25, none, .mv (.tmp 8), 0, false⟩,⟨some 26, none, .mv (.tmp 6), 0, false⟩,⟨some 27, none, .len false (.tmp 26), 0, false⟩,⟨some 28, none, .bini .lss (.tmp 25) (.tmp 27), 0, false⟩])
 (.cond (.tmp 28)
 .skip
 (.exit 0)))
 (.seq (.block 1
 (.seq (.seq (.regD [2, 3, 6, 7, 8] 0 [
 ⟨some 31, none, .ldA (some 2) 2 (.tmp 2), 0, false⟩,⟨some 32, none, .mv (.tmp 6), 0, false⟩,⟨some 33, none, .mv (.tmp 8), 0, false⟩,⟨some 34, none, .ixA 3 (.tmp 32) (.tmp 33), 0, false⟩,⟨some 35, none, .fldA 0 (.tmp 34), 0, false⟩,⟨some 36, none, .ld1 none (.tmp 35), 0, false⟩,⟨some 37, none, .call 41 [(.tmp 31), (.tmp 36)], 0, false⟩,⟨some 38, none, .ldA (some 3) 2 (.tmp 3), 0, false⟩,⟨some 39, none, .mv (.tmp 6), 0, false⟩,⟨some 40, none, .mv (.tmp 8), 0, false⟩,⟨some 41, none, .ixA 3 (.tmp 39) (.tmp 40), 0, false⟩,⟨some 42, none, .fldA 1 (.tmp 41), 0, false⟩,⟨some 43, none, .ld1 none (.tmp 42), 0, false⟩,⟨some 44, none, .call 41 [(.tmp 38), (.tmp 43)], 0, true⟩,⟨some 45, none, .bini .neq (.tmp 37) (.tmp 44), 0, false⟩])
 (.cond (.tmp 45)
 (.seq (.regN [6, 8] [
 ⟨some 46, none, .mv (.tmp 6), 0, false⟩,⟨some 47, none, .mv (.tmp 8), 0, false⟩,⟨some 48, none, .ixA 3 (.tmp 46) (.tmp 47), 0, false⟩,⟨some 49, none, .fldA 2 (.tmp 48), 0, false⟩,⟨some 50, none, .ld1 none (.tmp 49), 0, false⟩,⟨some 4, none, .mv (.tmp 50), 0, false⟩,⟨some 5, none, .mv (.con (.val (.bool true))), 0, false⟩])
 .ret)
 .skip))
 (.seq (.regN [2, 3, 6, 7, 8] [
 ⟨some 9, none, .mv (.con (.val (.int .i64 0))), 0, false⟩])
 (.block 2
 (.loop [2, 3, 6, 7, 8, 9] t23L1)))))
 (.regN [2, 3, 6, 7, 8] [
 ⟨some 29, none, .mv (.tmp 8), 0, false⟩,⟨some 30, none, .bini .add (.tmp 29) (.con (.val (.int .i64 1))), 0, false⟩,⟨some 8, none, .mv (.tmp 30), 0, false⟩])))
def t23B : AC := (.seq (.regN [0, 1] [
 ⟨some 2, none, .boxR 2 (.tmp 0), 0, false⟩,⟨some 3, none, .boxR 2 (.tmp 1), 0, false⟩,⟨some 4, none, .mv (.con (.val (.string ⟨#[]⟩))), 0, false⟩,⟨some 5, none, .mv (.con (.val (.bool false))), 0, false⟩])
 (.seq (.seq (.regN [2, 3] [
 ⟨some 12, none, .ldA (some 2) 2 (.tmp 2), 0, false⟩,⟨some 13, none, .call 11 [(.tmp 12)], 0, false⟩,⟨some 14, none, .bini .neq (.tmp 13) (.con (.val (.int .i64 0))), 0, false⟩,⟨some 15, none, .mv (.tmp 14), 0, false⟩,⟨some 16, some (15, false), .ldA (some 3) 2 (.tmp 3), 0, false⟩,⟨some 17, some (15, false), .call 11 [(.tmp 16)], 0, false⟩,⟨some 18, some (15, false), .bini .neq (.tmp 17) (.con (.val (.int .i64 0))), 0, false⟩,⟨some 19, none, .pick (.tmp 15) (.con (.val (.bool true))) (.tmp 18), 0, false⟩])
 (.cond (.tmp 19)
 (.seq (.regN [] [
 ⟨some 4, none, .mv (.con (.val (.string ⟨#[]⟩))), 0, false⟩,⟨some 5, none, .mv (.con (.val (.bool false))), 0, false⟩])
 .ret)
 .skip))
 (.seq (.regN [2, 3] [
 ⟨some 20, none, .build [(.val (.int .i64 0)), (.val (.int .i64 0)), (.val (.string ⟨#[]⟩))] [], 0, false⟩,⟨some 21, none, .buildH 1 3 [(.val (.int .i64 0)), (.val (.int .i64 0)), (.val (.string ⟨#[]⟩))] [(0, 3, (.tmp 20))], 0, false⟩,⟨some 6, none, .mv (.tmp 21), 0, false⟩])
 (.seq (.regN [2, 3, 6] [
 ⟨some 22, none, .mkm, 0, false⟩,⟨some 23, none, .build [(.val (.int .i64 0)), (.val (.int .i64 0))] [(0, 1, (.con (.val (.int .i64 0)))), (1, 1, (.con (.val (.int .i64 0))))], 0, false⟩,⟨none, none, .mup true [1, 1] (.tmp 22) (.tmp 23) (.con (.val (.int .i64 1))), 0, false⟩,⟨some 24, none, .mv (.tmp 22), 0, false⟩,⟨some 7, none, .mv (.tmp 24), 0, false⟩])
 (.seq (.seq (.regN [2, 3, 6, 7] [
 ⟨some 8, none, .mv (.con (.val (.int .i64 0))), 0, false⟩])
 (.block 0
 (.loop [2, 3, 6, 7, 8] t23L2)))
 (.seq (.regN [] [
 ⟨some 4, none, .mv (.con (.val (.string ⟨#[]⟩))), 0, false⟩,⟨some 5, none, .mv (.con (.val (.bool false))), 0, false⟩])
 .ret))))))
def t23 : AFn := ⟨2, t23B,
 [.tmp 4, .tmp 5], true⟩
/-- viewport/viewportref05.end  -/
def t41B : AC := (.seq (.regN [0, 1] [
 ⟨some 2, none, .boxR 2 (.tmp 0), 0, false⟩,⟨some 4, none, .mv (.con (.val (.int .i64 0))), 0, false⟩])
 (.seq (.seq (.regN [1, 2] [
 ⟨some 5, none, .mv (.tmp 1), 0, false⟩,⟨some 6, none, .bini .lss (.tmp 5) (.con (.val (.int .i64 0))), 0, false⟩])
 (.cond (.tmp 6)
 (.seq (.regN [] [
 ⟨some 4, none, .mv (.con (.val (.int .i64 (-1)))), 0, false⟩])
 .ret)
 .skip))
 (.seq (.regN [1, 2] [
 ⟨some 7, none, .fldA 1 (.tmp 2), 0, false⟩,⟨some 8, none, .ld1 (some 2) (.tmp 7), 0, false⟩,⟨some 9, none, .mv (.tmp 1), 0, false⟩,⟨some 10, none, .ixA 1 (.tmp 8) (.tmp 9), 0, false⟩,⟨some 11, none, .ld1 none (.tmp 10), 0, false⟩,⟨some 4, none, .mv (.tmp 11), 0, false⟩])
 .ret)))
def t41 : AFn := ⟨2, t41B,
 [.tmp 4], true⟩
/-- viewport/viewportref05.after  -/
def t42B : AC := (.seq (.regN [0, 1, 2] [
 ⟨some 3, none, .boxR 2 (.tmp 0), 0, false⟩,⟨some 6, none, .mv (.con (.val (.int .i64 0))), 0, false⟩])
 (.seq (.seq (.regN [1, 2, 3] [
 ⟨some 7, none, .mv (.tmp 1), 0, false⟩,⟨some 8, none, .bini .lss (.tmp 7) (.con (.val (.int .i64 0))), 0, false⟩])
 (.cond (.tmp 8)
 (.seq (.regN [] [
 ⟨some 6, none, .mv (.con (.val (.int .i64 (-1)))), 0, false⟩])
 .ret)
 .skip))
 (.seq (.regN [1, 2, 3] [
 ⟨some 9, none, .fldA 0 (.tmp 3), 0, false⟩,⟨some 10, none, .ld1 (some 3) (.tmp 9), 0, false⟩,⟨some 11, none, .mv (.tmp 1), 0, false⟩,⟨some 12, none, .bini .mul (.con (.val (.int .i64 256))) (.tmp 11), 0, false⟩,⟨some 13, none, .mv (.tmp 2), 0, false⟩,⟨some 14, none, .bini .add (.tmp 12) (.tmp 13), 0, false⟩,⟨some 15, none, .ixA 1 (.tmp 10) (.tmp 14), 0, false⟩,⟨some 16, none, .ld1 none (.tmp 15), 0, false⟩,⟨some 6, none, .mv (.tmp 16), 0, false⟩])
 .ret)))
def t42 : AFn := ⟨3, t42B,
 [.tmp 6], true⟩
/-- viewport/least.Short  -/
def t14B : AC := (.seq (.regN [0, 1] [
 ⟨some 2, none, .boxH 2 (.tmp 0), 0, false⟩,⟨some 3, none, .boxH 1 (.tmp 1), 0, false⟩,⟨some 4, none, .mv (.con (.val (.string ⟨#[]⟩))), 0, false⟩,⟨some 5, none, .mv (.con (.val (.bool false))), 0, false⟩])
 (.seq (.seq (.regN [2, 3] [
 ⟨some 6, none, .ld1 none (.tmp 3), 0, false⟩,⟨some 7, none, .bini .lss (.tmp 6) (.con (.val (.int .i64 0))), 0, false⟩,⟨some 8, none, .mv (.tmp 7), 0, false⟩,⟨some 9, some (8, false), .ldA none 2 (.tmp 2), 0, false⟩,⟨some 10, some (8, false), .call 27 [(.tmp 9)], 0, false⟩,⟨some 11, some (8, false), .bini .neq (.tmp 10) (.con (.val (.int .i64 0))), 0, false⟩,⟨some 12, none, .pick (.tmp 8) (.con (.val (.bool true))) (.tmp 11), 0, false⟩])
 (.cond (.tmp 12)
 (.seq (.regN [] [
 ⟨some 4, none, .mv (.con (.val (.string ⟨#[]⟩))), 0, false⟩,⟨some 5, none, .mv (.con (.val (.bool false))), 0, false⟩])
 .ret)
 .skip))
 (.seq (.regN [2, 3] [
 ⟨some 13, none, .ldA none 2 (.tmp 2), 0, false⟩,⟨some 14, none, .ldA none 2 (.tmp 2), 0, false⟩,⟨some 15, none, .mkf 32 [(.tmp 2), (.tmp 3)], 0, false⟩,⟨some 16, none, .call 31 [(.tmp 13), (.tmp 14), (.tmp 15)], 0, false⟩,⟨some 17, none, .ext (.tmp 16) 0, 0, false⟩,⟨some 18, none, .ext (.tmp 16) 1, 0, false⟩,⟨some 4, none, .mv (.tmp 17), 0, false⟩,⟨some 5, none, .mv (.tmp 18), 0, false⟩])
 .ret)))
def t14 : AFn := ⟨2, t14B,
 [.tmp 4, .tmp 5], true⟩
/-- viewport/least.Short$1  -/
def t32B : AC := (.seq (.regN [0, 2, 3] [
 ⟨some 6, none, .mv (.con (.val (.bool false))), 0, false⟩])
 (.seq (.regD [0, 2, 3] 0 [
 ⟨some 7, none, .ldA none 2 (.tmp 2), 0, false⟩,⟨some 8, none, .mv (.tmp 0), 0, false⟩,⟨some 9, none, .call 33 [(.tmp 7), (.tmp 8)], 0, false⟩,⟨some 10, none, .ld1 none (.tmp 3), 0, false⟩,⟨some 11, none, .bini .eql (.tmp 9) (.tmp 10), 0, false⟩,⟨some 6, none, .mv (.tmp 11), 0, false⟩])
 .ret))
def t32 : AFn := ⟨4, t32B,
 [.tmp 6], true⟩
/-- viewport/viewportref05.Short  -/
def t24L1 : AC := (.seq (.seq (.regN [1, 2, 6, 7, 8, 9] [
 ⟨some 44, none, .mv (.tmp 9), 0, false⟩,⟨some 45, none, .bini .lss (.tmp 44) (.con (.val (.int .i64 256))), 0, false⟩])
 (.cond (.tmp 45)
 .skip
 (.exit 2)))
 (.seq (.block 3
 (.seq (.regD [1, 2, 6, 7, 8, 9] 0 [
 ⟨some 48, none, .ldA (some 2) 2 (.tmp 2), 0, false⟩,⟨some 49, none, .mv (.tmp 6), 0, false⟩,⟨some 50, none, .mv (.tmp 8), 0, false⟩,⟨some 51, none, .ixA 3 (.tmp 49) (.tmp 50), 0, false⟩,⟨some 52, none, .fldA 0 (.tmp 51), 0, false⟩,⟨some 53, none, .ld1 none (.tmp 52), 0, false⟩,⟨some 54, none, .mv (.tmp 9), 0, false⟩,⟨some 55, none, .call 42 [(.tmp 48), (.tmp 53), (.tmp 54)], 0, true⟩,⟨some 10, none, .mv (.tmp 55), 0, false⟩])
 (.seq (.regN [1, 2, 6, 7, 8, 9, 10] [
 ⟨some 56, none, .mv (.tmp 10), 0, false⟩,⟨some 57, none, .bini .geq (.tmp 56) (.con (.val (.int .i64 0))), 0, false⟩,⟨some 58, none, .mv (.tmp 57), 0, false⟩,⟨some 59, some (58, true), .mv (.tmp 7), 0, false⟩,⟨some 60, some (58, true), .mv (.tmp 10), 0, false⟩,⟨some 61, some (58, true), .mlk false [1] (.val (.int .i64 0)) false (.tmp 59) (.tmp 60), 0, false⟩,⟨some 62, some (58, true), .bini .eql (.tmp 61) (.con (.val (.int .i64 0))), 0, false⟩,⟨some 63, none, .pick (.tmp 58) (.tmp 62) (.con (.val (.bool false))), 0, false⟩])
 (.cond (.tmp 63)
 (.seq (.regN [1, 2, 6, 7, 8, 9, 10] [
 ⟨some 64, none, .mv (.tmp 7), 0, false⟩,⟨some 65, none, .mv (.tmp 10), 0, false⟩,⟨none, none, .mup false [1] (.tmp 64) (.tmp 65) (.con (.val (.int .i64 1))), 0, false⟩])
 (.regD [1, 2, 6, 7, 8, 9, 10] 0 [
 ⟨some 66, none, .mv (.tmp 6), 0, false⟩,⟨some 67, none, .mv (.tmp 10), 0, false⟩,⟨some 68, none, .mv (.tmp 6), 0, false⟩,⟨some 69, none, .mv (.tmp 8), 0, false⟩,⟨some 70, none, .ixA 3 (.tmp 68) (.tmp 69), 0, false⟩,⟨some 71, none, .fldA 2 (.tmp 70), 0, false⟩,⟨some 72, none, .ld1 none (.tmp 71), 0, false⟩,⟨some 73, none, .mv (.tmp 9), 0, false⟩,⟨some 74, none, .cvi .u8 (.tmp 73), 0, false⟩,⟨some 75, none, .buildS 1 [(.val (.int .u8 0))] [(0, 1, (.tmp 74))], 0, false⟩,⟨some 76, none, .b2s (.tmp 75), 0, false⟩,⟨some 77, none, .bins .add (.tmp 72) (.tmp 76), 0, false⟩,⟨some 78, none, .build [(.val (.int .i64 0)), (.val (.int .i64 0)), (.val (.string ⟨#[]⟩))] [(0, 1, (.tmp 67)), (2, 1, (.tmp 77))], 0, false⟩,⟨some 79, none, .buildS 1 [(.val (.int .i64 0)), (.val (.int .i64 0)), (.val (.string ⟨#[]⟩))] [(0, 3, (.tmp 78))], 0, false⟩,⟨some 80, none, .app 3 32 (.tmp 66) (.tmp 79), 0, false⟩,⟨some 6, none, .mv (.tmp 80), 0, false⟩]))
 .skip))))
 (.regN [1, 2, 6, 7, 8, 9] [
 ⟨some 46, none, .mv (.tmp 9), 0, false⟩,⟨some 47, none, .bini .add (.tmp 46) (.con (.val (.int .i64 1))), 0, false⟩,⟨some 9, none, .mv (.tmp 47), 0, false⟩])))
def t24L2 : AC := (.seq (.seq (.regN [1, 2, 6, 7, 8] [
 ⟨some 22, none, .mv (.tmp 8), 0, false⟩,⟨some 23, none, .mv (.tmp 6), 0, false⟩,⟨some 24, none, .len false (.tmp 23), 0, false⟩,⟨some 25, none, .bini .lss (.tmp 22) (.tmp 24), 0, false⟩])
 (.cond (.tmp 25)
 .skip
 (.exit 0)))
 (.seq (.block 1
 (.seq (.seq (.regD [1, 2, 6, 7, 8] 0 [
 ⟨some 28, none, .fldA 1 (.tmp 2), 0, false⟩,⟨some 29, none, .ld1 (some 2) (.tmp 28), 0, false⟩,⟨some 30, none, .mv (.tmp 6), 0, false⟩,⟨some 31, none, .mv (.tmp 8), 0, false⟩,⟨some 32, none, .ixA 3 (.tmp 30) (.tmp 31), 0, false⟩,⟨some 33, none, .fldA 0 (.tmp 32), 0, false⟩,⟨some 34, none, .ld1 none (.tmp 33), 0, false⟩,⟨some 35, none, .ixA 1 (.tmp 29) (.tmp 34), 0, false⟩,⟨some 36, none, .ld1 none (.tmp 35), 0, false⟩,⟨some 37, none, .mv (.tmp 1), 0, false⟩,⟨some 38, none, .bini .eql (.tmp 36) (.tmp 37), 0, false⟩])
 (.cond (.tmp 38)
 (.seq (.regN [6, 8] [
 ⟨some 39, none, .mv (.tmp 6), 0, false⟩,⟨some 40, none, .mv (.tmp 8), 0, false⟩,⟨some 41, none, .ixA 3 (.tmp 39) (.tmp 40), 0, false⟩,⟨some 42, none, .fldA 2 (.tmp 41), 0, false⟩,⟨some 43, none, .ld1 none (.tmp 42), 0, false⟩,⟨some 4, none, .mv (.tmp 43), 0, false⟩,⟨some 5, none, .mv (.con (.val (.bool true))), 0, false⟩])
 .ret)
 .skip))
 (.seq (.regN [1, 2, 6, 7, 8] [
 ⟨some 9, none, .mv (.con (.val (.int .i64 0))), 0, false⟩])
 (.block 2
 (.loop [1, 2, 6, 7, 8, 9] t24L1)))))
 (.regN [1, 2, 6, 7, 8] [
 ⟨some 26, none, .mv (.tmp 8), 0, false⟩,⟨some 27, none, .bini .add (.tmp 26) (.con (.val (.int .i64 1))), 0, false⟩,⟨some 8, none, .mv (.tmp 27), 0, false⟩])))
def t24B : AC := (.seq (.regN [0, 1] [
 ⟨some 2, none, .boxR 2 (.tmp 0), 0, false⟩,⟨some 4, none, .mv (.con (.val (.string ⟨#[]⟩))), 0, false⟩,⟨some 5, none, .mv (.con (.val (.bool false))), 0, false⟩])
 (.seq (.seq (.regN [1, 2] [
 ⟨some 11, none, .ldA (some 2) 2 (.tmp 2), 0, false⟩,⟨some 12, none, .call 11 [(.tmp 11)], 0, false⟩,⟨some 13, none, .bini .neq (.tmp 12) (.con (.val (.int .i64 0))), 0, false⟩,⟨some 14, none, .mv (.tmp 13), 0, false⟩,⟨some 15, some (14, false), .mv (.tmp 1), 0, false⟩,⟨some 16, some (14, false), .bini .lss (.tmp 15) (.con (.val (.int .i64 0))), 0, false⟩,⟨some 17, none, .pick (.tmp 14) (.con (.val (.bool true))) (.tmp 16), 0, false⟩])
 (.cond (.tmp 17)
 (.seq (.regN [] [
 ⟨some 4, none, .mv (.con (.val (.string ⟨#[]⟩))), 0, false⟩,⟨some 5, none, .mv (.con (.val (.bool false))), 0, false⟩])
 .ret)
 .skip))
 (.seq (.regN [1, 2] [
 ⟨some 18, none, .build [(.val (.int .i64 0)), (.val (.int .i64 0)), (.val (.string ⟨#[]⟩))] [], 0, false⟩,⟨some 19, none, .buildH 1 3 [(.val (.int .i64 0)), (.val (.int .i64 0)), (.val (.string ⟨#[]⟩))] [(0, 3, (.tmp 18))], 0, false⟩,⟨some 6, none, .mv (.tmp 19), 0, false⟩])
 (.seq (.regN [1, 2, 6] [
 ⟨some 20, none, .mkm, 0, false⟩,⟨none, none, .mup false [1] (.tmp 20) (.con (.val (.int .i64 0))) (.con (.val (.int .i64 1))), 0, false⟩,⟨some 21, none, .mv (.tmp 20), 0, false⟩,⟨some 7, none, .mv (.tmp 21), 0, false⟩])
 (.seq (.seq (.regN [1, 2, 6, 7] [
 ⟨some 8, none, .mv (.con (.val (.int .i64 0))), 0, false⟩])
 (.block 0
 (.loop [1, 2, 6, 7, 8] t24L2)))
 (.seq (.regN [] [
 ⟨some 4, none, .mv (.con (.val (.string ⟨#[]⟩))), 0, false⟩,⟨some 5, none, .mv (.con (.val (.bool false))), 0, false⟩])
 .ret))))))
def t24 : AFn := ⟨2, t24B,
 [.tmp 4, .tmp 5], true⟩
/-- viewport/viewportref05.Live  -/
def t25L1 : AC := (.seq (.seq (.regN [1, 3, 4, 5] [
 ⟨some 18, none, .mv (.tmp 5), 0, false⟩,⟨some 19, none, .mv (.tmp 3), 0, false⟩,⟨some 20, none, .bini .lss (.tmp 18) (.tmp 19), 0, false⟩])
 (.cond (.tmp 20)
 .skip
 (.exit 0)))
 (.seq (.block 1
 (.regN [1, 3, 4, 5] [
 ⟨some 23, none, .mv (.tmp 4), 0, false⟩,⟨some 24, none, .mv (.tmp 5), 0, false⟩,⟨some 25, none, .fldA 1 (.tmp 1), 0, false⟩,⟨some 26, none, .ld1 (some 1) (.tmp 25), 0, false⟩,⟨some 27, none, .mv (.tmp 5), 0, false⟩,⟨some 28, none, .ixA 1 (.tmp 26) (.tmp 27), 0, false⟩,⟨some 29, none, .ld1 none (.tmp 28), 0, false⟩,⟨some 30, none, .bini .geq (.tmp 29) (.con (.val (.int .i64 0))), 0, false⟩,⟨some 31, none, .ixA 1 (.tmp 23) (.tmp 24), 0, false⟩,⟨none, none, .st none 1 (.tmp 31) (.tmp 30), 0, false⟩]))
 (.regN [1, 3, 4, 5] [
 ⟨some 21, none, .mv (.tmp 5), 0, false⟩,⟨some 22, none, .bini .add (.tmp 21) (.con (.val (.int .i64 1))), 0, false⟩,⟨some 5, none, .mv (.tmp 22), 0, false⟩])))
def t25L2 : AC := (.seq (.seq (.regN [1, 3, 4, 6, 7, 8] [
 ⟨some 38, none, .mv (.tmp 8), 0, false⟩,⟨some 39, none, .bini .lss (.tmp 38) (.con (.val (.int .i64 256))), 0, false⟩,⟨some 40, none, .mv (.tmp 39), 0, false⟩,⟨some 41, some (40, true), .mv (.tmp 4), 0, false⟩,⟨some 42, some (40, true), .mv (.tmp 7), 0, false⟩,⟨some 43, some (40, true), .ixA 1 (.tmp 41) (.tmp 42), 0, false⟩,⟨some 44, some (40, true), .ld1 none (.tmp 43), 0, false⟩,⟨some 45, some (40, true), .not (.tmp 44), 0, false⟩,⟨some 46, none, .pick (.tmp 40) (.tmp 45) (.con (.val (.bool false))), 0, false⟩])
 (.cond (.tmp 46)
 .skip
 (.exit 6)))
 (.seq (.block 7
 (.seq (.regN [1, 3, 4, 6, 7, 8] [
 ⟨some 49, none, .fldA 0 (.tmp 1), 0, false⟩,⟨some 50, none, .ld1 (some 1) (.tmp 49), 0, false⟩,⟨some 51, none, .mv (.tmp 7), 0, false⟩,⟨some 52, none, .bini .mul (.con (.val (.int .i64 256))) (.tmp 51), 0, false⟩,⟨some 53, none, .mv (.tmp 8), 0, false⟩,⟨some 54, none, .bini .add (.tmp 52) (.tmp 53), 0, false⟩,⟨some 55, none, .ixA 1 (.tmp 50) (.tmp 54), 0, false⟩,⟨some 56, none, .ld1 none (.tmp 55), 0, false⟩,⟨some 9, none, .mv (.tmp 56), 0, false⟩])
 (.seq (.regN [1, 3, 4, 6, 7, 8, 9] [
 ⟨some 57, none, .mv (.tmp 9), 0, false⟩,⟨some 58, none, .bini .geq (.tmp 57) (.con (.val (.int .i64 0))), 0, false⟩,⟨some 59, none, .mv (.tmp 58), 0, false⟩,⟨some 60, some (59, true), .mv (.tmp 4), 0, false⟩,⟨some 61, some (59, true), .mv (.tmp 9), 0, false⟩,⟨some 62, some (59, true), .ixA 1 (.tmp 60) (.tmp 61), 0, false⟩,⟨some 63, some (59, true), .ld1 none (.tmp 62), 0, false⟩,⟨some 64, none, .pick (.tmp 59) (.tmp 63) (.con (.val (.bool false))), 0, false⟩])
 (.cond (.tmp 64)
 (.regN [1, 3, 4, 7, 8] [
 ⟨some 65, none, .mv (.tmp 4), 0, false⟩,⟨some 66, none, .mv (.tmp 7), 0, false⟩,⟨some 67, none, .ixA 1 (.tmp 65) (.tmp 66), 0, false⟩,⟨none, none, .st none 1 (.tmp 67) (.con (.val (.bool true))), 0, false⟩,⟨some 6, none, .mv (.con (.val (.bool true))), 0, false⟩])
 .skip))))
 (.regN [1, 3, 4, 6, 7, 8] [
 ⟨some 47, none, .mv (.tmp 8), 0, false⟩,⟨some 48, none, .bini .add (.tmp 47) (.con (.val (.int .i64 1))), 0, false⟩,⟨some 8, none, .mv (.tmp 48), 0, false⟩])))
def t25L3 : AC := (.seq (.seq (.regN [1, 3, 4, 6, 7] [
 ⟨some 33, none, .mv (.tmp 7), 0, false⟩,⟨some 34, none, .mv (.tmp 3), 0, false⟩,⟨some 35, none, .bini .lss (.tmp 33) (.tmp 34), 0, false⟩])
 (.cond (.tmp 35)
 .skip
 (.exit 4)))
 (.seq (.block 5
 (.seq (.regN [1, 3, 4, 6, 7] [
 ⟨some 8, none, .mv (.con (.val (.int .i64 0))), 0, false⟩])
 (.block 6
 (.loop [1, 3, 4, 6, 7, 8] t25L2))))
 (.regN [1, 3, 4, 6, 7] [
 ⟨some 36, none, .mv (.tmp 7), 0, false⟩,⟨some 37, none, .bini .add (.tmp 36) (.con (.val (.int .i64 1))), 0, false⟩,⟨some 7, none, .mv (.tmp 37), 0, false⟩])))
def t25L4 : AC := (.seq (.seq (.regN [1, 3, 4, 6] [
 ⟨some 32, none, .mv (.tmp 6), 0, false⟩])
 (.cond (.tmp 32)
 .skip
 (.exit 2)))
 (.block 3
 (.seq (.regN [1, 3, 4] [
 ⟨some 6, none, .mv (.con (.val (.bool false))), 0, false⟩])
 (.seq (.regN [1, 3, 4, 6] [
 ⟨some 7, none, .mv (.con (.val (.int .i64 0))), 0, false⟩])
 (.block 4
 (.loop [1, 3, 4, 6, 7] t25L3))))))
def t25B : AC := (.seq (.regN [0] [
 ⟨some 1, none, .boxR 2 (.tmp 0), 0, false⟩,⟨some 2, none, .mv (.con .e0), 0, false⟩])
 (.seq (.seq (.regN [1] [
 ⟨some 10, none, .ldA (some 1) 2 (.tmp 1), 0, false⟩,⟨some 11, none, .call 11 [(.tmp 10)], 0, false⟩,⟨some 12, none, .bini .neq (.tmp 11) (.con (.val (.int .i64 0))), 0, false⟩])
 (.cond (.tmp 12)
 (.seq (.regN [] [
 ⟨some 2, none, .mv (.con .e0), 0, false⟩])
 .ret)
 .skip))
 (.seq (.regN [1] [
 ⟨some 13, none, .fldA 1 (.tmp 1), 0, false⟩,⟨some 14, none, .ld1 (some 1) (.tmp 13), 0, false⟩,⟨some 15, none, .len false (.tmp 14), 0, false⟩,⟨some 3, none, .mv (.tmp 15), 0, false⟩])
 (.seq (.regN [1, 3] [
 ⟨some 16, none, .mv (.tmp 3), 0, false⟩,⟨some 17, none, .mks 1 1 [(.val (.bool false))] (.tmp 16), 0, false⟩,⟨some 4, none, .mv (.tmp 17), 0, false⟩])
 (.seq (.seq (.regN [1, 3, 4] [
 ⟨some 5, none, .mv (.con (.val (.int .i64 0))), 0, false⟩])
 (.block 0
 (.loop [1, 3, 4, 5] t25L1)))
 (.seq (.seq (.regN [1, 3, 4] [
 ⟨some 6, none, .mv (.con (.val (.bool true))), 0, false⟩])
 (.block 2
 (.loop [1, 3, 4, 6] t25L4)))
 (.seq (.regN [4] [
 ⟨some 68, none, .mv (.tmp 4), 0, false⟩,⟨some 2, none, .mv (.tmp 68), 0, false⟩])
 .ret)))))))
def t25 : AFn := ⟨1, t25B,
 [.tmp 2], true⟩
/-- viewport/viewportkit.Same[bool]  -/
def t21L1 : AC := (.seq (.seq (.regN [0, 1, 5] [
 ⟨some 11, none, .mv (.tmp 5), 0, false⟩,⟨some 12, none, .mv (.tmp 0), 0, false⟩,⟨some 13, none, .len false (.tmp 12), 0, false⟩,⟨some 14, none, .bini .lss (.tmp 11) (.tmp 13), 0, false⟩])
 (.cond (.tmp 14)
 .skip
 (.exit 0)))
 (.seq (.block 1
 (.seq (.regD [0, 1, 5] 0 [
 ⟨some 17, none, .mv (.tmp 0), 0, false⟩,⟨some 18, none, .mv (.tmp 5), 0, false⟩,⟨some 19, none, .ixA 1 (.tmp 17) (.tmp 18), 0, false⟩,⟨some 20, none, .ld1 none (.tmp 19), 0, false⟩,⟨some 21, none, .mv (.tmp 1), 0, false⟩,⟨some 22, none, .mv (.tmp 5), 0, false⟩,⟨some 23, none, .ixA 1 (.tmp 21) (.tmp 22), 0, false⟩,⟨some 24, none, .ld1 none (.tmp 23), 0, false⟩,⟨some 25, none, .eqb true (.tmp 20) (.tmp 24), 0, false⟩])
 (.cond (.tmp 25)
 (.seq (.regN [] [
 ⟨some 4, none, .mv (.con (.val (.bool false))), 0, false⟩])
 .ret)
 .skip)))
 (.regN [0, 1, 5] [
 ⟨some 15, none, .mv (.tmp 5), 0, false⟩,⟨some 16, none, .bini .add (.tmp 15) (.con (.val (.int .i64 1))), 0, false⟩,⟨some 5, none, .mv (.tmp 16), 0, false⟩])))
def t21B : AC := (.seq (.regN [0, 1] [
 ⟨some 4, none, .mv (.con (.val (.bool false))), 0, false⟩])
 (.seq (.seq (.regN [0, 1] [
 ⟨some 6, none, .mv (.tmp 0), 0, false⟩,⟨some 7, none, .len false (.tmp 6), 0, false⟩,⟨some 8, none, .mv (.tmp 1), 0, false⟩,⟨some 9, none, .len false (.tmp 8), 0, false⟩,⟨some 10, none, .bini .neq (.tmp 7) (.tmp 9), 0, false⟩])
 (.cond (.tmp 10)
 (.seq (.regN [] [
 ⟨some 4, none, .mv (.con (.val (.bool false))), 0, false⟩])
 .ret)
 .skip))
 (.seq (.seq (.regN [0, 1] [
 ⟨some 5, none, .mv (.con (.val (.int .i64 0))), 0, false⟩])
 (.block 0
 (.loop [0, 1, 5] t21L1)))
 (.seq (.regN [] [
 ⟨some 4, none, .mv (.con (.val (.bool true))), 0, false⟩])
 .ret))))
def t21 : AFn := ⟨2, t21B,
 [.tmp 4], true⟩
/-- viewport/least.Equal  -/
def t17B : AC := (.seq (.regN [0, 1] [
 ⟨some 2, none, .boxR 2 (.tmp 0), 0, false⟩,⟨some 3, none, .boxR 2 (.tmp 1), 0, false⟩,⟨some 4, none, .mv (.con (.val (.bool false))), 0, false⟩])
 (.seq (.seq (.regN [2, 3] [
 ⟨some 7, none, .ldA (some 2) 2 (.tmp 2), 0, false⟩,⟨some 8, none, .call 27 [(.tmp 7)], 0, false⟩,⟨some 9, none, .bini .neq (.tmp 8) (.con (.val (.int .i64 0))), 0, false⟩,⟨some 10, none, .mv (.tmp 9), 0, false⟩,⟨some 11, some (10, false), .ldA (some 3) 2 (.tmp 3), 0, false⟩,⟨some 12, some (10, false), .call 27 [(.tmp 11)], 0, false⟩,⟨some 13, some (10, false), .bini .neq (.tmp 12) (.con (.val (.int .i64 0))), 0, false⟩,⟨some 14, none, .pick (.tmp 10) (.con (.val (.bool true))) (.tmp 13), 0, false⟩])
 (.cond (.tmp 14)
 (.seq (.regN [] [
 ⟨some 4, none, .mv (.con (.val (.bool false))), 0, false⟩])
 .ret)
 .skip))
 (.seq (.regN [2, 3] [
 ⟨some 16, none, .ldA (some 2) 2 (.tmp 2), 0, false⟩,⟨some 17, none, .ldA (some 3) 2 (.tmp 3), 0, false⟩,⟨some 18, none, .call 19 [(.tmp 16), (.tmp 17)], 0, false⟩,⟨some 15, none, .mv (.tmp 18), 0, false⟩,⟨some 19, none, .ext (.tmp 15) 0, 0, false⟩,⟨some 20, none, .ext (.tmp 15) 1, 0, false⟩,⟨some 5, none, .mv (.tmp 19), 0, false⟩,⟨some 6, none, .mv (.tmp 20), 0, false⟩])
 (.seq (.regN [6] [
 ⟨some 21, none, .mv (.tmp 6), 0, false⟩,⟨some 22, none, .not (.tmp 21), 0, false⟩,⟨some 4, none, .mv (.tmp 22), 0, false⟩])
 .ret))))
def t17 : AFn := ⟨2, t17B,
 [.tmp 4], true⟩
/-- viewport/viewportref05.Equal  -/
def t26B : AC := (.seq (.regN [0, 1] [
 ⟨some 2, none, .boxR 2 (.tmp 0), 0, false⟩,⟨some 3, none, .boxR 2 (.tmp 1), 0, false⟩,⟨some 4, none, .mv (.con (.val (.bool false))), 0, false⟩])
 (.seq (.regN [2, 3] [
 ⟨some 8, none, .ldA (some 2) 2 (.tmp 2), 0, false⟩,⟨some 9, none, .ldA (some 3) 2 (.tmp 3), 0, false⟩,⟨some 10, none, .call 23 [(.tmp 8), (.tmp 9)], 0, false⟩,⟨some 7, none, .mv (.tmp 10), 0, false⟩,⟨some 11, none, .ext (.tmp 7) 0, 0, false⟩,⟨some 12, none, .ext (.tmp 7) 1, 0, false⟩,⟨some 5, none, .mv (.tmp 11), 0, false⟩,⟨some 6, none, .mv (.tmp 12), 0, false⟩])
 (.seq (.regN [2, 3, 6] [
 ⟨some 13, none, .ldA (some 2) 2 (.tmp 2), 0, false⟩,⟨some 14, none, .call 11 [(.tmp 13)], 0, false⟩,⟨some 15, none, .bini .eql (.tmp 14) (.con (.val (.int .i64 0))), 0, false⟩,⟨some 16, none, .mv (.tmp 15), 0, false⟩,⟨some 17, some (16, true), .ldA (some 3) 2 (.tmp 3), 0, false⟩,⟨some 18, some (16, true), .call 11 [(.tmp 17)], 0, false⟩,⟨some 19, some (16, true), .bini .eql (.tmp 18) (.con (.val (.int .i64 0))), 0, false⟩,⟨some 20, none, .pick (.tmp 16) (.tmp 19) (.con (.val (.bool false))), 0, false⟩,⟨some 21, none, .mv (.tmp 20), 0, false⟩,⟨some 22, some (21, true), .mv (.tmp 6), 0, false⟩,⟨some 23, some (21, true), .not (.tmp 22), 0, false⟩,⟨some 24, none, .pick (.tmp 21) (.tmp 23) (.con (.val (.bool false))), 0, false⟩,⟨some 4, none, .mv (.tmp 24), 0, false⟩])
 .ret)))
def t26 : AFn := ⟨2, t26B,
 [.tmp 4], true⟩
end Go.Proofs.Ytdbbaopgmapmaaa
