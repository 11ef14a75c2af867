/- The functions of a program, compiled: printed by wip/hm/tools/Gen.lean. -/
import Derived.Test.YtpaocofhpdmjpaaT1
namespace Go.Proofs.Ytpaocofhpdmjpaa
open Go Go.Hm
/-- viewport/viewportref12.Union  -/
def t31L1 : AC := (.seq (.seq (.regN [0, 1, 5, 6, 7] [
 ⟨some 10, none, .mv (.tmp 7), 0, false⟩,⟨some 11, none, .mv (.tmp 0), 0, false⟩,⟨some 12, none, .len false (.tmp 11), 0, false⟩,⟨some 13, none, .bini .lss (.tmp 10) (.tmp 12), 0, false⟩])
 (.cond (.tmp 13)
 .skip
 (.exit 0)))
 (.seq (.block 1
 (.regN [0, 1, 5, 6, 7] [
 ⟨some 16, none, .mv (.tmp 6), 0, false⟩,⟨some 17, none, .mv (.tmp 5), 0, false⟩,⟨some 18, none, .mv (.tmp 0), 0, false⟩,⟨some 19, none, .mv (.tmp 7), 0, false⟩,⟨some 20, none, .ixA 1 (.tmp 18) (.tmp 19), 0, false⟩,⟨some 21, none, .ld1 none (.tmp 20), 0, false⟩,⟨some 22, none, .call 54 [(.tmp 16), (.tmp 17), (.tmp 21)], 0, false⟩,⟨some 6, none, .mv (.tmp 22), 0, false⟩]))
 (.regN [0, 1, 5, 6, 7] [
 ⟨some 14, none, .mv (.tmp 7), 0, false⟩,⟨some 15, none, .bini .add (.tmp 14) (.con (.val (.int .i64 1))), 0, false⟩,⟨some 7, none, .mv (.tmp 15), 0, false⟩])))
def t31L2 : AC := (.seq (.seq (.regN [1, 5, 6, 8] [
 ⟨some 23, none, .mv (.tmp 8), 0, false⟩,⟨some 24, none, .mv (.tmp 1), 0, false⟩,⟨some 25, none, .len false (.tmp 24), 0, false⟩,⟨some 26, none, .bini .lss (.tmp 23) (.tmp 25), 0, false⟩])
 (.cond (.tmp 26)
 .skip
 (.exit 2)))
 (.seq (.block 3
 (.regN [1, 5, 6, 8] [
 ⟨some 29, none, .mv (.tmp 6), 0, false⟩,⟨some 30, none, .mv (.tmp 5), 0, false⟩,⟨some 31, none, .mv (.tmp 1), 0, false⟩,⟨some 32, none, .mv (.tmp 8), 0, false⟩,⟨some 33, none, .ixA 1 (.tmp 31) (.tmp 32), 0, false⟩,⟨some 34, none, .ld1 none (.tmp 33), 0, false⟩,⟨some 35, none, .call 54 [(.tmp 29), (.tmp 30), (.tmp 34)], 0, false⟩,⟨some 6, none, .mv (.tmp 35), 0, false⟩]))
 (.regN [1, 5, 6, 8] [
 ⟨some 27, none, .mv (.tmp 8), 0, false⟩,⟨some 28, none, .bini .add (.tmp 27) (.con (.val (.int .i64 1))), 0, false⟩,⟨some 8, none, .mv (.tmp 28), 0, false⟩])))
def t31B : AC := (.seq (.regN [0, 1] [
 ⟨some 4, none, .mv (.con .e0), 0, false⟩])
 (.seq (.regN [0, 1] [
 ⟨some 9, none, .mkm, 0, false⟩,⟨some 5, none, .mv (.tmp 9), 0, false⟩])
 (.seq (.regN [0, 1, 5] [
 ⟨some 6, none, .mv (.con .e0), 0, false⟩])
 (.seq (.seq (.regN [0, 1, 5, 6] [
 ⟨some 7, none, .mv (.con (.val (.int .i64 0))), 0, false⟩])
 (.block 0
 (.loop [0, 1, 5, 6, 7] t31L1)))
 (.seq (.seq (.regN [1, 5, 6] [
 ⟨some 8, none, .mv (.con (.val (.int .i64 0))), 0, false⟩])
 (.block 2
 (.loop [1, 5, 6, 8] t31L2)))
 (.seq .frz
 (.seq (.regN [6] [
 ⟨some 36, none, .mv (.tmp 6), 0, false⟩,⟨some 37, none, .call 53 [(.tmp 36)], 0, false⟩,⟨some 4, none, .mv (.tmp 37), 0, false⟩])
 .ret)))))))
def t31 : AFn := ⟨2, t31B,
 [.tmp 4], true⟩
/-- viewport/viewportref12.Has  -/
def t32L1 : AC := (.seq (.seq (.regN [0, 1, 5] [
 ⟨some 6, none, .mv (.tmp 5), 0, false⟩,⟨some 7, none, .mv (.tmp 0), 0, false⟩,⟨some 8, none, .len false (.tmp 7), 0, false⟩,⟨some 9, none, .bini .lss (.tmp 6) (.tmp 8), 0, false⟩])
 (.cond (.tmp 9)
 .skip
 (.exit 0)))
 (.seq (.block 1
 (.seq (.regN [0, 1, 5] [
 ⟨some 12, none, .mv (.tmp 0), 0, false⟩,⟨some 13, none, .mv (.tmp 5), 0, false⟩,⟨some 14, none, .ixA 1 (.tmp 12) (.tmp 13), 0, false⟩,⟨some 15, none, .ld1 none (.tmp 14), 0, false⟩,⟨some 16, none, .mv (.tmp 1), 0, false⟩,⟨some 17, none, .bins .eql (.tmp 15) (.tmp 16), 0, false⟩])
 (.cond (.tmp 17)
 (.seq (.regN [] [
 ⟨some 4, none, .mv (.con (.val (.bool true))), 0, false⟩])
 .ret)
 .skip)))
 (.regN [0, 1, 5] [
 ⟨some 10, none, .mv (.tmp 5), 0, false⟩,⟨some 11, none, .bini .add (.tmp 10) (.con (.val (.int .i64 1))), 0, false⟩,⟨some 5, none, .mv (.tmp 11), 0, false⟩])))
def t32B : AC := (.seq (.regN [0, 1] [
 ⟨some 4, none, .mv (.con (.val (.bool false))), 0, false⟩])
 (.seq (.seq (.regN [0, 1] [
 ⟨some 5, none, .mv (.con (.val (.int .i64 0))), 0, false⟩])
 (.block 0
 (.loop [0, 1, 5] t32L1)))
 (.seq (.regN [] [
 ⟨some 4, none, .mv (.con (.val (.bool false))), 0, false⟩])
 .ret)))
def t32 : AFn := ⟨2, t32B,
 [.tmp 4], true⟩
/-- viewport/viewportref12.Of  -/
def t33L1 : AC := (.seq (.seq (.regN [1, 2, 3, 7] [
 ⟨some 18, none, .mv (.tmp 7), 0, false⟩,⟨some 19, none, .mv (.tmp 2), 0, false⟩,⟨some 20, none, .len false (.tmp 19), 0, false⟩,⟨some 21, none, .bini .lss (.tmp 18) (.tmp 20), 0, false⟩])
 (.cond (.tmp 21)
 .skip
 (.exit 0)))
 (.seq (.block 1
 (.seq (.regD [1, 2, 3, 7] 0 [
 ⟨some 24, none, .mv (.tmp 2), 0, false⟩,⟨some 25, none, .mv (.tmp 7), 0, false⟩,⟨some 26, none, .ixA 1 (.tmp 24) (.tmp 25), 0, false⟩,⟨some 27, none, .ld1 none (.tmp 26), 0, false⟩,⟨some 28, none, .bini .lss (.tmp 27) (.con (.val (.int .i64 0))), 0, false⟩,⟨some 29, none, .mv (.tmp 28), 0, false⟩,⟨some 30, some (29, false), .mv (.tmp 2), 0, false⟩,⟨some 31, some (29, false), .mv (.tmp 7), 0, false⟩,⟨some 32, some (29, false), .ixA 1 (.tmp 30) (.tmp 31), 0, false⟩,⟨some 33, some (29, false), .ld1 none (.tmp 32), 0, false⟩,⟨some 34, some (29, false), .fldA 0 (.tmp 3), 0, false⟩,⟨some 35, some (29, false), .ld1 (some 3) (.tmp 34), 0, false⟩,⟨some 36, some (29, false), .fldA 1 (.tmp 3), 0, false⟩,⟨some 37, some (29, false), .ld1 (some 3) (.tmp 36), 0, false⟩,⟨some 38, some (29, false), .bini .add (.tmp 35) (.tmp 37), 0, false⟩,⟨some 39, some (29, false), .bini .geq (.tmp 33) (.tmp 38), 0, false⟩,⟨some 40, none, .pick (.tmp 29) (.con (.val (.bool true))) (.tmp 39), 0, false⟩])
 (.cond (.tmp 40)
 (.seq (.regN [] [
 ⟨some 6, none, .mv (.con .e0), 0, false⟩])
 .ret)
 .skip)))
 (.regN [1, 2, 3, 7] [
 ⟨some 22, none, .mv (.tmp 7), 0, false⟩,⟨some 23, none, .bini .add (.tmp 22) (.con (.val (.int .i64 1))), 0, false⟩,⟨some 7, none, .mv (.tmp 23), 0, false⟩])))
def t33B : AC := (.seq (.regN [0, 1, 2] [
 ⟨some 3, none, .boxR 4 (.tmp 0), 0, false⟩,⟨some 6, none, .mv (.con .e0), 0, false⟩])
 (.seq (.seq (.regN [1, 2, 3] [
 ⟨some 8, none, .ldA (some 3) 4 (.tmp 3), 0, false⟩,⟨some 9, none, .call 17 [(.tmp 8)], 0, false⟩,⟨some 10, none, .bini .neq (.tmp 9) (.con (.val (.int .i64 0))), 0, false⟩,⟨some 11, none, .mv (.tmp 10), 0, false⟩,⟨some 12, some (11, false), .mv (.tmp 1), 0, false⟩,⟨some 13, some (11, false), .len false (.tmp 12), 0, false⟩,⟨some 14, some (11, false), .fldA 1 (.tmp 3), 0, false⟩,⟨some 15, some (11, false), .ld1 (some 3) (.tmp 14), 0, false⟩,⟨some 16, some (11, false), .bini .neq (.tmp 13) (.tmp 15), 0, false⟩,⟨some 17, none, .pick (.tmp 11) (.con (.val (.bool true))) (.tmp 16), 0, false⟩])
 (.cond (.tmp 17)
 (.seq (.regN [] [
 ⟨some 6, none, .mv (.con .e0), 0, false⟩])
 .ret)
 .skip))
 (.seq (.seq (.regN [1, 2, 3] [
 ⟨some 7, none, .mv (.con (.val (.int .i64 0))), 0, false⟩])
 (.block 0
 (.loop [1, 2, 3, 7] t33L1)))
 (.seq (.regN [1, 2, 3] [
 ⟨some 41, none, .ldA (some 3) 4 (.tmp 3), 0, false⟩,⟨some 42, none, .mv (.tmp 1), 0, false⟩,⟨some 43, none, .mv (.tmp 2), 0, false⟩,⟨some 44, none, .call 56 [(.tmp 41), (.tmp 42), (.tmp 43)], 0, false⟩,⟨some 6, none, .mv (.tmp 44), 0, false⟩])
 .ret))))
def t33 : AFn := ⟨3, t33B,
 [.tmp 6], true⟩
/-- viewport/viewportref12.of  -/
def t56L1 : AC := (.seq (.seq (.regN [1, 2, 3, 7, 8] [
 ⟨some 10, none, .mv (.tmp 8), 0, false⟩,⟨some 11, none, .mv (.tmp 2), 0, false⟩,⟨some 12, none, .len false (.tmp 11), 0, false⟩,⟨some 13, none, .bini .lss (.tmp 10) (.tmp 12), 0, false⟩])
 (.cond (.tmp 13)
 .skip
 (.exit 0)))
 (.seq (.block 1
 (.seq (.regD [1, 2, 3, 7, 8] 0 [
 ⟨some 16, none, .mv (.tmp 2), 0, false⟩,⟨some 17, none, .mv (.tmp 8), 0, false⟩,⟨some 18, none, .ixA 1 (.tmp 16) (.tmp 17), 0, false⟩,⟨some 19, none, .ld1 none (.tmp 18), 0, false⟩,⟨some 20, none, .fldA 0 (.tmp 3), 0, false⟩,⟨some 21, none, .ld1 (some 3) (.tmp 20), 0, false⟩,⟨some 22, none, .bini .lss (.tmp 19) (.tmp 21), 0, false⟩])
 (.cond (.tmp 22)
 (.regD [1, 2, 3, 7, 8] 0 [
 ⟨some 23, none, .fldA 2 (.tmp 3), 0, false⟩,⟨some 24, none, .ld1 (some 3) (.tmp 23), 0, false⟩,⟨some 25, none, .mv (.tmp 7), 0, false⟩,⟨some 26, none, .mv (.tmp 2), 0, false⟩,⟨some 27, none, .mv (.tmp 8), 0, false⟩,⟨some 28, none, .ixA 1 (.tmp 26) (.tmp 27), 0, false⟩,⟨some 29, none, .ld1 none (.tmp 28), 0, false⟩,⟨some 30, none, .cvi .u8 (.tmp 29), 0, false⟩,⟨some 31, none, .buildS 1 [(.val (.int .u8 0))] [(0, 1, (.tmp 30))], 0, false⟩,⟨some 32, none, .b2s (.tmp 31), 0, false⟩,⟨some 33, none, .buildS 1 [(.val (.string ⟨#[]⟩))] [(0, 1, (.tmp 32))], 0, false⟩,⟨some 34, none, .call 30 [(.tmp 24), (.tmp 25), (.tmp 33)], 0, true⟩,⟨some 7, none, .mv (.tmp 34), 0, false⟩])
 (.regD [1, 2, 3, 7, 8] 0 [
 ⟨some 35, none, .fldA 2 (.tmp 3), 0, false⟩,⟨some 36, none, .ld1 (some 3) (.tmp 35), 0, false⟩,⟨some 37, none, .mv (.tmp 7), 0, false⟩,⟨some 38, none, .mv (.tmp 1), 0, false⟩,⟨some 39, none, .mv (.tmp 2), 0, false⟩,⟨some 40, none, .mv (.tmp 8), 0, false⟩,⟨some 41, none, .ixA 1 (.tmp 39) (.tmp 40), 0, false⟩,⟨some 42, none, .ld1 none (.tmp 41), 0, false⟩,⟨some 43, none, .fldA 0 (.tmp 3), 0, false⟩,⟨some 44, none, .ld1 (some 3) (.tmp 43), 0, false⟩,⟨some 45, none, .bini .sub (.tmp 42) (.tmp 44), 0, false⟩,⟨some 46, none, .ixA 1 (.tmp 38) (.tmp 45), 0, false⟩,⟨some 47, none, .ld1 none (.tmp 46), 0, false⟩,⟨some 48, none, .call 30 [(.tmp 36), (.tmp 37), (.tmp 47)], 0, true⟩,⟨some 7, none, .mv (.tmp 48), 0, false⟩]))))
 (.regN [1, 2, 3, 7, 8] [
 ⟨some 14, none, .mv (.tmp 8), 0, false⟩,⟨some 15, none, .bini .add (.tmp 14) (.con (.val (.int .i64 1))), 0, false⟩,⟨some 8, none, .mv (.tmp 15), 0, false⟩])))
def t56B : AC := (.seq (.regN [0, 1, 2] [
 ⟨some 3, none, .boxR 4 (.tmp 0), 0, false⟩,⟨some 6, none, .mv (.con .e0), 0, false⟩])
 (.seq (.regN [1, 2, 3] [
 ⟨some 9, none, .buildS 1 [(.val (.string ⟨#[]⟩))] [(0, 1, (.con (.val (.string ⟨#[]⟩))))], 0, false⟩,⟨some 7, none, .mv (.tmp 9), 0, false⟩])
 (.seq (.seq (.regN [1, 2, 3, 7] [
 ⟨some 8, none, .mv (.con (.val (.int .i64 0))), 0, false⟩])
 (.block 0
 (.loop [1, 2, 3, 7, 8] t56L1)))
 (.seq (.regN [7] [
 ⟨some 49, none, .mv (.tmp 7), 0, false⟩,⟨some 6, none, .mv (.tmp 49), 0, false⟩])
 .ret))))
def t56 : AFn := ⟨3, t56B,
 [.tmp 6], true⟩
/-- viewport/viewportref12.Sets  -/
def t35L1 : AC := (.seq (.seq (.regN [1, 3, 4, 5] [
 ⟨some 15, none, .mv (.tmp 5), 0, false⟩,⟨some 16, none, .fldA 3 (.tmp 1), 0, false⟩,⟨some 17, none, .ld1 (some 1) (.tmp 16), 0, false⟩,⟨some 18, none, .len false (.tmp 17), 0, false⟩,⟨some 19, none, .bini .lss (.tmp 15) (.tmp 18), 0, false⟩])
 (.cond (.tmp 19)
 .skip
 (.exit 2)))
 (.seq (.block 3
 (.seq (.regN [1, 3, 4, 5] [
 ⟨some 22, none, .fldA 3 (.tmp 1), 0, false⟩,⟨some 23, none, .ld1 (some 1) (.tmp 22), 0, false⟩,⟨some 24, none, .mv (.tmp 5), 0, false⟩,⟨some 25, none, .ixA 2 (.tmp 23) (.tmp 24), 0, false⟩,⟨some 26, none, .ldA none 2 (.tmp 25), 0, false⟩,⟨some 6, none, .allocR [(.val (.int .i64 0)), .e0], 0, false⟩,⟨none, none, .st (some 6) 2 (.tmp 6) (.tmp 26), 0, false⟩])
 (.seq (.regD [1, 3, 4, 5, 6] 0 [
 ⟨some 27, none, .mv (.tmp 3), 0, false⟩,⟨some 28, none, .fldA 0 (.tmp 6), 0, false⟩,⟨some 29, none, .ld1 (some 6) (.tmp 28), 0, false⟩,⟨some 30, none, .ixA 1 (.tmp 27) (.tmp 29), 0, false⟩,⟨some 31, none, .ld1 none (.tmp 30), 0, false⟩,⟨some 32, none, .ldA (some 1) 4 (.tmp 1), 0, false⟩,⟨some 33, none, .mv (.tmp 3), 0, false⟩,⟨some 34, none, .fldA 1 (.tmp 6), 0, false⟩,⟨some 35, none, .ld1 (some 6) (.tmp 34), 0, false⟩,⟨some 36, none, .call 56 [(.tmp 32), (.tmp 33), (.tmp 35)], 0, false⟩,⟨some 37, none, .call 31 [(.tmp 31), (.tmp 36)], 0, true⟩,⟨some 7, none, .mv (.tmp 37), 0, false⟩])
 (.seq (.regN [1, 3, 4, 5, 6, 7] [
 ⟨some 38, none, .mv (.tmp 4), 0, false⟩,⟨some 39, none, .mv (.tmp 38), 0, false⟩,⟨some 40, some (39, false), .mv (.tmp 7), 0, false⟩,⟨some 41, some (39, false), .len false (.tmp 40), 0, false⟩,⟨some 42, some (39, false), .mv (.tmp 3), 0, false⟩,⟨some 43, some (39, false), .fldA 0 (.tmp 6), 0, false⟩,⟨some 44, some (39, false), .ld1 (some 6) (.tmp 43), 0, false⟩,⟨some 45, some (39, false), .ixA 1 (.tmp 42) (.tmp 44), 0, false⟩,⟨some 46, some (39, false), .ld1 none (.tmp 45), 0, false⟩,⟨some 47, some (39, false), .len false (.tmp 46), 0, false⟩,⟨some 48, some (39, false), .bini .gtr (.tmp 41) (.tmp 47), 0, false⟩,⟨some 49, none, .pick (.tmp 39) (.con (.val (.bool true))) (.tmp 48), 0, false⟩,⟨some 4, none, .mv (.tmp 49), 0, false⟩])
 (.regN [1, 3, 4, 5, 6, 7] [
 ⟨some 50, none, .mv (.tmp 3), 0, false⟩,⟨some 51, none, .fldA 0 (.tmp 6), 0, false⟩,⟨some 52, none, .ld1 (some 6) (.tmp 51), 0, false⟩,⟨some 53, none, .mv (.tmp 7), 0, false⟩,⟨some 54, none, .ixA 1 (.tmp 50) (.tmp 52), 0, false⟩,⟨none, none, .st none 1 (.tmp 54) (.tmp 53), 0, false⟩])))))
 (.regN [1, 3, 4, 5] [
 ⟨some 20, none, .mv (.tmp 5), 0, false⟩,⟨some 21, none, .bini .add (.tmp 20) (.con (.val (.int .i64 1))), 0, false⟩,⟨some 5, none, .mv (.tmp 21), 0, false⟩])))
def t35L2 : AC := (.seq (.seq (.regN [1, 3, 4] [
 ⟨some 14, none, .mv (.tmp 4), 0, false⟩])
 (.cond (.tmp 14)
 .skip
 (.exit 0)))
 (.block 1
 (.seq (.regN [1, 3] [
 ⟨some 4, none, .mv (.con (.val (.bool false))), 0, false⟩])
 (.seq (.regN [1, 3, 4] [
 ⟨some 5, none, .mv (.con (.val (.int .i64 0))), 0, false⟩])
 (.block 2
 (.loop [1, 3, 4, 5] t35L1))))))
def t35B : AC := (.seq (.regN [0] [
 ⟨some 1, none, .boxR 4 (.tmp 0), 0, false⟩,⟨some 2, none, .mv (.con .e0), 0, false⟩])
 (.seq (.seq (.regN [1] [
 ⟨some 8, none, .ldA (some 1) 4 (.tmp 1), 0, false⟩,⟨some 9, none, .call 17 [(.tmp 8)], 0, false⟩,⟨some 10, none, .bini .neq (.tmp 9) (.con (.val (.int .i64 0))), 0, false⟩])
 (.cond (.tmp 10)
 (.seq (.regN [] [
 ⟨some 2, none, .mv (.con .e0), 0, false⟩])
 .ret)
 .skip))
 (.seq (.regN [1] [
 ⟨some 11, none, .fldA 1 (.tmp 1), 0, false⟩,⟨some 12, none, .ld1 (some 1) (.tmp 11), 0, false⟩,⟨some 13, none, .mks 1 24 [.e0] (.tmp 12), 0, false⟩,⟨some 3, none, .mv (.tmp 13), 0, false⟩])
 (.seq (.seq (.regN [1, 3] [
 ⟨some 4, none, .mv (.con (.val (.bool true))), 0, false⟩])
 (.block 0
 (.loop [1, 3, 4] t35L2)))
 (.seq (.regN [3] [
 ⟨some 55, none, .mv (.tmp 3), 0, false⟩,⟨some 2, none, .mv (.tmp 55), 0, false⟩])
 .ret)))))
def t35 : AFn := ⟨1, t35B,
 [.tmp 2], true⟩
end Go.Proofs.Ytpaocofhpdmjpaa
