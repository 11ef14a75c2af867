/- The functions of a program, compiled: printed by wip/hm/tools/Gen.lean. -/
import Derived.Test.YtgbpioccaenjaaaT1
namespace Go.Proofs.Ytgbpioccaenjaaa
open Go Go.Hm
def t77L1 : AC := (.seq (.regN [1, 2, 4, 14, 15, 16] [
 ⟨some 17, none, .bini .lss (.tmp 16) (.tmp 15), 0, false⟩])
 (.seq (.cond (.tmp 17)
 .skip
 (.exit 0))
 (.seq (.block 1
 (.seq (.regN [1, 2, 4, 14, 15, 16] [
 ⟨some 18, none, .ixA 1 (.tmp 14) (.tmp 16), 0, false⟩,⟨some 19, none, .ld1 none (.tmp 18), 0, false⟩,⟨some 6, none, .mv (.tmp 19), 0, false⟩])
 (.seq (.seq (.regN [1, 2, 4, 6, 14, 15, 16] [
 ⟨some 20, none, .mv (.tmp 6), 0, false⟩,⟨some 21, none, .fldA 0 (.tmp 2), 0, false⟩,⟨some 22, none, .ld1 none (.tmp 21), 0, false⟩,⟨some 23, none, .bini .lss (.tmp 20) (.tmp 22), 0, false⟩,⟨some 24, none, .mv (.tmp 23), 0, false⟩,⟨some 25, some (24, false), .ld1 none (.tmp 1), 0, false⟩,⟨some 26, some (24, false), .mv (.tmp 6), 0, false⟩,⟨some 27, some (24, false), .fldA 0 (.tmp 2), 0, false⟩,⟨some 28, some (24, false), .ld1 none (.tmp 27), 0, false⟩,⟨some 29, some (24, false), .bini .sub (.tmp 26) (.tmp 28), 0, false⟩,⟨some 30, some (24, false), .ixA 1 (.tmp 25) (.tmp 29), 0, false⟩,⟨some 31, some (24, false), .ld1 none (.tmp 30), 0, false⟩,⟨some 32, none, .pick (.tmp 24) (.con (.val (.bool true))) (.tmp 31), 0, false⟩])
 (.cond (.tmp 32)
 (.exit 1)
 .skip))
 (.regN [1, 2, 6, 14, 15, 16] [
 ⟨some 33, none, .ld1 none (.tmp 1), 0, false⟩,⟨some 34, none, .mv (.tmp 6), 0, false⟩,⟨some 35, none, .fldA 0 (.tmp 2), 0, false⟩,⟨some 36, none, .ld1 none (.tmp 35), 0, false⟩,⟨some 37, none, .bini .sub (.tmp 34) (.tmp 36), 0, false⟩,⟨some 38, none, .ixA 1 (.tmp 33) (.tmp 37), 0, false⟩,⟨none, none, .st none 1 (.tmp 38) (.con (.val (.bool true))), 0, false⟩,⟨some 4, none, .mv (.con (.val (.bool true))), 0, false⟩]))))
 (.regN [1, 2, 4, 14, 15, 16] [
 ⟨some 39, none, .bini .add (.tmp 16) (.con (.val (.int .i64 1))), 0, false⟩,⟨some 16, none, .mv (.tmp 39), 0, false⟩]))))
def t77B : AC := (.seq (.regN [0, 1, 2] [
 ⟨some 3, none, .boxR 2 (.tmp 0), 0, false⟩,⟨some 4, none, .mv (.con (.val (.bool false))), 0, false⟩])
 (.seq (.seq (.regN [1, 2, 3, 4] [
 ⟨some 7, none, .ld1 none (.tmp 1), 0, false⟩,⟨some 8, none, .fldA 0 (.tmp 3), 0, false⟩,⟨some 9, none, .ld1 (some 3) (.tmp 8), 0, false⟩,⟨some 10, none, .ixA 1 (.tmp 7) (.tmp 9), 0, false⟩,⟨some 11, none, .ld1 none (.tmp 10), 0, false⟩,⟨some 12, none, .not (.tmp 11), 0, false⟩])
 (.cond (.tmp 12)
 (.seq (.regN [] [
 ⟨some 4, none, .mv (.con (.val (.bool false))), 0, false⟩])
 .ret)
 .skip))
 (.seq .skip
 (.seq (.seq (.regN [1, 2, 3, 4] [
 ⟨some 13, none, .fldA 1 (.tmp 3), 0, false⟩,⟨some 14, none, .ld1 (some 3) (.tmp 13), 0, false⟩,⟨some 15, none, .len false (.tmp 14), 0, false⟩,⟨some 16, none, .mv (.con (.val (.int .i64 0))), 0, false⟩])
 (.block 0
 (.loop [1, 2, 4, 14, 15, 16] t77L1)))
 (.seq (.regN [4] [
 ⟨some 40, none, .mv (.tmp 4), 0, false⟩,⟨some 4, none, .mv (.tmp 40), 0, false⟩])
 .ret)))))
def t77 : AFn := ⟨3, t77B,
 [.tmp 4], true⟩
def t38L1 : AC := (.seq (.regN [1, 4, 5, 17, 18] [
 ⟨some 19, none, .bini .lss (.tmp 18) (.tmp 17), 0, false⟩])
 (.seq (.cond (.tmp 19)
 .skip
 (.exit 0))
 (.seq (.block 1
 (.seq (.regN [1, 4, 5, 17, 18] [
 ⟨some 20, none, .mv (.tmp 18), 0, false⟩,⟨some 6, none, .mv (.tmp 20), 0, false⟩])
 (.regD [1, 4, 5, 6, 17, 18] 1 [
 ⟨some 21, none, .ld1 none (.tmp 5), 0, false⟩,⟨some 22, none, .mv (.tmp 6), 0, false⟩,⟨some 23, none, .fldA 1 (.tmp 1), 0, false⟩,⟨some 24, none, .ld1 none (.tmp 23), 0, false⟩,⟨some 25, none, .mks 1 1 [(.val (.bool false))] (.tmp 24), 0, false⟩,⟨some 26, none, .ixA 1 (.tmp 21) (.tmp 22), 0, false⟩,⟨none, none, .st none 1 (.tmp 26) (.tmp 25), 0, false⟩])))
 (.regN [1, 4, 5, 17, 18] [
 ⟨some 27, none, .bini .add (.tmp 18) (.con (.val (.int .i64 1))), 0, false⟩,⟨some 18, none, .mv (.tmp 27), 0, false⟩]))))
def t38L2 : AC := (.seq (.regN [5, 33, 34] [
 ⟨some 35, none, .bini .lss (.tmp 34) (.tmp 33), 0, false⟩])
 (.seq (.cond (.tmp 35)
 .skip
 (.exit 2))
 (.seq (.block 3
 (.seq (.regN [5, 33, 34] [
 ⟨some 36, none, .mv (.tmp 34), 0, false⟩,⟨some 7, none, .mv (.tmp 36), 0, false⟩])
 (.seq (.regN [5, 7, 33, 34] [
 ⟨some 37, none, .ld1 none (.tmp 5), 0, false⟩,⟨some 38, none, .mv (.tmp 7), 0, false⟩,⟨some 39, none, .ixA 1 (.tmp 37) (.tmp 38), 0, false⟩,⟨some 40, none, .ld1 none (.tmp 39), 0, false⟩,⟨some 41, none, .mv (.tmp 7), 0, false⟩,⟨some 42, none, .ixA 1 (.tmp 40) (.tmp 41), 0, false⟩,⟨some 43, none, .ld1 none (.tmp 42), 0, false⟩])
 (.cond (.tmp 43)
 (.seq (.regN [7] [
 ⟨some 44, none, .mv (.tmp 7), 0, false⟩,⟨some 2, none, .mv (.tmp 44), 0, false⟩,⟨some 3, none, .mv (.con (.val (.bool true))), 0, false⟩])
 .ret)
 .skip))))
 (.regN [5, 33, 34] [
 ⟨some 45, none, .bini .add (.tmp 34) (.con (.val (.int .i64 1))), 0, false⟩,⟨some 34, none, .mv (.tmp 45), 0, false⟩]))))
def t38B : AC := (.seq (.regN [0] [
 ⟨some 1, none, .boxH 4 (.tmp 0), 0, false⟩,⟨some 2, none, .mv (.con (.val (.int .i64 0))), 0, false⟩,⟨some 3, none, .mv (.con (.val (.bool false))), 0, false⟩])
 (.seq (.seq (.regN [1] [
 ⟨some 8, none, .ldA none 4 (.tmp 1), 0, false⟩,⟨some 9, none, .call 28 [(.tmp 8)], 0, false⟩,⟨some 10, none, .bini .neq (.tmp 9) (.con (.val (.int .i64 0))), 0, false⟩])
 (.cond (.tmp 10)
 (.seq (.regN [] [
 ⟨some 2, none, .mv (.con (.val (.int .i64 0))), 0, false⟩,⟨some 3, none, .mv (.con (.val (.bool false))), 0, false⟩])
 .ret)
 .skip))
 (.seq (.regN [1] [
 ⟨some 11, none, .ldA none 4 (.tmp 1), 0, false⟩,⟨some 12, none, .call 58 [(.tmp 11)], 0, false⟩,⟨some 4, none, .allocH [.e0], 0, false⟩,⟨none, none, .st none 1 (.tmp 4) (.tmp 12), 0, false⟩])
 (.seq (.regN [1, 4] [
 ⟨some 13, none, .fldA 1 (.tmp 1), 0, false⟩,⟨some 14, none, .ld1 none (.tmp 13), 0, false⟩,⟨some 15, none, .mks 1 24 [.e0] (.tmp 14), 0, false⟩,⟨some 5, none, .allocH [.e0], 0, false⟩,⟨none, none, .st none 1 (.tmp 5) (.tmp 15), 0, false⟩])
 (.seq (.seq (.regN [1, 4, 5] [
 ⟨some 16, none, .ld1 none (.tmp 5), 0, false⟩,⟨some 17, none, .len false (.tmp 16), 0, false⟩,⟨some 18, none, .mv (.con (.val (.int .i64 0))), 0, false⟩])
 (.block 0
 (.loop [1, 4, 5, 17, 18] t38L1)))
 (.seq (.regN [1, 4, 5] [
 ⟨some 28, none, .fldA 3 (.tmp 1), 0, false⟩,⟨some 29, none, .ld1 none (.tmp 28), 0, false⟩,⟨some 30, none, .mkf 60 [(.tmp 5), (.tmp 1), (.tmp 4)], 0, false⟩,⟨some 31, none, .call 59 [(.tmp 29), (.tmp 30)], 0, false⟩])
 (.seq (.seq (.regN [1, 5] [
 ⟨some 32, none, .fldA 1 (.tmp 1), 0, false⟩,⟨some 33, none, .ld1 none (.tmp 32), 0, false⟩,⟨some 34, none, .mv (.con (.val (.int .i64 0))), 0, false⟩])
 (.block 2
 (.loop [5, 33, 34] t38L2)))
 (.seq (.regN [] [
 ⟨some 2, none, .mv (.con (.val (.int .i64 0))), 0, false⟩,⟨some 3, none, .mv (.con (.val (.bool false))), 0, false⟩])
 .ret))))))))
def t38 : AFn := ⟨1, t38B,
 [.tmp 2, .tmp 3], true⟩
def t58B : AC := (.seq (.regN [0] [
 ⟨some 1, none, .boxR 4 (.tmp 0), 0, false⟩,⟨some 2, none, .mv (.con .e0), 0, false⟩])
 (.seq (.regN [1] [
 ⟨some 3, none, .ldA (some 1) 4 (.tmp 1), 0, false⟩,⟨some 4, none, .call 76 [(.tmp 3), (.con (.val (.bool false)))], 0, false⟩,⟨some 2, none, .mv (.tmp 4), 0, false⟩])
 .ret))
def t58 : AFn := ⟨1, t58B,
 [.tmp 2], true⟩
def t60L1 : AC := (.seq (.regN [1, 5, 6, 8, 20, 21, 22, 29, 30, 31] [
 ⟨some 32, none, .bini .lss (.tmp 31) (.tmp 30), 0, false⟩])
 (.seq (.cond (.tmp 32)
 .skip
 (.exit 2))
 (.seq (.block 3
 (.seq (.regN [1, 5, 6, 8, 20, 21, 22, 29, 30, 31] [
 ⟨some 33, none, .mv (.tmp 31), 0, false⟩,⟨some 34, none, .ixA 1 (.tmp 29) (.tmp 31), 0, false⟩,⟨some 35, none, .ld1 none (.tmp 34), 0, false⟩,⟨some 9, none, .mv (.tmp 33), 0, false⟩,⟨some 10, none, .mv (.tmp 35), 0, false⟩])
 (.seq (.regN [1, 5, 6, 8, 9, 10, 20, 21, 22, 29, 30, 31] [
 ⟨some 36, none, .mv (.tmp 10), 0, false⟩,⟨some 37, none, .mv (.tmp 36), 0, false⟩,⟨some 38, some (37, false), .mv (.tmp 9), 0, false⟩,⟨some 39, some (37, false), .mv (.tmp 8), 0, false⟩,⟨some 40, some (37, false), .bini .eql (.tmp 38) (.tmp 39), 0, false⟩,⟨some 41, none, .pick (.tmp 37) (.con (.val (.bool true))) (.tmp 40), 0, false⟩,⟨some 42, none, .mv (.tmp 41), 0, false⟩,⟨some 43, some (42, true), .mv (.tmp 6), 0, false⟩,⟨some 44, some (42, true), .mv (.tmp 9), 0, false⟩,⟨some 45, some (42, true), .ixA 1 (.tmp 43) (.tmp 44), 0, false⟩,⟨some 46, some (42, true), .ld1 none (.tmp 45), 0, false⟩,⟨some 47, some (42, true), .not (.tmp 46), 0, false⟩,⟨some 48, none, .pick (.tmp 42) (.tmp 47) (.con (.val (.bool false))), 0, false⟩])
 (.cond (.tmp 48)
 (.regN [1, 6, 8, 9, 20, 21, 22, 29, 30, 31] [
 ⟨some 49, none, .mv (.tmp 6), 0, false⟩,⟨some 50, none, .mv (.tmp 9), 0, false⟩,⟨some 51, none, .ixA 1 (.tmp 49) (.tmp 50), 0, false⟩,⟨none, none, .st none 1 (.tmp 51) (.con (.val (.bool true))), 0, false⟩,⟨some 5, none, .mv (.con (.val (.bool true))), 0, false⟩])
 .skip))))
 (.regN [1, 5, 6, 8, 20, 21, 22, 29, 30, 31] [
 ⟨some 52, none, .bini .add (.tmp 31) (.con (.val (.int .i64 1))), 0, false⟩,⟨some 31, none, .mv (.tmp 52), 0, false⟩]))))
def t60L2 : AC := (.seq (.regN [1, 5, 6, 20, 21, 22] [
 ⟨some 23, none, .bini .lss (.tmp 22) (.tmp 21), 0, false⟩])
 (.seq (.cond (.tmp 23)
 .skip
 (.exit 0))
 (.seq (.block 1
 (.seq (.regN [1, 5, 6, 20, 21, 22] [
 ⟨some 24, none, .ixA 1 (.tmp 20) (.tmp 22), 0, false⟩,⟨some 25, none, .ld1 none (.tmp 24), 0, false⟩,⟨some 8, none, .mv (.tmp 25), 0, false⟩])
 (.seq (.regN [1, 5, 6, 8, 20, 21, 22] [
 ⟨some 26, none, .ld1 none (.tmp 1), 0, false⟩,⟨some 27, none, .mv (.tmp 8), 0, false⟩,⟨some 28, none, .ixA 1 (.tmp 26) (.tmp 27), 0, false⟩,⟨some 29, none, .ld1 none (.tmp 28), 0, false⟩,⟨some 30, none, .len false (.tmp 29), 0, false⟩,⟨some 31, none, .mv (.con (.val (.int .i64 0))), 0, false⟩])
 (.block 2
 (.loop [1, 5, 6, 8, 20, 21, 22, 29, 30, 31] t60L1)))))
 (.regN [1, 5, 6, 20, 21, 22] [
 ⟨some 53, none, .bini .add (.tmp 22) (.con (.val (.int .i64 1))), 0, false⟩,⟨some 22, none, .mv (.tmp 53), 0, false⟩]))))
def t60B : AC := (.seq (.regN [0, 1, 2, 3] [
 ⟨some 4, none, .boxR 2 (.tmp 0), 0, false⟩,⟨some 5, none, .mv (.con (.val (.bool false))), 0, false⟩])
 (.seq (.regN [1, 2, 3, 4, 5] [
 ⟨some 11, none, .ld1 none (.tmp 1), 0, false⟩,⟨some 12, none, .fldA 0 (.tmp 4), 0, false⟩,⟨some 13, none, .ld1 (some 4) (.tmp 12), 0, false⟩,⟨some 14, none, .ixA 1 (.tmp 11) (.tmp 13), 0, false⟩,⟨some 15, none, .ld1 none (.tmp 14), 0, false⟩,⟨some 6, none, .mv (.tmp 15), 0, false⟩])
 (.seq (.seq (.regN [1, 2, 3, 4, 5, 6] [
 ⟨some 16, none, .ldA none 4 (.tmp 2), 0, false⟩,⟨some 17, none, .ld1 none (.tmp 3), 0, false⟩,⟨some 18, none, .fldA 1 (.tmp 4), 0, false⟩,⟨some 19, none, .ld1 (some 4) (.tmp 18), 0, false⟩,⟨some 20, none, .call 61 [(.tmp 16), (.tmp 17), (.tmp 19)], 0, false⟩,⟨some 21, none, .len false (.tmp 20), 0, false⟩,⟨some 22, none, .mv (.con (.val (.int .i64 0))), 0, false⟩])
 (.block 0
 (.loop [1, 5, 6, 20, 21, 22] t60L2)))
 (.seq (.regN [5] [
 ⟨some 54, none, .mv (.tmp 5), 0, false⟩,⟨some 5, none, .mv (.tmp 54), 0, false⟩])
 .ret))))
def t60 : AFn := ⟨4, t60B,
 [.tmp 5], true⟩
def t61L1 : AC := (.seq (.regN [1, 3, 6, 9, 10, 11] [
 ⟨some 12, none, .bini .lss (.tmp 11) (.tmp 10), 0, false⟩])
 (.seq (.cond (.tmp 12)
 .skip
 (.exit 0))
 (.seq (.block 1
 (.seq (.regN [1, 3, 6, 9, 10, 11] [
 ⟨some 13, none, .ixA 1 (.tmp 9) (.tmp 11), 0, false⟩,⟨some 14, none, .ld1 none (.tmp 13), 0, false⟩,⟨some 8, none, .mv (.tmp 14), 0, false⟩])
 (.seq (.seq (.regN [1, 3, 6, 8, 9, 10, 11] [
 ⟨some 15, none, .mv (.tmp 8), 0, false⟩,⟨some 16, none, .fldA 0 (.tmp 3), 0, false⟩,⟨some 17, none, .ld1 (some 3) (.tmp 16), 0, false⟩,⟨some 18, none, .bini .lss (.tmp 15) (.tmp 17), 0, false⟩])
 (.cond (.tmp 18)
 (.exit 0)
 .skip))
 (.seq (.regN [1, 3, 6, 8, 9, 10, 11] [
 ⟨some 19, none, .mv (.tmp 6), 0, false⟩,⟨some 20, none, .mv (.tmp 8), 0, false⟩,⟨some 21, none, .fldA 0 (.tmp 3), 0, false⟩,⟨some 22, none, .ld1 (some 3) (.tmp 21), 0, false⟩,⟨some 23, none, .bini .sub (.tmp 20) (.tmp 22), 0, false⟩,⟨some 24, none, .buildS 1 [(.val (.int .i64 0))] [(0, 1, (.tmp 23))], 0, false⟩,⟨some 25, none, .app 1 8 (.tmp 19) (.tmp 24), 0, false⟩,⟨some 6, none, .mv (.tmp 25), 0, false⟩])
 (.seq (.regN [1, 3, 6, 8, 9, 10, 11] [
 ⟨some 26, none, .mv (.tmp 1), 0, false⟩,⟨some 27, none, .mv (.tmp 8), 0, false⟩,⟨some 28, none, .fldA 0 (.tmp 3), 0, false⟩,⟨some 29, none, .ld1 (some 3) (.tmp 28), 0, false⟩,⟨some 30, none, .bini .sub (.tmp 27) (.tmp 29), 0, false⟩,⟨some 31, none, .ixA 1 (.tmp 26) (.tmp 30), 0, false⟩,⟨some 32, none, .ld1 none (.tmp 31), 0, false⟩,⟨some 33, none, .not (.tmp 32), 0, false⟩])
 (.cond (.tmp 33)
 (.exit 0)
 .skip))))))
 (.regN [1, 3, 6, 9, 10, 11] [
 ⟨some 34, none, .bini .add (.tmp 11) (.con (.val (.int .i64 1))), 0, false⟩,⟨some 11, none, .mv (.tmp 34), 0, false⟩]))))
def t61B : AC := (.seq (.regN [0, 1, 2] [
 ⟨some 3, none, .boxR 4 (.tmp 0), 0, false⟩,⟨some 6, none, .mv (.con .e0), 0, false⟩])
 (.seq (.seq (.regN [1, 2, 3, 6] [
 ⟨some 9, none, .mv (.tmp 2), 0, false⟩,⟨some 10, none, .len false (.tmp 9), 0, false⟩,⟨some 11, none, .mv (.con (.val (.int .i64 0))), 0, false⟩])
 (.block 0
 (.loop [1, 3, 6, 9, 10, 11] t61L1)))
 (.seq (.regN [6] [
 ⟨some 35, none, .mv (.tmp 6), 0, false⟩,⟨some 6, none, .mv (.tmp 35), 0, false⟩])
 .ret)))
def t61 : AFn := ⟨3, t61B,
 [.tmp 6], true⟩
def t20L1 : AC := (.seq (.seq (.regN [1, 4, 5, 6] [
 ⟨some 14, none, .mv (.tmp 6), 0, false⟩,⟨some 15, none, .fldA 1 (.tmp 1), 0, false⟩,⟨some 16, none, .ld1 (some 1) (.tmp 15), 0, false⟩,⟨some 17, none, .bini .lss (.tmp 14) (.tmp 16), 0, false⟩])
 (.cond (.tmp 17)
 .skip
 (.exit 0)))
 (.seq (.block 1
 (.seq (.regN [1, 4, 5, 6] [
 ⟨some 20, none, .mv (.tmp 4), 0, false⟩,⟨some 21, none, .mv (.tmp 6), 0, false⟩,⟨some 22, none, .ixA 1 (.tmp 20) (.tmp 21), 0, false⟩,⟨some 23, none, .ld1 none (.tmp 22), 0, false⟩,⟨some 24, none, .not (.tmp 23), 0, false⟩,⟨some 25, none, .mv (.tmp 24), 0, false⟩,⟨some 26, some (25, false), .mv (.tmp 5), 0, false⟩,⟨some 27, some (25, false), .mv (.tmp 6), 0, false⟩,⟨some 28, some (25, false), .ixA 1 (.tmp 26) (.tmp 27), 0, false⟩,⟨some 29, some (25, false), .ld1 none (.tmp 28), 0, false⟩,⟨some 30, some (25, false), .not (.tmp 29), 0, false⟩,⟨some 31, none, .pick (.tmp 25) (.con (.val (.bool true))) (.tmp 30), 0, false⟩])
 (.cond (.tmp 31)
 (.seq (.regN [6] [
 ⟨some 32, none, .mv (.tmp 6), 0, false⟩,⟨some 2, none, .mv (.tmp 32), 0, false⟩,⟨some 3, none, .mv (.con (.val (.bool false))), 0, false⟩])
 .ret)
 .skip)))
 (.regN [1, 4, 5, 6] [
 ⟨some 18, none, .mv (.tmp 6), 0, false⟩,⟨some 19, none, .bini .add (.tmp 18) (.con (.val (.int .i64 1))), 0, false⟩,⟨some 6, none, .mv (.tmp 19), 0, false⟩])))
def t20B : AC := (.seq (.regN [0] [
 ⟨some 1, none, .boxR 4 (.tmp 0), 0, false⟩,⟨some 2, none, .mv (.con (.val (.int .i64 0))), 0, false⟩,⟨some 3, none, .mv (.con (.val (.bool false))), 0, false⟩])
 (.seq (.seq (.regN [1] [
 ⟨some 7, none, .ldA (some 1) 4 (.tmp 1), 0, false⟩,⟨some 8, none, .call 10 [(.tmp 7)], 0, false⟩,⟨some 9, none, .bini .neq (.tmp 8) (.con (.val (.int .i64 0))), 0, false⟩])
 (.cond (.tmp 9)
 (.seq (.regN [] [
 ⟨some 2, none, .mv (.con (.val (.int .i64 0))), 0, false⟩,⟨some 3, none, .mv (.con (.val (.bool false))), 0, false⟩])
 .ret)
 .skip))
 (.seq (.regD [1] 0 [
 ⟨some 10, none, .ldA (some 1) 4 (.tmp 1), 0, false⟩,⟨some 11, none, .call 39 [(.tmp 10)], 0, true⟩,⟨some 12, none, .ldA (some 1) 4 (.tmp 1), 0, false⟩,⟨some 13, none, .call 40 [(.tmp 12)], 0, true⟩,⟨some 4, none, .mv (.tmp 11), 0, false⟩,⟨some 5, none, .mv (.tmp 13), 0, false⟩])
 (.seq (.seq (.regN [1, 4, 5] [
 ⟨some 6, none, .mv (.con (.val (.int .i64 0))), 0, false⟩])
 (.block 0
 (.loop [1, 4, 5, 6] t20L1)))
 (.seq (.regN [] [
 ⟨some 2, none, .mv (.con (.val (.int .i64 0))), 0, false⟩,⟨some 3, none, .mv (.con (.val (.bool true))), 0, false⟩])
 .ret)))))
def t20 : AFn := ⟨1, t20B,
 [.tmp 2, .tmp 3], true⟩
def t39B : AC := (.seq (.regN [0] [
 ⟨some 1, none, .boxR 4 (.tmp 0), 0, false⟩,⟨some 2, none, .mv (.con .e0), 0, false⟩])
 (.seq (.regN [1] [
 ⟨some 3, none, .ldA (some 1) 4 (.tmp 1), 0, false⟩,⟨some 4, none, .call 62 [(.tmp 3), (.con (.val (.bool true)))], 0, false⟩,⟨some 2, none, .mv (.tmp 4), 0, false⟩])
 .ret))
def t39 : AFn := ⟨1, t39B,
 [.tmp 2], true⟩
def t62L1 : AC := (.seq (.seq (.regN [1, 2, 5, 6, 7, 8, 9, 10] [
 ⟨some 37, none, .mv (.tmp 10), 0, false⟩,⟨some 38, none, .fldA 1 (.tmp 8), 0, false⟩,⟨some 39, none, .ld1 (some 8) (.tmp 38), 0, false⟩,⟨some 40, none, .len false (.tmp 39), 0, false⟩,⟨some 41, none, .bini .lss (.tmp 37) (.tmp 40), 0, false⟩,⟨some 42, none, .mv (.tmp 41), 0, false⟩,⟨some 43, some (42, true), .mv (.tmp 9), 0, false⟩,⟨some 44, none, .pick (.tmp 42) (.tmp 43) (.con (.val (.bool false))), 0, false⟩])
 (.cond (.tmp 44)
 .skip
 (.exit 4)))
 (.seq (.block 5
 (.seq (.regN [1, 2, 5, 6, 7, 8, 10] [
 ⟨some 47, none, .fldA 1 (.tmp 8), 0, false⟩,⟨some 48, none, .ld1 (some 8) (.tmp 47), 0, false⟩,⟨some 49, none, .mv (.tmp 10), 0, false⟩,⟨some 50, none, .ixA 1 (.tmp 48) (.tmp 49), 0, false⟩,⟨some 51, none, .ld1 none (.tmp 50), 0, false⟩,⟨some 11, none, .mv (.tmp 51), 0, false⟩])
 (.regN [1, 2, 5, 6, 7, 8, 10, 11] [
 ⟨some 52, none, .mv (.tmp 11), 0, false⟩,⟨some 53, none, .fldA 0 (.tmp 2), 0, false⟩,⟨some 54, none, .ld1 (some 2) (.tmp 53), 0, false⟩,⟨some 55, none, .bini .lss (.tmp 52) (.tmp 54), 0, false⟩,⟨some 56, none, .mv (.tmp 55), 0, false⟩,⟨some 57, some (56, true), .mv (.tmp 1), 0, false⟩,⟨some 58, none, .pick (.tmp 56) (.tmp 57) (.con (.val (.bool false))), 0, false⟩,⟨some 59, none, .mv (.tmp 58), 0, false⟩,⟨some 60, some (59, false), .mv (.tmp 11), 0, false⟩,⟨some 61, some (59, false), .fldA 0 (.tmp 2), 0, false⟩,⟨some 62, some (59, false), .ld1 (some 2) (.tmp 61), 0, false⟩,⟨some 63, some (59, false), .bini .geq (.tmp 60) (.tmp 62), 0, false⟩,⟨some 64, some (59, false), .mv (.tmp 63), 0, false⟩,⟨some 65, some (64, true), .mv (.tmp 5), 0, false⟩,⟨some 66, some (64, true), .mv (.tmp 11), 0, false⟩,⟨some 67, some (64, true), .fldA 0 (.tmp 2), 0, false⟩,⟨some 68, some (64, true), .ld1 (some 2) (.tmp 67), 0, false⟩,⟨some 69, some (64, true), .bini .sub (.tmp 66) (.tmp 68), 0, false⟩,⟨some 70, some (64, true), .ixA 1 (.tmp 65) (.tmp 69), 0, false⟩,⟨some 71, some (64, true), .ld1 none (.tmp 70), 0, false⟩,⟨some 72, some (59, false), .pick (.tmp 64) (.tmp 71) (.con (.val (.bool false))), 0, false⟩,⟨some 73, none, .pick (.tmp 59) (.con (.val (.bool true))) (.tmp 72), 0, false⟩,⟨some 9, none, .mv (.tmp 73), 0, false⟩])))
 (.regN [1, 2, 5, 6, 7, 8, 9, 10] [
 ⟨some 45, none, .mv (.tmp 10), 0, false⟩,⟨some 46, none, .bini .add (.tmp 45) (.con (.val (.int .i64 1))), 0, false⟩,⟨some 10, none, .mv (.tmp 46), 0, false⟩])))
def t62L2 : AC := (.seq (.seq (.regN [1, 2, 5, 6, 7] [
 ⟨some 19, none, .mv (.tmp 7), 0, false⟩,⟨some 20, none, .fldA 3 (.tmp 2), 0, false⟩,⟨some 21, none, .ld1 (some 2) (.tmp 20), 0, false⟩,⟨some 22, none, .len false (.tmp 21), 0, false⟩,⟨some 23, none, .bini .lss (.tmp 19) (.tmp 22), 0, false⟩])
 (.cond (.tmp 23)
 .skip
 (.exit 2)))
 (.seq (.block 3
 (.seq (.regN [1, 2, 5, 6, 7] [
 ⟨some 26, none, .fldA 3 (.tmp 2), 0, false⟩,⟨some 27, none, .ld1 (some 2) (.tmp 26), 0, false⟩,⟨some 28, none, .mv (.tmp 7), 0, false⟩,⟨some 29, none, .ixA 2 (.tmp 27) (.tmp 28), 0, false⟩,⟨some 30, none, .ldA none 2 (.tmp 29), 0, false⟩,⟨some 8, none, .allocR [(.val (.int .i64 0)), .e0], 0, false⟩,⟨none, none, .st (some 8) 2 (.tmp 8) (.tmp 30), 0, false⟩])
 (.seq (.regN [1, 2, 5, 6, 7, 8] [
 ⟨some 31, none, .mv (.tmp 5), 0, false⟩,⟨some 32, none, .fldA 0 (.tmp 8), 0, false⟩,⟨some 33, none, .ld1 (some 8) (.tmp 32), 0, false⟩,⟨some 34, none, .ixA 1 (.tmp 31) (.tmp 33), 0, false⟩,⟨some 35, none, .ld1 none (.tmp 34), 0, false⟩,⟨some 36, none, .not (.tmp 35), 0, false⟩,⟨some 9, none, .mv (.tmp 36), 0, false⟩])
 (.seq (.seq (.regN [1, 2, 5, 6, 7, 8, 9] [
 ⟨some 10, none, .mv (.con (.val (.int .i64 0))), 0, false⟩])
 (.block 4
 (.loop [1, 2, 5, 6, 7, 8, 9, 10] t62L1)))
 (.seq (.regN [1, 2, 5, 6, 7, 8, 9] [
 ⟨some 74, none, .mv (.tmp 9), 0, false⟩])
 (.cond (.tmp 74)
 (.regN [1, 2, 5, 7, 8] [
 ⟨some 75, none, .mv (.tmp 5), 0, false⟩,⟨some 76, none, .fldA 0 (.tmp 8), 0, false⟩,⟨some 77, none, .ld1 (some 8) (.tmp 76), 0, false⟩,⟨some 78, none, .ixA 1 (.tmp 75) (.tmp 77), 0, false⟩,⟨none, none, .st none 1 (.tmp 78) (.con (.val (.bool true))), 0, false⟩,⟨some 6, none, .mv (.con (.val (.bool true))), 0, false⟩])
 .skip))))))
 (.regN [1, 2, 5, 6, 7] [
 ⟨some 24, none, .mv (.tmp 7), 0, false⟩,⟨some 25, none, .bini .add (.tmp 24) (.con (.val (.int .i64 1))), 0, false⟩,⟨some 7, none, .mv (.tmp 25), 0, false⟩])))
def t62L3 : AC := (.seq (.seq (.regN [1, 2, 5, 6] [
 ⟨some 18, none, .mv (.tmp 6), 0, false⟩])
 (.cond (.tmp 18)
 .skip
 (.exit 0)))
 (.block 1
 (.seq (.regN [1, 2, 5] [
 ⟨some 6, none, .mv (.con (.val (.bool false))), 0, false⟩])
 (.seq (.regN [1, 2, 5, 6] [
 ⟨some 7, none, .mv (.con (.val (.int .i64 0))), 0, false⟩])
 (.block 2
 (.loop [1, 2, 5, 6, 7] t62L2))))))
def t62B : AC := (.seq (.regN [0, 1] [
 ⟨some 2, none, .boxR 4 (.tmp 0), 0, false⟩,⟨some 4, none, .mv (.con .e0), 0, false⟩])
 (.seq (.seq (.regN [1, 2] [
 ⟨some 12, none, .ldA (some 2) 4 (.tmp 2), 0, false⟩,⟨some 13, none, .call 10 [(.tmp 12)], 0, false⟩,⟨some 14, none, .bini .neq (.tmp 13) (.con (.val (.int .i64 0))), 0, false⟩])
 (.cond (.tmp 14)
 (.seq (.regN [] [
 ⟨some 4, none, .mv (.con .e0), 0, false⟩])
 .ret)
 .skip))
 (.seq (.regN [1, 2] [
 ⟨some 15, none, .fldA 1 (.tmp 2), 0, false⟩,⟨some 16, none, .ld1 (some 2) (.tmp 15), 0, false⟩,⟨some 17, none, .mks 1 1 [(.val (.bool false))] (.tmp 16), 0, false⟩,⟨some 5, none, .mv (.tmp 17), 0, false⟩])
 (.seq (.seq (.regN [1, 2, 5] [
 ⟨some 6, none, .mv (.con (.val (.bool true))), 0, false⟩])
 (.block 0
 (.loop [1, 2, 5, 6] t62L3)))
 (.seq (.regN [5] [
 ⟨some 79, none, .mv (.tmp 5), 0, false⟩,⟨some 4, none, .mv (.tmp 79), 0, false⟩])
 .ret)))))
def t62 : AFn := ⟨2, t62B,
 [.tmp 4], true⟩
def t40L1 : AC := (.seq (.seq (.regN [1, 3, 4, 5, 6, 7] [
 ⟨some 30, none, .mv (.tmp 7), 0, false⟩,⟨some 31, none, .fldA 1 (.tmp 6), 0, false⟩,⟨some 32, none, .ld1 (some 6) (.tmp 31), 0, false⟩,⟨some 33, none, .len false (.tmp 32), 0, false⟩,⟨some 34, none, .bini .lss (.tmp 30) (.tmp 33), 0, false⟩,⟨some 35, none, .mv (.tmp 34), 0, false⟩,⟨some 36, some (35, true), .mv (.tmp 3), 0, false⟩,⟨some 37, some (35, true), .fldA 0 (.tmp 6), 0, false⟩,⟨some 38, some (35, true), .ld1 (some 6) (.tmp 37), 0, false⟩,⟨some 39, some (35, true), .ixA 1 (.tmp 36) (.tmp 38), 0, false⟩,⟨some 40, some (35, true), .ld1 none (.tmp 39), 0, false⟩,⟨some 41, none, .pick (.tmp 35) (.tmp 40) (.con (.val (.bool false))), 0, false⟩])
 (.cond (.tmp 41)
 .skip
 (.exit 4)))
 (.seq (.block 5
 (.seq (.regD [1, 3, 4, 5, 6, 7] 0 [
 ⟨some 44, none, .fldA 1 (.tmp 6), 0, false⟩,⟨some 45, none, .ld1 (some 6) (.tmp 44), 0, false⟩,⟨some 46, none, .mv (.tmp 7), 0, false⟩,⟨some 47, none, .ixA 1 (.tmp 45) (.tmp 46), 0, false⟩,⟨some 48, none, .ld1 none (.tmp 47), 0, false⟩,⟨some 49, none, .fldA 0 (.tmp 1), 0, false⟩,⟨some 50, none, .ld1 (some 1) (.tmp 49), 0, false⟩,⟨some 51, none, .bini .sub (.tmp 48) (.tmp 50), 0, false⟩,⟨some 8, none, .mv (.tmp 51), 0, false⟩])
 (.seq (.regN [1, 3, 4, 5, 6, 7, 8] [
 ⟨some 52, none, .mv (.tmp 8), 0, false⟩,⟨some 53, none, .bini .geq (.tmp 52) (.con (.val (.int .i64 0))), 0, false⟩,⟨some 54, none, .mv (.tmp 53), 0, false⟩,⟨some 55, some (54, true), .mv (.tmp 3), 0, false⟩,⟨some 56, some (54, true), .mv (.tmp 8), 0, false⟩,⟨some 57, some (54, true), .ixA 1 (.tmp 55) (.tmp 56), 0, false⟩,⟨some 58, some (54, true), .ld1 none (.tmp 57), 0, false⟩,⟨some 59, some (54, true), .not (.tmp 58), 0, false⟩,⟨some 60, none, .pick (.tmp 54) (.tmp 59) (.con (.val (.bool false))), 0, false⟩])
 (.cond (.tmp 60)
 (.regN [1, 3, 5, 6, 7, 8] [
 ⟨some 61, none, .mv (.tmp 3), 0, false⟩,⟨some 62, none, .mv (.tmp 8), 0, false⟩,⟨some 63, none, .ixA 1 (.tmp 61) (.tmp 62), 0, false⟩,⟨none, none, .st none 1 (.tmp 63) (.con (.val (.bool true))), 0, false⟩,⟨some 4, none, .mv (.con (.val (.bool true))), 0, false⟩])
 .skip))))
 (.regN [1, 3, 4, 5, 6, 7] [
 ⟨some 42, none, .mv (.tmp 7), 0, false⟩,⟨some 43, none, .bini .add (.tmp 42) (.con (.val (.int .i64 1))), 0, false⟩,⟨some 7, none, .mv (.tmp 43), 0, false⟩])))
def t40L2 : AC := (.seq (.seq (.regN [1, 3, 4, 5] [
 ⟨some 18, none, .mv (.tmp 5), 0, false⟩,⟨some 19, none, .fldA 3 (.tmp 1), 0, false⟩,⟨some 20, none, .ld1 (some 1) (.tmp 19), 0, false⟩,⟨some 21, none, .len false (.tmp 20), 0, false⟩,⟨some 22, none, .bini .lss (.tmp 18) (.tmp 21), 0, false⟩])
 (.cond (.tmp 22)
 .skip
 (.exit 2)))
 (.seq (.block 3
 (.seq (.regN [1, 3, 4, 5] [
 ⟨some 25, none, .fldA 3 (.tmp 1), 0, false⟩,⟨some 26, none, .ld1 (some 1) (.tmp 25), 0, false⟩,⟨some 27, none, .mv (.tmp 5), 0, false⟩,⟨some 28, none, .ixA 2 (.tmp 26) (.tmp 27), 0, false⟩,⟨some 29, none, .ldA none 2 (.tmp 28), 0, false⟩,⟨some 6, none, .allocR [(.val (.int .i64 0)), .e0], 0, false⟩,⟨none, none, .st (some 6) 2 (.tmp 6) (.tmp 29), 0, false⟩])
 (.seq (.regN [1, 3, 4, 5, 6] [
 ⟨some 7, none, .mv (.con (.val (.int .i64 0))), 0, false⟩])
 (.block 4
 (.loop [1, 3, 4, 5, 6, 7] t40L1)))))
 (.regN [1, 3, 4, 5] [
 ⟨some 23, none, .mv (.tmp 5), 0, false⟩,⟨some 24, none, .bini .add (.tmp 23) (.con (.val (.int .i64 1))), 0, false⟩,⟨some 5, none, .mv (.tmp 24), 0, false⟩])))
def t40L3 : AC := (.seq (.seq (.regN [1, 3, 4] [
 ⟨some 17, none, .mv (.tmp 4), 0, false⟩])
 (.cond (.tmp 17)
 .skip
 (.exit 0)))
 (.block 1
 (.seq (.regN [1, 3] [
 ⟨some 4, none, .mv (.con (.val (.bool false))), 0, false⟩])
 (.seq (.regN [1, 3, 4] [
 ⟨some 5, none, .mv (.con (.val (.int .i64 0))), 0, false⟩])
 (.block 2
 (.loop [1, 3, 4, 5] t40L2))))))
def t40B : AC := (.seq (.regN [0] [
 ⟨some 1, none, .boxR 4 (.tmp 0), 0, false⟩,⟨some 2, none, .mv (.con .e0), 0, false⟩])
 (.seq (.seq (.regN [1] [
 ⟨some 9, none, .ldA (some 1) 4 (.tmp 1), 0, false⟩,⟨some 10, none, .call 10 [(.tmp 9)], 0, false⟩,⟨some 11, none, .bini .neq (.tmp 10) (.con (.val (.int .i64 0))), 0, false⟩])
 (.cond (.tmp 11)
 (.seq (.regN [] [
 ⟨some 2, none, .mv (.con .e0), 0, false⟩])
 .ret)
 .skip))
 (.seq (.regN [1] [
 ⟨some 12, none, .fldA 1 (.tmp 1), 0, false⟩,⟨some 13, none, .ld1 (some 1) (.tmp 12), 0, false⟩,⟨some 14, none, .mks 1 1 [(.val (.bool false))] (.tmp 13), 0, false⟩,⟨some 3, none, .mv (.tmp 14), 0, false⟩])
 (.seq (.regN [1, 3] [
 ⟨some 15, none, .mv (.tmp 3), 0, false⟩,⟨some 16, none, .ixA 1 (.tmp 15) (.con (.val (.int .i64 0))), 0, false⟩,⟨none, none, .st none 1 (.tmp 16) (.con (.val (.bool true))), 0, false⟩])
 (.seq (.seq (.regN [1, 3] [
 ⟨some 4, none, .mv (.con (.val (.bool true))), 0, false⟩])
 (.block 0
 (.loop [1, 3, 4] t40L3)))
 (.seq (.regN [3] [
 ⟨some 64, none, .mv (.tmp 3), 0, false⟩,⟨some 2, none, .mv (.tmp 64), 0, false⟩])
 .ret))))))
def t40 : AFn := ⟨1, t40B,
 [.tmp 2], true⟩
def t21L1 : AC := (.seq (.seq (.regN [1, 4, 5, 6] [
 ⟨some 23, none, .mv (.tmp 6), 0, false⟩,⟨some 24, none, .fldA 1 (.tmp 1), 0, false⟩,⟨some 25, none, .ld1 (some 1) (.tmp 24), 0, false⟩,⟨some 26, none, .bini .lss (.tmp 23) (.tmp 25), 0, false⟩])
 (.cond (.tmp 26)
 .skip
 (.exit 0)))
 (.seq (.block 1
 (.regN [1, 4, 5, 6] [
 ⟨some 29, none, .mv (.tmp 5), 0, false⟩,⟨some 30, none, .mv (.tmp 6), 0, false⟩,⟨some 31, none, .fldA 1 (.tmp 1), 0, false⟩,⟨some 32, none, .ld1 (some 1) (.tmp 31), 0, false⟩,⟨some 33, none, .mks 1 1 [(.val (.bool false))] (.tmp 32), 0, false⟩,⟨some 34, none, .ixA 1 (.tmp 29) (.tmp 30), 0, false⟩,⟨none, none, .st none 1 (.tmp 34) (.tmp 33), 0, false⟩]))
 (.regN [1, 4, 5, 6] [
 ⟨some 27, none, .mv (.tmp 6), 0, false⟩,⟨some 28, none, .bini .add (.tmp 27) (.con (.val (.int .i64 1))), 0, false⟩,⟨some 6, none, .mv (.tmp 28), 0, false⟩])))
def t21L2 : AC := (.seq (.seq (.regD [1, 4, 5, 7, 8, 9] 0 [
 ⟨some 47, none, .mv (.tmp 9), 0, false⟩,⟨some 48, none, .fldA 1 (.tmp 8), 0, false⟩,⟨some 49, none, .ld1 (some 8) (.tmp 48), 0, false⟩,⟨some 50, none, .len false (.tmp 49), 0, false⟩,⟨some 51, none, .bini .lss (.tmp 47) (.tmp 50), 0, false⟩,⟨some 52, none, .mv (.tmp 51), 0, false⟩,⟨some 53, some (52, true), .fldA 1 (.tmp 8), 0, false⟩,⟨some 54, some (52, true), .ld1 (some 8) (.tmp 53), 0, false⟩,⟨some 55, some (52, true), .mv (.tmp 9), 0, false⟩,⟨some 56, some (52, true), .ixA 1 (.tmp 54) (.tmp 55), 0, false⟩,⟨some 57, some (52, true), .ld1 none (.tmp 56), 0, false⟩,⟨some 58, some (52, true), .fldA 0 (.tmp 1), 0, false⟩,⟨some 59, some (52, true), .ld1 (some 1) (.tmp 58), 0, false⟩,⟨some 60, some (52, true), .bini .geq (.tmp 57) (.tmp 59), 0, false⟩,⟨some 61, none, .pick (.tmp 52) (.tmp 60) (.con (.val (.bool false))), 0, false⟩])
 (.cond (.tmp 61)
 .skip
 (.exit 4)))
 (.seq (.block 5
 (.seq (.regD [1, 4, 5, 7, 8, 9] 0 [
 ⟨some 64, none, .fldA 1 (.tmp 8), 0, false⟩,⟨some 65, none, .ld1 (some 8) (.tmp 64), 0, false⟩,⟨some 66, none, .mv (.tmp 9), 0, false⟩,⟨some 67, none, .ixA 1 (.tmp 65) (.tmp 66), 0, false⟩,⟨some 68, none, .ld1 none (.tmp 67), 0, false⟩,⟨some 69, none, .fldA 0 (.tmp 1), 0, false⟩,⟨some 70, none, .ld1 (some 1) (.tmp 69), 0, false⟩,⟨some 71, none, .bini .sub (.tmp 68) (.tmp 70), 0, false⟩,⟨some 10, none, .mv (.tmp 71), 0, false⟩])
 (.seq (.regN [1, 4, 5, 7, 8, 9, 10] [
 ⟨some 72, none, .mv (.tmp 5), 0, false⟩,⟨some 73, none, .fldA 0 (.tmp 8), 0, false⟩,⟨some 74, none, .ld1 (some 8) (.tmp 73), 0, false⟩,⟨some 75, none, .ixA 1 (.tmp 72) (.tmp 74), 0, false⟩,⟨some 76, none, .ld1 none (.tmp 75), 0, false⟩,⟨some 77, none, .mv (.tmp 10), 0, false⟩,⟨some 78, none, .ixA 1 (.tmp 76) (.tmp 77), 0, false⟩,⟨none, none, .st none 1 (.tmp 78) (.con (.val (.bool true))), 0, false⟩])
 (.seq (.regN [1, 4, 5, 7, 8, 9, 10] [
 ⟨some 79, none, .mv (.tmp 4), 0, false⟩,⟨some 80, none, .mv (.tmp 10), 0, false⟩,⟨some 81, none, .ixA 1 (.tmp 79) (.tmp 80), 0, false⟩,⟨some 82, none, .ld1 none (.tmp 81), 0, false⟩,⟨some 83, none, .not (.tmp 82), 0, false⟩])
 (.cond (.tmp 83)
 (.exit 4)
 .skip)))))
 (.regN [1, 4, 5, 7, 8, 9] [
 ⟨some 62, none, .mv (.tmp 9), 0, false⟩,⟨some 63, none, .bini .add (.tmp 62) (.con (.val (.int .i64 1))), 0, false⟩,⟨some 9, none, .mv (.tmp 63), 0, false⟩])))
def t21L3 : AC := (.seq (.seq (.regN [1, 4, 5, 7] [
 ⟨some 35, none, .mv (.tmp 7), 0, false⟩,⟨some 36, none, .fldA 3 (.tmp 1), 0, false⟩,⟨some 37, none, .ld1 (some 1) (.tmp 36), 0, false⟩,⟨some 38, none, .len false (.tmp 37), 0, false⟩,⟨some 39, none, .bini .lss (.tmp 35) (.tmp 38), 0, false⟩])
 (.cond (.tmp 39)
 .skip
 (.exit 2)))
 (.seq (.block 3
 (.seq (.regN [1, 4, 5, 7] [
 ⟨some 42, none, .fldA 3 (.tmp 1), 0, false⟩,⟨some 43, none, .ld1 (some 1) (.tmp 42), 0, false⟩,⟨some 44, none, .mv (.tmp 7), 0, false⟩,⟨some 45, none, .ixA 2 (.tmp 43) (.tmp 44), 0, false⟩,⟨some 46, none, .ldA none 2 (.tmp 45), 0, false⟩,⟨some 8, none, .allocR [(.val (.int .i64 0)), .e0], 0, false⟩,⟨none, none, .st (some 8) 2 (.tmp 8) (.tmp 46), 0, false⟩])
 (.seq (.regN [1, 4, 5, 7, 8] [
 ⟨some 9, none, .mv (.con (.val (.int .i64 0))), 0, false⟩])
 (.block 4
 (.loop [1, 4, 5, 7, 8, 9] t21L2)))))
 (.regN [1, 4, 5, 7] [
 ⟨some 40, none, .mv (.tmp 7), 0, false⟩,⟨some 41, none, .bini .add (.tmp 40) (.con (.val (.int .i64 1))), 0, false⟩,⟨some 7, none, .mv (.tmp 41), 0, false⟩])))
def t21L4 : AC := (.seq (.seq (.regN [1, 5, 11, 12, 13] [
 ⟨some 96, none, .mv (.tmp 13), 0, false⟩,⟨some 97, none, .fldA 1 (.tmp 1), 0, false⟩,⟨some 98, none, .ld1 (some 1) (.tmp 97), 0, false⟩,⟨some 99, none, .bini .lss (.tmp 96) (.tmp 98), 0, false⟩])
 (.cond (.tmp 99)
 .skip
 (.exit 10)))
 (.seq (.block 11
 (.regD [1, 5, 11, 12, 13] 0 [
 ⟨some 102, none, .mv (.tmp 5), 0, false⟩,⟨some 103, none, .mv (.tmp 12), 0, false⟩,⟨some 104, none, .ixA 1 (.tmp 102) (.tmp 103), 0, false⟩,⟨some 105, none, .ld1 none (.tmp 104), 0, false⟩,⟨some 106, none, .mv (.tmp 13), 0, false⟩,⟨some 107, none, .mv (.tmp 5), 0, false⟩,⟨some 108, none, .mv (.tmp 12), 0, false⟩,⟨some 109, none, .ixA 1 (.tmp 107) (.tmp 108), 0, false⟩,⟨some 110, none, .ld1 none (.tmp 109), 0, false⟩,⟨some 111, none, .mv (.tmp 13), 0, false⟩,⟨some 112, none, .ixA 1 (.tmp 110) (.tmp 111), 0, false⟩,⟨some 113, none, .ld1 none (.tmp 112), 0, false⟩,⟨some 114, none, .mv (.tmp 113), 0, false⟩,⟨some 115, some (114, false), .mv (.tmp 5), 0, false⟩,⟨some 116, some (114, false), .mv (.tmp 12), 0, false⟩,⟨some 117, some (114, false), .ixA 1 (.tmp 115) (.tmp 116), 0, false⟩,⟨some 118, some (114, false), .ld1 none (.tmp 117), 0, false⟩,⟨some 119, some (114, false), .mv (.tmp 11), 0, false⟩,⟨some 120, some (114, false), .ixA 1 (.tmp 118) (.tmp 119), 0, false⟩,⟨some 121, some (114, false), .ld1 none (.tmp 120), 0, false⟩,⟨some 122, some (114, false), .mv (.tmp 121), 0, false⟩,⟨some 123, some (122, true), .mv (.tmp 5), 0, false⟩,⟨some 124, some (122, true), .mv (.tmp 11), 0, false⟩,⟨some 125, some (122, true), .ixA 1 (.tmp 123) (.tmp 124), 0, false⟩,⟨some 126, some (122, true), .ld1 none (.tmp 125), 0, false⟩,⟨some 127, some (122, true), .mv (.tmp 13), 0, false⟩,⟨some 128, some (122, true), .ixA 1 (.tmp 126) (.tmp 127), 0, false⟩,⟨some 129, some (122, true), .ld1 none (.tmp 128), 0, false⟩,⟨some 130, some (114, false), .pick (.tmp 122) (.tmp 129) (.con (.val (.bool false))), 0, false⟩,⟨some 131, none, .pick (.tmp 114) (.con (.val (.bool true))) (.tmp 130), 0, false⟩,⟨some 132, none, .ixA 1 (.tmp 105) (.tmp 106), 0, false⟩,⟨none, none, .st none 1 (.tmp 132) (.tmp 131), 0, false⟩]))
 (.regN [1, 5, 11, 12, 13] [
 ⟨some 100, none, .mv (.tmp 13), 0, false⟩,⟨some 101, none, .bini .add (.tmp 100) (.con (.val (.int .i64 1))), 0, false⟩,⟨some 13, none, .mv (.tmp 101), 0, false⟩])))
def t21L5 : AC := (.seq (.seq (.regN [1, 5, 11, 12] [
 ⟨some 90, none, .mv (.tmp 12), 0, false⟩,⟨some 91, none, .fldA 1 (.tmp 1), 0, false⟩,⟨some 92, none, .ld1 (some 1) (.tmp 91), 0, false⟩,⟨some 93, none, .bini .lss (.tmp 90) (.tmp 92), 0, false⟩])
 (.cond (.tmp 93)
 .skip
 (.exit 8)))
 (.seq (.block 9
 (.seq (.regN [1, 5, 11, 12] [
 ⟨some 13, none, .mv (.con (.val (.int .i64 0))), 0, false⟩])
 (.block 10
 (.loop [1, 5, 11, 12, 13] t21L4))))
 (.regN [1, 5, 11, 12] [
 ⟨some 94, none, .mv (.tmp 12), 0, false⟩,⟨some 95, none, .bini .add (.tmp 94) (.con (.val (.int .i64 1))), 0, false⟩,⟨some 12, none, .mv (.tmp 95), 0, false⟩])))
def t21L6 : AC := (.seq (.seq (.regN [1, 5, 11] [
 ⟨some 84, none, .mv (.tmp 11), 0, false⟩,⟨some 85, none, .fldA 1 (.tmp 1), 0, false⟩,⟨some 86, none, .ld1 (some 1) (.tmp 85), 0, false⟩,⟨some 87, none, .bini .lss (.tmp 84) (.tmp 86), 0, false⟩])
 (.cond (.tmp 87)
 .skip
 (.exit 6)))
 (.seq (.block 7
 (.seq (.regN [1, 5, 11] [
 ⟨some 12, none, .mv (.con (.val (.int .i64 0))), 0, false⟩])
 (.block 8
 (.loop [1, 5, 11, 12] t21L5))))
 (.regN [1, 5, 11] [
 ⟨some 88, none, .mv (.tmp 11), 0, false⟩,⟨some 89, none, .bini .add (.tmp 88) (.con (.val (.int .i64 1))), 0, false⟩,⟨some 11, none, .mv (.tmp 89), 0, false⟩])))
def t21L7 : AC := (.seq (.seq (.regN [1, 5, 14] [
 ⟨some 133, none, .mv (.tmp 14), 0, false⟩,⟨some 134, none, .fldA 1 (.tmp 1), 0, false⟩,⟨some 135, none, .ld1 (some 1) (.tmp 134), 0, false⟩,⟨some 136, none, .bini .lss (.tmp 133) (.tmp 135), 0, false⟩])
 (.cond (.tmp 136)
 .skip
 (.exit 12)))
 (.seq (.block 13
 (.seq (.regN [1, 5, 14] [
 ⟨some 139, none, .mv (.tmp 5), 0, false⟩,⟨some 140, none, .mv (.tmp 14), 0, false⟩,⟨some 141, none, .ixA 1 (.tmp 139) (.tmp 140), 0, false⟩,⟨some 142, none, .ld1 none (.tmp 141), 0, false⟩,⟨some 143, none, .mv (.tmp 14), 0, false⟩,⟨some 144, none, .ixA 1 (.tmp 142) (.tmp 143), 0, false⟩,⟨some 145, none, .ld1 none (.tmp 144), 0, false⟩])
 (.cond (.tmp 145)
 (.seq (.regN [14] [
 ⟨some 146, none, .mv (.tmp 14), 0, false⟩,⟨some 2, none, .mv (.tmp 146), 0, false⟩,⟨some 3, none, .mv (.con (.val (.bool true))), 0, false⟩])
 .ret)
 .skip)))
 (.regN [1, 5, 14] [
 ⟨some 137, none, .mv (.tmp 14), 0, false⟩,⟨some 138, none, .bini .add (.tmp 137) (.con (.val (.int .i64 1))), 0, false⟩,⟨some 14, none, .mv (.tmp 138), 0, false⟩])))
def t21B : AC := (.seq (.regN [0] [
 ⟨some 1, none, .boxR 4 (.tmp 0), 0, false⟩,⟨some 2, none, .mv (.con (.val (.int .i64 0))), 0, false⟩,⟨some 3, none, .mv (.con (.val (.bool false))), 0, false⟩])
 (.seq (.seq (.regN [1] [
 ⟨some 15, none, .ldA (some 1) 4 (.tmp 1), 0, false⟩,⟨some 16, none, .call 10 [(.tmp 15)], 0, false⟩,⟨some 17, none, .bini .neq (.tmp 16) (.con (.val (.int .i64 0))), 0, false⟩])
 (.cond (.tmp 17)
 (.seq (.regN [] [
 ⟨some 2, none, .mv (.con (.val (.int .i64 0))), 0, false⟩,⟨some 3, none, .mv (.con (.val (.bool false))), 0, false⟩])
 .ret)
 .skip))
 (.seq (.regN [1] [
 ⟨some 18, none, .ldA (some 1) 4 (.tmp 1), 0, false⟩,⟨some 19, none, .call 41 [(.tmp 18)], 0, false⟩,⟨some 4, none, .mv (.tmp 19), 0, false⟩])
 (.seq (.regN [1, 4] [
 ⟨some 20, none, .fldA 1 (.tmp 1), 0, false⟩,⟨some 21, none, .ld1 (some 1) (.tmp 20), 0, false⟩,⟨some 22, none, .mks 1 24 [.e0] (.tmp 21), 0, false⟩,⟨some 5, none, .mv (.tmp 22), 0, false⟩])
 (.seq (.seq (.regN [1, 4, 5] [
 ⟨some 6, none, .mv (.con (.val (.int .i64 0))), 0, false⟩])
 (.block 0
 (.loop [1, 4, 5, 6] t21L1)))
 (.seq (.seq (.regN [1, 4, 5] [
 ⟨some 7, none, .mv (.con (.val (.int .i64 0))), 0, false⟩])
 (.block 2
 (.loop [1, 4, 5, 7] t21L3)))
 (.seq (.seq (.regN [1, 5] [
 ⟨some 11, none, .mv (.con (.val (.int .i64 0))), 0, false⟩])
 (.block 6
 (.loop [1, 5, 11] t21L6)))
 (.seq (.seq (.regN [1, 5] [
 ⟨some 14, none, .mv (.con (.val (.int .i64 0))), 0, false⟩])
 (.block 12
 (.loop [1, 5, 14] t21L7)))
 (.seq (.regN [] [
 ⟨some 2, none, .mv (.con (.val (.int .i64 0))), 0, false⟩,⟨some 3, none, .mv (.con (.val (.bool false))), 0, false⟩])
 .ret)))))))))
def t21 : AFn := ⟨1, t21B,
 [.tmp 2, .tmp 3], true⟩
def t41B : AC := (.seq (.regN [0] [
 ⟨some 1, none, .boxR 4 (.tmp 0), 0, false⟩,⟨some 2, none, .mv (.con .e0), 0, false⟩])
 (.seq (.regN [1] [
 ⟨some 3, none, .ldA (some 1) 4 (.tmp 1), 0, false⟩,⟨some 4, none, .call 62 [(.tmp 3), (.con (.val (.bool false)))], 0, false⟩,⟨some 2, none, .mv (.tmp 4), 0, false⟩])
 .ret))
def t41 : AFn := ⟨1, t41B,
 [.tmp 2], true⟩
def t22B : AC := (.seq (.regN [0] [
 ⟨some 1, none, .boxR 4 (.tmp 0), 0, false⟩,⟨some 2, none, .allocR [(.val (.int .i64 0)), (.val (.int .i64 0)), (.val (.int .i64 0)), (.val (.string ⟨#[]⟩))], 0, false⟩,⟨some 3, none, .mv (.con (.val (.bool false))), 0, false⟩])
 (.seq (.regN [1, 2] [
 ⟨some 7, none, .ldA (some 1) 4 (.tmp 1), 0, false⟩,⟨some 8, none, .call 13 [(.tmp 7)], 0, false⟩,⟨some 6, none, .mv (.tmp 8), 0, false⟩,⟨some 9, none, .ext (.tmp 6) 0, 0, false⟩,⟨some 10, none, .ext (.tmp 6) 1, 0, false⟩,⟨some 11, none, .ext (.tmp 6) 2, 0, false⟩,⟨some 4, none, .allocR [.e0], 0, false⟩,⟨none, none, .st (some 4) 1 (.tmp 4) (.tmp 9), 0, false⟩,⟨none, none, .st (some 2) 4 (.tmp 2) (.tmp 10), 0, false⟩,⟨some 5, none, .mv (.tmp 11), 0, false⟩])
 (.seq (.regN [2, 5] [
 ⟨some 12, none, .ldA (some 2) 4 (.tmp 2), 0, false⟩,⟨some 13, none, .mv (.tmp 5), 0, false⟩,⟨some 14, none, .bini .eql (.tmp 13) (.con (.val (.int .i64 0))), 0, false⟩,⟨none, none, .st (some 2) 4 (.tmp 2) (.tmp 12), 0, false⟩,⟨some 3, none, .mv (.tmp 14), 0, false⟩])
 .ret)))
def t22 : AFn := ⟨1, t22B,
 [.cell 2 4 true, .tmp 3], true⟩
def t7B : AC := (.seq (.regN [] [
 kx 0 (.mv (.con (.val (.bool false))))])
 (.seq (.seq (.regN [] [
 kx 12 (.call 8 []),kx 13 (.not (ux 12))])
 (.cond (ux 13)
 (.seq (.regN [] [
 kx 0 (.mv (.con (.val (.bool false))))])
 .ret)
 .skip))
 (.seq (.regN [] [
 kx 15 (.call 23 [(.con (.val (.int .i64 2)))]),kx 16 (.call 13 [(ux 15)]),kx 14 (.mv (ux 16)),kx 17 (.ext (ux 14) 0),kx 18 (.ext (ux 14) 1),kx 19 (.ext (ux 14) 2),kx 1 (.allocR [.e0]),kx 2 (.allocR [(.val (.int .i64 0)), (.val (.int .i64 0)), (.val (.int .i64 0)), (.val (.string ⟨#[]⟩))]),⟨none, none, .st (some 1) 1 (ux 1) (ux 17), 0, false⟩,⟨none, none, .st (some 2) 4 (ux 2) (ux 18), 0, false⟩,kx 3 (.mv (ux 19))])
 (.seq (.regN [1, 2] [
 kx 21 (.call 23 [(.con (.val (.int .i64 2)))]),kx 22 (.call 22 [(ux 21)]),kx 20 (.mv (ux 22)),kx 23 (.ext (ux 20) 0),kx 24 (.ext (ux 20) 1),kx 4 (.allocR [(.val (.int .i64 0)), (.val (.int .i64 0)), (.val (.int .i64 0)), (.val (.string ⟨#[]⟩))]),⟨none, none, .st (some 4) 4 (ux 4) (ux 23), 0, false⟩,kx 5 (.mv (ux 24))])
 (.seq (.regN [1, 2, 5] [
 kx 26 (.call 23 [(.con (.val (.int .i64 1)))]),kx 27 (.call 22 [(ux 26)]),kx 25 (.mv (ux 27)),kx 28 (.ext (ux 25) 0),kx 29 (.ext (ux 25) 1),kx 6 (.allocR [(.val (.int .i64 0)), (.val (.int .i64 0)), (.val (.int .i64 0)), (.val (.string ⟨#[]⟩))]),⟨none, none, .st (some 6) 4 (ux 6) (ux 28), 0, false⟩,kx 7 (.mv (ux 29))])
 (.seq (.regN [1, 2, 5, 6, 7] [
 kx 31 (.build [(.val (.int .i64 0)), (.val (.int .i64 0)), (.val (.int .i64 0)), .e0] []),kx 32 (.call 22 [(ux 31)]),kx 30 (.mv (ux 32)),kx 33 (.ext (ux 30) 0),kx 34 (.ext (ux 30) 1),kx 8 (.allocR [(.val (.int .i64 0)), (.val (.int .i64 0)), (.val (.int .i64 0)), (.val (.string ⟨#[]⟩))]),⟨none, none, .st (some 8) 4 (ux 8) (ux 33), 0, false⟩,kx 9 (.mv (ux 34))])
 (.seq (.regN [1, 2, 5, 6, 7, 9] [
 kx 35 (.call 23 [(.con (.val (.int .i64 2)))]),kx 10 (.allocR [(.val (.int .i64 0)), (.val (.int .i64 0)), (.val (.int .i64 0)), .e0]),⟨none, none, .st (some 10) 4 (ux 10) (ux 35), 0, false⟩])
 (.seq (.regN [1, 2, 5, 6, 7, 9, 10] [
 kx 36 (.fldA 1 (ux 10)),⟨none, none, .st (some 10) 1 (ux 36) (.con (.val (.int .i64 2))), 0, false⟩])
 (.seq (.regN [1, 2, 5, 6, 7, 9, 10] [
 kx 37 (.buildS 2 [(.val (.int .i64 0)), (.val (.int .i64 0))] [(0, 1, (.con (.val (.int .i64 1)))), (1, 1, (.con (.val (.int .i64 0))))]),kx 38 (.build [(.val (.int .i64 0)), .e0] [(0, 1, (.con (.val (.int .i64 0)))), (1, 1, (ux 37))]),kx 39 (.build [(.val (.int .i64 0)), .e0] [(0, 1, (.con (.val (.int .i64 0))))]),kx 40 (.buildS 2 [(.val (.int .i64 0)), .e0, (.val (.int .i64 0)), .e0] [(0, 2, (ux 38)), (2, 2, (ux 39))]),kx 41 (.build [(.val (.int .i64 0)), (.val (.int .i64 0)), (.val (.int .i64 0)), .e0] [(0, 1, (.con (.val (.int .i64 1)))), (1, 1, (.con (.val (.int .i64 1)))), (2, 1, (.con (.val (.int .i64 1)))), (3, 1, (ux 40))]),kx 11 (.allocR [(.val (.int .i64 0)), (.val (.int .i64 0)), (.val (.int .i64 0)), .e0]),⟨none, none, .st (some 11) 4 (ux 11) (ux 41), 0, false⟩])
 (.seq (.regN [1, 2, 5, 6, 7, 9, 10, 11] [
 kx 42 (.ldA (some 2) 4 (ux 2)),kx 43 (.build [(.val (.int .i64 0)), (.val (.int .i64 0)), (.val (.int .i64 0)), (.val (.string ⟨#[]⟩))] []),kx 44 (.eqa false [1, 1, 1, 2] (ux 42) (ux 43)),kx 45 (.mv (ux 44)),⟨some 46, some (45, true), .mv (ux 5), 0, false⟩,kx 47 (.pick (ux 45) (ux 46) (.con (.val (.bool false)))),kx 48 (.mv (ux 47)),⟨some 49, some (48, true), .mv (ux 7), 0, false⟩,⟨some 50, some (48, true), .not (ux 49), 0, false⟩,kx 51 (.pick (ux 48) (ux 50) (.con (.val (.bool false)))),kx 52 (.mv (ux 51)),⟨some 53, some (52, true), .fldA 2 (ux 6), 0, false⟩,⟨some 54, some (52, true), .ld1 (some 6) (ux 53), 0, false⟩,⟨some 55, some (52, true), .bini .eql (ux 54) (.con (.val (.int .i64 1))), 0, false⟩,kx 56 (.pick (ux 52) (ux 55) (.con (.val (.bool false)))),kx 57 (.mv (ux 56)),⟨some 58, some (57, true), .mv (ux 9), 0, false⟩,⟨some 59, some (57, true), .not (ux 58), 0, false⟩,kx 60 (.pick (ux 57) (ux 59) (.con (.val (.bool false)))),kx 61 (.mv (ux 60)),⟨some 62, some (61, true), .fldA 0 (ux 1), 0, false⟩,⟨some 63, some (61, true), .ld1 (some 1) (ux 62), 0, false⟩,⟨some 64, some (61, true), .buildS 1 [(.val (.string ⟨#[]⟩))] [(0, 1, (.con (.val (.string ⟨#[0, 1]⟩))))], 0, false⟩,⟨some 65, some (61, true), .buildS 1 [(.val (.string ⟨#[]⟩))] [(0, 1, (.con (.val (.string ⟨#[0, 0]⟩))))], 0, false⟩,⟨some 66, some (61, true), .buildS 2 [.e0, .e0] [(0, 1, (ux 64)), (1, 1, (ux 65))], 0, false⟩,⟨some 67, some (61, true), .call 24 [(ux 63), (ux 66)], 0, false⟩,kx 68 (.pick (ux 61) (ux 67) (.con (.val (.bool false)))),kx 69 (.mv (ux 68)),⟨some 70, some (69, true), .ldA (some 10) 4 (ux 10), 0, false⟩,⟨some 71, some (69, true), .ldA (some 1) 1 (ux 1), 0, false⟩,⟨some 72, some (69, true), .call 17 [(ux 70), (ux 71), (.con (.val (.int .i64 0))), (.con (.val (.string ⟨#[1, 1]⟩)))], 0, false⟩,⟨some 73, some (69, true), .bini .eql (ux 72) (.con (.val (.int .i64 (-1)))), 0, false⟩,kx 74 (.pick (ux 69) (ux 73) (.con (.val (.bool false)))),kx 75 (.mv (ux 74)),⟨some 76, some (75, true), .call 23 [(.con (.val (.int .i64 2)))], 0, false⟩,⟨some 77, some (75, true), .build [.e0] [], 0, false⟩,⟨some 78, some (75, true), .call 17 [(ux 76), (ux 77), (.con (.val (.int .i64 0))), (.con (.val (.string ⟨#[0, 0]⟩)))], 0, false⟩,⟨some 79, some (75, true), .bini .eql (ux 78) (.con (.val (.int .i64 (-1)))), 0, false⟩,kx 80 (.pick (ux 75) (ux 79) (.con (.val (.bool false)))),kx 81 (.mv (ux 80)),⟨some 82, some (81, true), .ldA (some 10) 4 (ux 10), 0, false⟩,⟨some 83, some (81, true), .call 19 [(ux 82)], 0, false⟩,⟨some 84, some (81, true), .bini .eql (ux 83) (.con (.val (.int .i64 5))), 0, false⟩,kx 85 (.pick (ux 81) (ux 84) (.con (.val (.bool false)))),kx 86 (.mv (ux 85)),⟨some 87, some (86, true), .ldA (some 11) 4 (ux 11), 0, false⟩,⟨some 88, some (86, true), .call 19 [(ux 87)], 0, false⟩,⟨some 89, some (86, true), .bini .eql (ux 88) (.con (.val (.int .i64 4))), 0, false⟩,kx 90 (.pick (ux 86) (ux 89) (.con (.val (.bool false)))),kx 91 (.mv (ux 90)),⟨some 92, some (91, true), .call 23 [(.con (.val (.int .i64 1)))], 0, false⟩,⟨some 93, some (91, true), .call 19 [(ux 92)], 0, false⟩,⟨some 94, some (91, true), .bini .eql (ux 93) (.con (.val (.int .i64 9))), 0, false⟩,kx 95 (.pick (ux 91) (ux 94) (.con (.val (.bool false)))),kx 96 (.mv (ux 95)),⟨some 97, some (96, true), .call 23 [(.con (.val (.int .i64 2)))], 0, false⟩,⟨some 98, some (96, true), .call 19 [(ux 97)], 0, false⟩,⟨some 99, some (96, true), .bini .eql (ux 98) (.con (.val (.int .i64 0))), 0, false⟩,kx 100 (.pick (ux 96) (ux 99) (.con (.val (.bool false)))),kx 101 (.mv (ux 100)),⟨some 102, some (101, true), .build [(.val (.int .i64 0)), (.val (.int .i64 0)), (.val (.int .i64 0)), .e0] [], 0, false⟩,⟨some 103, some (101, true), .call 19 [(ux 102)], 0, false⟩,⟨some 104, some (101, true), .bini .eql (ux 103) (.con (.val (.int .i64 2))), 0, false⟩,kx 105 (.pick (ux 101) (ux 104) (.con (.val (.bool false)))),kx 106 (.mv (ux 105)),⟨some 107, some (106, true), .buildS 4 [(.val (.int .i64 0)), (.val (.int .i64 0)), (.val (.int .i64 0)), (.val (.int .i64 0))] [(0, 1, (.con (.val (.int .i64 1)))), (1, 1, (.con (.val (.int .i64 (-1))))), (2, 1, (.con (.val (.int .i64 0)))), (3, 1, (.con (.val (.int .i64 0))))], 0, false⟩,⟨some 108, some (106, true), .call 18 [(.con (.val (.int .i64 3))), (ux 107)], 0, false⟩,⟨some 109, some (106, true), .bins .eql (ux 108) (.con (.val (.string ⟨#[1, 254, 0]⟩))), 0, false⟩,kx 110 (.pick (ux 106) (ux 109) (.con (.val (.bool false)))),kx 111 (.mv (ux 110)),⟨some 112, some (111, true), .buildS 3 [(.val (.int .i64 0)), (.val (.int .i64 0)), (.val (.int .i64 0))] [(0, 1, (.con (.val (.int .i64 1)))), (1, 1, (.con (.val (.int .i64 (-2))))), (2, 1, (.con (.val (.int .i64 0))))], 0, false⟩,⟨some 113, some (111, true), .call 18 [(.con (.val (.int .i64 3))), (ux 112)], 0, false⟩,⟨some 114, some (111, true), .bins .eql (ux 113) (.con (.val (.string ⟨#[1, 255]⟩))), 0, false⟩,kx 115 (.pick (ux 111) (ux 114) (.con (.val (.bool false)))),kx 116 (.mv (ux 115)),⟨some 117, some (116, true), .buildS 1 [(.val (.int .i64 0))] [(0, 1, (.con (.val (.int .i64 1))))], 0, false⟩,⟨some 118, some (116, true), .call 18 [(.con (.val (.int .i64 0))), (ux 117)], 0, false⟩,⟨some 119, some (116, true), .bins .eql (ux 118) (.con (.val (.string ⟨#[]⟩))), 0, false⟩,kx 120 (.pick (ux 116) (ux 119) (.con (.val (.bool false)))),kx 121 (.mv (ux 120)),⟨some 122, some (121, true), .buildS 2 [(.val (.int .i64 0)), (.val (.int .i64 0))] [(0, 1, (.con (.val (.int .i64 300)))), (1, 1, (.con (.val (.int .i64 (-9)))))], 0, false⟩,⟨some 123, some (121, true), .call 18 [(.con (.val (.int .i64 2))), (ux 122)], 0, false⟩,⟨some 124, some (121, true), .bins .eql (ux 123) (.con (.val (.string ⟨#[254, 254]⟩))), 0, false⟩,kx 125 (.pick (ux 121) (ux 124) (.con (.val (.bool false)))),kx 126 (.mv (ux 125)),⟨some 127, some (126, true), .ldA (some 1) 1 (ux 1), 0, false⟩,⟨some 128, some (126, true), .ldA (some 1) 1 (ux 1), 0, false⟩,⟨some 129, some (126, true), .call 25 [(ux 127), (ux 128)], 0, false⟩,kx 130 (.pick (ux 126) (ux 129) (.con (.val (.bool false)))),kx 131 (.mv (ux 130)),⟨some 132, some (131, true), .ldA (some 1) 1 (ux 1), 0, false⟩,⟨some 133, some (131, true), .build [.e0] [], 0, false⟩,⟨some 134, some (131, true), .call 25 [(ux 132), (ux 133)], 0, false⟩,⟨some 135, some (131, true), .not (ux 134), 0, false⟩,kx 136 (.pick (ux 131) (ux 135) (.con (.val (.bool false)))),kx 0 (.mv (ux 136))])
 .ret))))))))))
def t7 : AFn := ⟨0, t7B,
 [.tmp 0], true⟩
def t24L1 : AC := (.seq (.seq (.regN [0, 1, 5] [
 ⟨some 11, none, .mv (.tmp 5), 0, false⟩,⟨some 12, none, .mv (.tmp 0), 0, false⟩,⟨some 13, none, .len false (.tmp 12), 0, false⟩,⟨some 14, none, .bini .lss (.tmp 11) (.tmp 13), 0, false⟩])
 (.cond (.tmp 14)
 .skip
 (.exit 0)))
 (.seq (.block 1
 (.seq (.regD [0, 1, 5] 0 [
 ⟨some 17, none, .mv (.tmp 0), 0, false⟩,⟨some 18, none, .mv (.tmp 5), 0, false⟩,⟨some 19, none, .ixA 1 (.tmp 17) (.tmp 18), 0, false⟩,⟨some 20, none, .ld1 none (.tmp 19), 0, false⟩,⟨some 21, none, .mv (.tmp 1), 0, false⟩,⟨some 22, none, .mv (.tmp 5), 0, false⟩,⟨some 23, none, .ixA 1 (.tmp 21) (.tmp 22), 0, false⟩,⟨some 24, none, .ld1 none (.tmp 23), 0, false⟩,⟨some 25, none, .call 42 [(.tmp 20), (.tmp 24)], 0, true⟩,⟨some 26, none, .not (.tmp 25), 0, false⟩])
 (.cond (.tmp 26)
 (.seq (.regN [] [
 ⟨some 4, none, .mv (.con (.val (.bool false))), 0, false⟩])
 .ret)
 .skip)))
 (.regN [0, 1, 5] [
 ⟨some 15, none, .mv (.tmp 5), 0, false⟩,⟨some 16, none, .bini .add (.tmp 15) (.con (.val (.int .i64 1))), 0, false⟩,⟨some 5, none, .mv (.tmp 16), 0, false⟩])))
def t24B : AC := (.seq (.regN [0, 1] [
 ⟨some 4, none, .mv (.con (.val (.bool false))), 0, false⟩])
 (.seq (.seq (.regN [0, 1] [
 ⟨some 6, none, .mv (.tmp 0), 0, false⟩,⟨some 7, none, .len false (.tmp 6), 0, false⟩,⟨some 8, none, .mv (.tmp 1), 0, false⟩,⟨some 9, none, .len false (.tmp 8), 0, false⟩,⟨some 10, none, .bini .neq (.tmp 7) (.tmp 9), 0, false⟩])
 (.cond (.tmp 10)
 (.seq (.regN [] [
 ⟨some 4, none, .mv (.con (.val (.bool false))), 0, false⟩])
 .ret)
 .skip))
 (.seq (.seq (.regN [0, 1] [
 ⟨some 5, none, .mv (.con (.val (.int .i64 0))), 0, false⟩])
 (.block 0
 (.loop [0, 1, 5] t24L1)))
 (.seq (.regN [] [
 ⟨some 4, none, .mv (.con (.val (.bool true))), 0, false⟩])
 .ret))))
def t24 : AFn := ⟨2, t24B,
 [.tmp 4], true⟩
def t42L1 : AC := (.seq (.seq (.regN [0, 1, 5] [
 ⟨some 11, none, .mv (.tmp 5), 0, false⟩,⟨some 12, none, .mv (.tmp 0), 0, false⟩,⟨some 13, none, .len false (.tmp 12), 0, false⟩,⟨some 14, none, .bini .lss (.tmp 11) (.tmp 13), 0, false⟩])
 (.cond (.tmp 14)
 .skip
 (.exit 0)))
 (.seq (.block 1
 (.seq (.regD [0, 1, 5] 0 [
 ⟨some 17, none, .mv (.tmp 0), 0, false⟩,⟨some 18, none, .mv (.tmp 5), 0, false⟩,⟨some 19, none, .ixA 1 (.tmp 17) (.tmp 18), 0, false⟩,⟨some 20, none, .ld1 none (.tmp 19), 0, false⟩,⟨some 21, none, .mv (.tmp 1), 0, false⟩,⟨some 22, none, .mv (.tmp 5), 0, false⟩,⟨some 23, none, .ixA 1 (.tmp 21) (.tmp 22), 0, false⟩,⟨some 24, none, .ld1 none (.tmp 23), 0, false⟩,⟨some 25, none, .bins .neq (.tmp 20) (.tmp 24), 0, false⟩])
 (.cond (.tmp 25)
 (.seq (.regN [] [
 ⟨some 4, none, .mv (.con (.val (.bool false))), 0, false⟩])
 .ret)
 .skip)))
 (.regN [0, 1, 5] [
 ⟨some 15, none, .mv (.tmp 5), 0, false⟩,⟨some 16, none, .bini .add (.tmp 15) (.con (.val (.int .i64 1))), 0, false⟩,⟨some 5, none, .mv (.tmp 16), 0, false⟩])))
def t42B : AC := (.seq (.regN [0, 1] [
 ⟨some 4, none, .mv (.con (.val (.bool false))), 0, false⟩])
 (.seq (.seq (.regN [0, 1] [
 ⟨some 6, none, .mv (.tmp 0), 0, false⟩,⟨some 7, none, .len false (.tmp 6), 0, false⟩,⟨some 8, none, .mv (.tmp 1), 0, false⟩,⟨some 9, none, .len false (.tmp 8), 0, false⟩,⟨some 10, none, .bini .neq (.tmp 7) (.tmp 9), 0, false⟩])
 (.cond (.tmp 10)
 (.seq (.regN [] [
 ⟨some 4, none, .mv (.con (.val (.bool false))), 0, false⟩])
 .ret)
 .skip))
 (.seq (.seq (.regN [0, 1] [
 ⟨some 5, none, .mv (.con (.val (.int .i64 0))), 0, false⟩])
 (.block 0
 (.loop [0, 1, 5] t42L1)))
 (.seq (.regN [] [
 ⟨some 4, none, .mv (.con (.val (.bool true))), 0, false⟩])
 .ret))))
def t42 : AFn := ⟨2, t42B,
 [.tmp 4], true⟩
def t25B : AC := (.seq (.regN [0, 1] [
 kx 2 (.boxR 1 (ux 0)),kx 3 (.boxR 1 (ux 1)),kx 4 (.mv (.con (.val (.bool false))))])
 (.seq (.regN [2, 3] [
 kx 5 (.fldA 0 (ux 2)),kx 6 (.ld1 (some 2) (ux 5)),kx 7 (.fldA 0 (ux 3)),kx 8 (.ld1 (some 3) (ux 7)),kx 9 (.call 43 [(ux 6), (ux 8), (.con (.fn 44 []))]),kx 4 (.mv (ux 9))])
 .ret))
def t25 : AFn := ⟨2, t25B,
 [.tmp 4], true⟩
def t43L1 : AC := (.seq (.regN [1, 2, 15, 16, 17] [
 kx 18 (.bini .lss (ux 17) (ux 16))])
 (.seq (.cond (ux 18)
 .skip
 (.exit 0))
 (.seq (.block 1
 (.seq (.regN [1, 2, 15, 16, 17] [
 kx 19 (.mv (ux 17)),kx 20 (.ixA 1 (ux 15) (ux 17)),kx 21 (.ld1 none (ux 20)),kx 7 (.mv (ux 19)),kx 8 (.mv (ux 21))])
 (.seq (.regN [1, 2, 7, 8, 15, 16, 17] [
 kx 22 (.mv (ux 1)),kx 23 (.mv (ux 7)),kx 24 (.ixA 1 (ux 22) (ux 23)),kx 25 (.ld1 none (ux 24)),kx 9 (.mv (ux 25))])
 (.seq (.regN [1, 2, 8, 9, 15, 16, 17] [
 kx 26 (.mv (ux 2)),kx 27 (.mv (ux 8)),kx 28 (.mv (ux 9)),kx 29 (.callv (ux 26) [(ux 27), (ux 28)]),kx 30 (.not (ux 29))])
 (.cond (ux 30)
 (.seq (.regN [] [
 kx 6 (.mv (.con (.val (.bool false))))])
 .ret)
 .skip)))))
 (.regN [1, 2, 15, 16, 17] [
 kx 31 (.bini .add (ux 17) (.con (.val (.int .i64 1)))),kx 17 (.mv (ux 31))]))))
def t43B : AC := (.seq (.regN [0, 1, 2] [
 kx 6 (.mv (.con (.val (.bool false))))])
 (.seq (.seq (.regN [0, 1, 2] [
 kx 10 (.mv (ux 0)),kx 11 (.len false (ux 10)),kx 12 (.mv (ux 1)),kx 13 (.len false (ux 12)),kx 14 (.bini .neq (ux 11) (ux 13))])
 (.cond (ux 14)
 (.seq (.regN [] [
 kx 6 (.mv (.con (.val (.bool false))))])
 .ret)
 .skip))
 (.seq (.seq (.regN [0, 1, 2] [
 kx 15 (.mv (ux 0)),kx 16 (.len false (ux 15)),kx 17 (.mv (.con (.val (.int .i64 0))))])
 (.block 0
 (.loop [1, 2, 15, 16, 17] t43L1)))
 (.seq (.regN [] [
 kx 6 (.mv (.con (.val (.bool true))))])
 .ret))))
def t43 : AFn := ⟨3, t43B,
 [.tmp 6], true⟩
def t44L1 : AC := (.seq (.regN [0, 1, 12, 13] [
 kx 14 (.bini .lss (ux 13) (ux 12))])
 (.seq (.cond (ux 14)
 .skip
 (.exit 0))
 (.seq (.block 1
 (.seq (.regN [0, 1, 12, 13] [
 kx 15 (.mv (ux 13)),kx 5 (.mv (ux 15))])
 (.seq (.regD [0, 1, 5, 12, 13] 0 [
 kx 16 (.mv (ux 0)),kx 17 (.mv (ux 5)),kx 18 (.ixA 1 (ux 16) (ux 17)),kx 19 (.ld1 none (ux 18)),kx 20 (.mv (ux 1)),kx 21 (.mv (ux 5)),kx 22 (.ixA 1 (ux 20) (ux 21)),kx 23 (.ld1 none (ux 22)),kx 24 (.bins .neq (ux 19) (ux 23))])
 (.cond (ux 24)
 (.seq (.regN [] [
 kx 4 (.mv (.con (.val (.bool false))))])
 .ret)
 .skip))))
 (.regN [0, 1, 12, 13] [
 kx 25 (.bini .add (ux 13) (.con (.val (.int .i64 1)))),kx 13 (.mv (ux 25))]))))
def t44B : AC := (.seq (.regN [0, 1] [
 kx 4 (.mv (.con (.val (.bool false))))])
 (.seq (.seq (.regN [0, 1] [
 kx 6 (.mv (ux 0)),kx 7 (.len false (ux 6)),kx 8 (.mv (ux 1)),kx 9 (.len false (ux 8)),kx 10 (.bini .neq (ux 7) (ux 9))])
 (.cond (ux 10)
 (.seq (.regN [] [
 kx 4 (.mv (.con (.val (.bool false))))])
 .ret)
 .skip))
 (.seq (.seq (.regN [0, 1] [
 kx 11 (.mv (ux 0)),kx 12 (.len false (ux 11)),kx 13 (.mv (.con (.val (.int .i64 0))))])
 (.block 0
 (.loop [0, 1, 12, 13] t44L1)))
 (.seq (.regN [] [
 kx 4 (.mv (.con (.val (.bool true))))])
 .ret))))
def t44 : AFn := ⟨2, t44B,
 [.tmp 4], true⟩
def t74L1 : AC := (.seq (.seq (.regN [0, 1, 4] [
 ⟨some 7, none, .mv (.tmp 0), 0, false⟩,⟨some 8, none, .len false (.tmp 7), 0, false⟩,⟨some 9, none, .bini .gtr (.tmp 8) (.con (.val (.int .i64 0))), 0, false⟩,⟨some 10, none, .mv (.tmp 9), 0, false⟩,⟨some 11, some (10, true), .mv (.tmp 1), 0, false⟩,⟨some 12, some (10, true), .len false (.tmp 11), 0, false⟩,⟨some 13, some (10, true), .bini .gtr (.tmp 12) (.con (.val (.int .i64 0))), 0, false⟩,⟨some 14, none, .pick (.tmp 10) (.tmp 13) (.con (.val (.bool false))), 0, false⟩])
 (.cond (.tmp 14)
 .skip
 (.exit 0)))
 (.block 1
 (.seq (.regD [0, 1, 4] 0 [
 ⟨some 15, none, .mv (.tmp 0), 0, false⟩,⟨some 16, none, .ixA 1 (.tmp 15) (.con (.val (.int .i64 0))), 0, false⟩,⟨some 17, none, .ld1 none (.tmp 16), 0, false⟩,⟨some 18, none, .mv (.tmp 1), 0, false⟩,⟨some 19, none, .ixA 1 (.tmp 18) (.con (.val (.int .i64 0))), 0, false⟩,⟨some 20, none, .ld1 none (.tmp 19), 0, false⟩,⟨some 21, none, .call 84 [(.tmp 17), (.tmp 20)], 0, true⟩,⟨some 6, none, .mv (.tmp 21), 0, false⟩])
 (.block 2
 (.seq (.regN [0, 1, 4, 6] [
 ⟨some 25, none, .mv (.tmp 6), 0, false⟩,⟨some 26, none, .bini .eql (.tmp 25) (.con (.val (.int .i64 0))), 0, false⟩,⟨some 24, none, .mv (.tmp 26), 0, false⟩])
 (.cond (.tmp 24)
 (.seq (.regN [0] [
 ⟨some 27, none, .mv (.tmp 0), 0, false⟩,⟨some 28, none, .ixA 1 (.tmp 27) (.con (.val (.int .i64 0))), 0, false⟩,⟨some 29, none, .ld1 none (.tmp 28), 0, false⟩,⟨some 4, none, .mv (.tmp 29), 0, false⟩,⟨some 5, none, .mv (.con (.val (.bool true))), 0, false⟩])
 .ret)
 (.seq (.regN [0, 1, 4, 6] [
 ⟨some 31, none, .mv (.tmp 6), 0, false⟩,⟨some 32, none, .bini .lss (.tmp 31) (.con (.val (.int .i64 0))), 0, false⟩,⟨some 30, none, .mv (.tmp 32), 0, false⟩])
 (.cond (.tmp 30)
 (.regN [0, 1, 4] [
 ⟨some 33, none, .mv (.tmp 0), 0, false⟩,⟨some 34, none, .slC 1 (.tmp 33) (some (.con (.val (.int .i64 1)))) none, 0, false⟩,⟨some 0, none, .mv (.tmp 34), 0, false⟩])
 (.regN [0, 1, 4] [
 ⟨some 22, none, .mv (.tmp 1), 0, false⟩,⟨some 23, none, .slC 1 (.tmp 22) (some (.con (.val (.int .i64 1)))) none, 0, false⟩,⟨some 1, none, .mv (.tmp 23), 0, false⟩])))))))))
def t74B : AC := (.seq (.regN [0, 1] [
 ⟨some 4, none, .mv (.con (.val (.string ⟨#[]⟩))), 0, false⟩,⟨some 5, none, .mv (.con (.val (.bool false))), 0, false⟩])
 (.seq (.block 0
 (.loop [0, 1, 4] t74L1))
 (.seq (.regN [4] [
 ⟨some 35, none, .mv (.tmp 4), 0, false⟩,⟨some 4, none, .mv (.tmp 35), 0, false⟩,⟨some 5, none, .mv (.con (.val (.bool false))), 0, false⟩])
 .ret)))
def t74 : AFn := ⟨2, t74B,
 [.tmp 4, .tmp 5], true⟩
def t84B : AC := (.seq (.regN [0, 1] [
 ⟨some 4, none, .mv (.con (.val (.int .i64 0))), 0, false⟩])
 (.seq (.regN [0, 1] [
 ⟨some 7, none, .mv (.tmp 0), 0, false⟩,⟨some 8, none, .call 92 [(.tmp 7)], 0, false⟩,⟨some 5, none, .mv (.tmp 8), 0, false⟩])
 (.seq (.regN [0, 1, 5] [
 ⟨some 9, none, .mv (.tmp 1), 0, false⟩,⟨some 10, none, .call 92 [(.tmp 9)], 0, false⟩,⟨some 6, none, .mv (.tmp 10), 0, false⟩])
 (.seq (.seq (.regN [0, 1, 5, 6] [
 ⟨some 11, none, .mv (.tmp 5), 0, false⟩])
 (.cond (.tmp 11)
 (.seq (.seq (.regN [6] [
 ⟨some 12, none, .mv (.tmp 6), 0, false⟩])
 (.cond (.tmp 12)
 (.seq (.regN [] [
 ⟨some 4, none, .mv (.con (.val (.int .i64 0))), 0, false⟩])
 .ret)
 .skip))
 (.seq (.regN [] [
 ⟨some 4, none, .mv (.con (.val (.int .i64 (-1)))), 0, false⟩])
 .ret))
 .skip))
 (.seq (.seq (.regN [0, 1, 6] [
 ⟨some 13, none, .mv (.tmp 6), 0, false⟩])
 (.cond (.tmp 13)
 (.seq (.regN [] [
 ⟨some 4, none, .mv (.con (.val (.int .i64 1))), 0, false⟩])
 .ret)
 .skip))
 (.seq (.seq (.regN [0, 1] [
 ⟨some 14, none, .mv (.tmp 0), 0, false⟩,⟨some 15, none, .mv (.tmp 1), 0, false⟩,⟨some 16, none, .bins .lss (.tmp 14) (.tmp 15), 0, false⟩])
 (.cond (.tmp 16)
 (.seq (.regN [] [
 ⟨some 4, none, .mv (.con (.val (.int .i64 (-1)))), 0, false⟩])
 .ret)
 .skip))
 (.seq (.seq (.regN [0, 1] [
 ⟨some 17, none, .mv (.tmp 0), 0, false⟩,⟨some 18, none, .mv (.tmp 1), 0, false⟩,⟨some 19, none, .bins .gtr (.tmp 17) (.tmp 18), 0, false⟩])
 (.cond (.tmp 19)
 (.seq (.regN [] [
 ⟨some 4, none, .mv (.con (.val (.int .i64 1))), 0, false⟩])
 .ret)
 .skip))
 (.seq (.regN [] [
 ⟨some 4, none, .mv (.con (.val (.int .i64 0))), 0, false⟩])
 .ret))))))))
def t84 : AFn := ⟨2, t84B,
 [.tmp 4], true⟩
def t92B : AC := (.seq (.regN [0] [
 ⟨some 2, none, .mv (.con (.val (.bool false))), 0, false⟩])
 (.seq (.regN [0] [
 ⟨some 3, none, .mv (.tmp 0), 0, false⟩,⟨some 4, none, .mv (.tmp 0), 0, false⟩,⟨some 5, none, .bins .neq (.tmp 3) (.tmp 4), 0, false⟩,⟨some 2, none, .mv (.tmp 5), 0, false⟩])
 .ret))
def t92 : AFn := ⟨1, t92B,
 [.tmp 2], true⟩
end Go.Proofs.Ytgbpioccaenjaaa
