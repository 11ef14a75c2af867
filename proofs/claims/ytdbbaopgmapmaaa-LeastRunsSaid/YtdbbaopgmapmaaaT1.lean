/- The functions of a program, compiled: printed by wip/hm/tools/Gen.lean. -/
import Derived.Test.YtdbbaopgmapmaaaHmG10
import Derived.Test.YtdbbaopgmapmaaaRows
namespace Go.Proofs.Ytdbbaopgmapmaaa
open Go Go.Hm
def ks257 : List Nat := List.replicate 257 1
def zi257 : List AV := List.replicate 257 (.val (.int .i64 0))
/-- viewport/viewportlaw05.LeastNames  -/
def t7B : AC := (.seq (.regN [] [
 ⟨some 0, none, .mv (.con (.val (.bool false))), 0, false⟩])
 (.seq (.seq (.regN [] [
 ⟨some 14, none, .call 9 [], 0, false⟩,⟨some 15, none, .not (.tmp 14), 0, false⟩])
 (.cond (.tmp 15)
 (.seq (.regN [] [
 ⟨some 0, none, .mv (.con (.val (.bool false))), 0, false⟩])
 .ret)
 .skip))
 (.seq (.regN [] [
 ⟨some 17, none, .build [.e0, .e0] [], 0, false⟩,⟨some 18, none, .call 12 [(.tmp 17)], 0, false⟩,⟨some 16, none, .mv (.tmp 18), 0, false⟩,⟨some 19, none, .ext (.tmp 16) 0, 0, false⟩,⟨some 20, none, .ext (.tmp 16) 1, 0, false⟩,⟨some 1, none, .allocR [.e0, .e0], 0, false⟩,⟨none, none, .st (some 1) 2 (.tmp 1) (.tmp 19), 0, false⟩,⟨some 2, none, .mv (.tmp 20), 0, false⟩])
 (.seq (.regN [2] [
 ⟨some 22, none, .call 20 [(.con (.val (.string ⟨#[91, 93]⟩)))], 0, false⟩,⟨some 23, none, .call 12 [(.tmp 22)], 0, false⟩,⟨some 21, none, .mv (.tmp 23), 0, false⟩,⟨some 24, none, .ext (.tmp 21) 0, 0, false⟩,⟨some 25, none, .ext (.tmp 21) 1, 0, false⟩,⟨some 3, none, .allocR [.e0, .e0], 0, false⟩,⟨none, none, .st (some 3) 2 (.tmp 3) (.tmp 24), 0, false⟩,⟨some 4, none, .mv (.tmp 25), 0, false⟩])
 (.seq (.regN [2, 3, 4] [
 ⟨some 27, none, .call 20 [(.con (.val (.string ⟨#[98, 124, 97, 97, 124, 97, 98]⟩)))], 0, false⟩,⟨some 28, none, .call 14 [(.tmp 27), (.con (.val (.int .i64 0)))], 0, false⟩,⟨some 26, none, .mv (.tmp 28), 0, false⟩,⟨some 29, none, .ext (.tmp 26) 0, 0, false⟩,⟨some 30, none, .ext (.tmp 26) 1, 0, false⟩,⟨some 5, none, .mv (.tmp 29), 0, false⟩,⟨some 6, none, .mv (.tmp 30), 0, false⟩])
 (.seq (.regN [2, 3, 4, 5, 6] [
 ⟨some 32, none, .call 20 [(.con (.val (.string ⟨#[97]⟩)))], 0, false⟩,⟨some 33, none, .call 14 [(.tmp 32), (.con (.val (.int .i64 1)))], 0, false⟩,⟨some 31, none, .mv (.tmp 33), 0, false⟩,⟨some 34, none, .ext (.tmp 31) 0, 0, false⟩,⟨some 35, none, .ext (.tmp 31) 1, 0, false⟩,⟨some 7, none, .mv (.tmp 34), 0, false⟩,⟨some 8, none, .mv (.tmp 35), 0, false⟩])
 (.seq (.regN [2, 3, 4, 5, 6, 8] [
 ⟨some 37, none, .call 20 [(.con (.val (.string ⟨#[97, 40, 98, 124, 99, 41]⟩)))], 0, false⟩,⟨some 38, none, .call 20 [(.con (.val (.string ⟨#[97, 98]⟩)))], 0, false⟩,⟨some 39, none, .call 19 [(.tmp 37), (.tmp 38)], 0, false⟩,⟨some 36, none, .mv (.tmp 39), 0, false⟩,⟨some 40, none, .ext (.tmp 36) 0, 0, false⟩,⟨some 41, none, .ext (.tmp 36) 1, 0, false⟩,⟨some 9, none, .mv (.tmp 40), 0, false⟩,⟨some 10, none, .mv (.tmp 41), 0, false⟩])
 (.seq (.regN [2, 3, 4, 5, 6, 8, 9, 10] [
 ⟨some 43, none, .call 20 [(.con (.val (.string ⟨#[97, 98, 124, 97, 99]⟩)))], 0, false⟩,⟨some 44, none, .call 20 [(.con (.val (.string ⟨#[97, 40, 98, 124, 99, 41]⟩)))], 0, false⟩,⟨some 45, none, .call 19 [(.tmp 43), (.tmp 44)], 0, false⟩,⟨some 42, none, .mv (.tmp 45), 0, false⟩,⟨some 46, none, .ext (.tmp 42) 0, 0, false⟩,⟨some 47, none, .ext (.tmp 42) 1, 0, false⟩,⟨some 11, none, .mv (.tmp 46), 0, false⟩,⟨some 12, none, .mv (.tmp 47), 0, false⟩])
 (.seq (.regN [2, 3, 4, 5, 6, 8, 9, 10, 12] [
 ⟨some 48, none, .call 20 [(.con (.val (.string ⟨#[97, 91, 93, 124, 98]⟩)))], 0, false⟩,⟨some 49, none, .call 13 [(.tmp 48)], 0, false⟩,⟨some 13, none, .mv (.tmp 49), 0, false⟩])
 (.seq (.regN [2, 3, 4, 5, 6, 8, 9, 10, 12, 13] [
 ⟨some 50, none, .mv (.tmp 2), 0, false⟩,⟨some 51, none, .bini .eql (.tmp 50) (.con (.val (.int .i64 2))), 0, false⟩,⟨some 52, none, .mv (.tmp 51), 0, false⟩,⟨some 53, some (52, true), .mv (.tmp 4), 0, false⟩,⟨some 54, some (52, true), .bini .eql (.tmp 53) (.con (.val (.int .i64 0))), 0, false⟩,⟨some 55, none, .pick (.tmp 52) (.tmp 54) (.con (.val (.bool false))), 0, false⟩,⟨some 56, none, .mv (.tmp 55), 0, false⟩,⟨some 57, some (56, true), .fldA 1 (.tmp 3), 0, false⟩,⟨some 58, some (56, true), .ld1 (some 3) (.tmp 57), 0, false⟩,⟨some 59, some (56, true), .len false (.tmp 58), 0, false⟩,⟨some 60, some (56, true), .bini .eql (.tmp 59) (.con (.val (.int .i64 1))), 0, false⟩,⟨some 61, none, .pick (.tmp 56) (.tmp 60) (.con (.val (.bool false))), 0, false⟩,⟨some 62, none, .mv (.tmp 61), 0, false⟩,⟨some 63, some (62, true), .fldA 1 (.tmp 3), 0, false⟩,⟨some 64, some (62, true), .ld1 (some 3) (.tmp 63), 0, false⟩,⟨some 65, some (62, true), .ixA 1 (.tmp 64) (.con (.val (.int .i64 0))), 0, false⟩,⟨some 66, some (62, true), .ld1 none (.tmp 65), 0, false⟩,⟨some 67, some (62, true), .bini .eql (.tmp 66) (.con (.val (.int .i64 (-1)))), 0, false⟩,⟨some 68, none, .pick (.tmp 62) (.tmp 67) (.con (.val (.bool false))), 0, false⟩,⟨some 69, none, .mv (.tmp 68), 0, false⟩,⟨some 70, some (69, true), .mv (.tmp 6), 0, false⟩,⟨some 71, none, .pick (.tmp 69) (.tmp 70) (.con (.val (.bool false))), 0, false⟩,⟨some 72, none, .mv (.tmp 71), 0, false⟩,⟨some 73, some (72, true), .mv (.tmp 5), 0, false⟩,⟨some 74, some (72, true), .bins .eql (.tmp 73) (.con (.val (.string ⟨#[98]⟩))), 0, false⟩,⟨some 75, none, .pick (.tmp 72) (.tmp 74) (.con (.val (.bool false))), 0, false⟩,⟨some 76, none, .mv (.tmp 75), 0, false⟩,⟨some 77, some (76, true), .mv (.tmp 8), 0, false⟩,⟨some 78, some (76, true), .not (.tmp 77), 0, false⟩,⟨some 79, none, .pick (.tmp 76) (.tmp 78) (.con (.val (.bool false))), 0, false⟩,⟨some 80, none, .mv (.tmp 79), 0, false⟩,⟨some 81, some (80, true), .mv (.tmp 10), 0, false⟩,⟨some 82, none, .pick (.tmp 80) (.tmp 81) (.con (.val (.bool false))), 0, false⟩,⟨some 83, none, .mv (.tmp 82), 0, false⟩,⟨some 84, some (83, true), .mv (.tmp 9), 0, false⟩,⟨some 85, some (83, true), .bins .eql (.tmp 84) (.con (.val (.string ⟨#[97, 99]⟩))), 0, false⟩,⟨some 86, none, .pick (.tmp 83) (.tmp 85) (.con (.val (.bool false))), 0, false⟩,⟨some 87, none, .mv (.tmp 86), 0, false⟩,⟨some 88, some (87, true), .mv (.tmp 12), 0, false⟩,⟨some 89, some (87, true), .not (.tmp 88), 0, false⟩,⟨some 90, none, .pick (.tmp 87) (.tmp 89) (.con (.val (.bool false))), 0, false⟩,⟨some 91, none, .mv (.tmp 90), 0, false⟩,⟨some 92, some (91, true), .call 20 [(.con (.val (.string ⟨#[97, 98, 124, 97, 99]⟩)))], 0, false⟩,⟨some 93, some (91, true), .call 20 [(.con (.val (.string ⟨#[97, 40, 98, 124, 99, 41]⟩)))], 0, false⟩,⟨some 94, some (91, true), .call 17 [(.tmp 92), (.tmp 93)], 0, false⟩,⟨some 95, none, .pick (.tmp 91) (.tmp 94) (.con (.val (.bool false))), 0, false⟩,⟨some 96, none, .mv (.tmp 95), 0, false⟩,⟨some 97, some (96, true), .call 20 [(.con (.val (.string ⟨#[97]⟩)))], 0, false⟩,⟨some 98, some (96, true), .call 20 [(.con (.val (.string ⟨#[98]⟩)))], 0, false⟩,⟨some 99, some (96, true), .call 17 [(.tmp 97), (.tmp 98)], 0, false⟩,⟨some 100, some (96, true), .not (.tmp 99), 0, false⟩,⟨some 101, none, .pick (.tmp 96) (.tmp 100) (.con (.val (.bool false))), 0, false⟩,⟨some 102, none, .mv (.tmp 101), 0, false⟩,⟨some 103, some (102, true), .build [.e0, .e0] [], 0, false⟩,⟨some 104, some (102, true), .build [.e0, .e0] [], 0, false⟩,⟨some 105, some (102, true), .call 17 [(.tmp 103), (.tmp 104)], 0, false⟩,⟨some 106, some (102, true), .not (.tmp 105), 0, false⟩,⟨some 107, none, .pick (.tmp 102) (.tmp 106) (.con (.val (.bool false))), 0, false⟩,⟨some 108, none, .mv (.tmp 107), 0, false⟩,⟨some 109, some (108, true), .mv (.tmp 13), 0, false⟩,⟨some 110, some (108, true), .buildS 3 [(.val (.bool false)), (.val (.bool false)), (.val (.bool false))] [(0, 1, (.con (.val (.bool true)))), (1, 1, (.con (.val (.bool false)))), (2, 1, (.con (.val (.bool true))))], 0, false⟩,⟨some 111, some (108, true), .call 21 [(.tmp 109), (.tmp 110)], 0, false⟩,⟨some 112, none, .pick (.tmp 108) (.tmp 111) (.con (.val (.bool false))), 0, false⟩,⟨some 0, none, .mv (.tmp 112), 0, false⟩])
 .ret))))))))))
def t7 : AFn := ⟨0, t7B,
 [.tmp 0], true⟩
/-- viewport/viewportlaw05.lives  -/
def t9B : AC := (.seq (.regN [] [
 ⟨some 0, none, .mv (.con (.val (.bool false))), 0, false⟩])
 (.seq (.regN [] [
 ⟨some 8, none, .call 20 [(.con (.val (.string ⟨#[40, 97, 124, 98, 41, 42]⟩)))], 0, false⟩,⟨some 9, none, .call 12 [(.tmp 8)], 0, false⟩,⟨some 7, none, .mv (.tmp 9), 0, false⟩,⟨some 10, none, .ext (.tmp 7) 0, 0, false⟩,⟨some 11, none, .ext (.tmp 7) 1, 0, false⟩,⟨some 1, none, .allocR [.e0, .e0], 0, false⟩,⟨none, none, .st (some 1) 2 (.tmp 1) (.tmp 10), 0, false⟩,⟨some 2, none, .mv (.tmp 11), 0, false⟩])
 (.seq (.regN [1, 2] [
 ⟨some 13, none, .call 20 [(.con (.val (.string ⟨#[91, 97, 98, 93, 42]⟩)))], 0, false⟩,⟨some 14, none, .call 12 [(.tmp 13)], 0, false⟩,⟨some 12, none, .mv (.tmp 14), 0, false⟩,⟨some 15, none, .ext (.tmp 12) 0, 0, false⟩,⟨some 16, none, .ext (.tmp 12) 1, 0, false⟩,⟨some 3, none, .allocR [.e0, .e0], 0, false⟩,⟨none, none, .st (some 3) 2 (.tmp 3) (.tmp 15), 0, false⟩,⟨some 4, none, .mv (.tmp 16), 0, false⟩])
 (.seq (.regN [1, 2, 3, 4] [
 ⟨some 18, none, .call 20 [(.con (.val (.string ⟨#[97, 42]⟩)))], 0, false⟩,⟨some 19, none, .call 20 [(.con (.val (.string ⟨#[97, 43]⟩)))], 0, false⟩,⟨some 20, none, .call 19 [(.tmp 18), (.tmp 19)], 0, false⟩,⟨some 17, none, .mv (.tmp 20), 0, false⟩,⟨some 21, none, .ext (.tmp 17) 0, 0, false⟩,⟨some 22, none, .ext (.tmp 17) 1, 0, false⟩,⟨some 5, none, .mv (.tmp 21), 0, false⟩,⟨some 6, none, .mv (.tmp 22), 0, false⟩])
 (.seq (.regN [1, 2, 3, 4, 5, 6] [
 ⟨some 23, none, .mv (.tmp 2), 0, false⟩,⟨some 24, none, .bini .eql (.tmp 23) (.con (.val (.int .i64 0))), 0, false⟩,⟨some 25, none, .mv (.tmp 24), 0, false⟩,⟨some 26, some (25, true), .mv (.tmp 4), 0, false⟩,⟨some 27, some (25, true), .bini .eql (.tmp 26) (.con (.val (.int .i64 0))), 0, false⟩,⟨some 28, none, .pick (.tmp 25) (.tmp 27) (.con (.val (.bool false))), 0, false⟩,⟨some 29, none, .mv (.tmp 28), 0, false⟩,⟨some 30, some (29, true), .ldA (some 1) 2 (.tmp 1), 0, false⟩,⟨some 31, some (29, true), .ldA (some 3) 2 (.tmp 3), 0, false⟩,⟨some 32, some (29, true), .call 16 [(.tmp 30), (.tmp 31)], 0, false⟩,⟨some 33, none, .pick (.tmp 29) (.tmp 32) (.con (.val (.bool false))), 0, false⟩,⟨some 34, none, .mv (.tmp 33), 0, false⟩,⟨some 35, some (34, true), .fldA 1 (.tmp 1), 0, false⟩,⟨some 36, some (34, true), .ld1 (some 1) (.tmp 35), 0, false⟩,⟨some 37, some (34, true), .len false (.tmp 36), 0, false⟩,⟨some 38, some (34, true), .bini .eql (.tmp 37) (.con (.val (.int .i64 1))), 0, false⟩,⟨some 39, none, .pick (.tmp 34) (.tmp 38) (.con (.val (.bool false))), 0, false⟩,⟨some 40, none, .mv (.tmp 39), 0, false⟩,⟨some 41, some (40, true), .mv (.tmp 6), 0, false⟩,⟨some 42, none, .pick (.tmp 40) (.tmp 41) (.con (.val (.bool false))), 0, false⟩,⟨some 43, none, .mv (.tmp 42), 0, false⟩,⟨some 44, some (43, true), .mv (.tmp 5), 0, false⟩,⟨some 45, some (43, true), .bins .eql (.tmp 44) (.con (.val (.string ⟨#[]⟩))), 0, false⟩,⟨some 46, none, .pick (.tmp 43) (.tmp 45) (.con (.val (.bool false))), 0, false⟩,⟨some 0, none, .mv (.tmp 46), 0, false⟩])
 .ret)))))
def t9 : AFn := ⟨0, t9B,
 [.tmp 0], true⟩
/-- viewport/viewportlaw05.table  -/
def t20B : AC := (.seq (.regN [0] [
 ⟨some 2, none, .allocR [.e0, .e0], 0, false⟩])
 (.seq (.regN [0, 2] [
 ⟨some 11, none, .mv (.tmp 0), 0, false⟩,⟨some 12, none, .call 36 [(.tmp 11)], 0, false⟩,⟨some 10, none, .mv (.tmp 12), 0, false⟩,⟨some 13, none, .ext (.tmp 10) 0, 0, false⟩,⟨some 14, none, .ext (.tmp 10) 1, 0, false⟩,⟨some 15, none, .ext (.tmp 10) 2, 0, false⟩,⟨some 3, none, .mv (.tmp 13), 0, false⟩,⟨some 4, none, .mv (.tmp 14), 0, false⟩,⟨some 5, none, .mv (.tmp 15), 0, false⟩])
 (.seq (.regN [2, 3] [
 ⟨some 17, none, .mv (.tmp 3), 0, false⟩,⟨some 18, none, .buildS 1 [.e0] [(0, 1, (.tmp 17))], 0, false⟩,⟨some 19, none, .call 37 [(.tmp 18)], 0, false⟩,⟨some 16, none, .mv (.tmp 19), 0, false⟩,⟨some 20, none, .ext (.tmp 16) 0, 0, false⟩,⟨some 21, none, .ext (.tmp 16) 1, 0, false⟩,⟨some 6, none, .allocR [.e0, .e0, .e0], 0, false⟩,⟨none, none, .st (some 6) 3 (.tmp 6) (.tmp 20), 0, false⟩,⟨some 7, none, .mv (.tmp 21), 0, false⟩])
 (.seq (.regN [2, 6] [
 ⟨some 23, none, .ldA (some 6) 3 (.tmp 6), 0, false⟩,⟨some 24, none, .call 38 [(.tmp 23), (.con (.val (.int .i64 99)))], 0, false⟩,⟨some 22, none, .mv (.tmp 24), 0, false⟩,⟨some 25, none, .ext (.tmp 22) 0, 0, false⟩,⟨some 26, none, .ext (.tmp 22) 1, 0, false⟩,⟨some 8, none, .allocR [.e0, .e0], 0, false⟩,⟨none, none, .st (some 8) 2 (.tmp 8) (.tmp 25), 0, false⟩,⟨some 9, none, .mv (.tmp 26), 0, false⟩])
 (.seq (.regN [2, 8] [
 ⟨some 27, none, .ldA (some 8) 2 (.tmp 8), 0, false⟩,⟨none, none, .st (some 2) 2 (.tmp 2) (.tmp 27), 0, false⟩])
 .ret)))))
def t20 : AFn := ⟨1, t20B,
 [.cell 2 2 true], true⟩
/-- viewport/viewportref02.Read  -/
def t36B : AC := (.seq (.regN [0] [
 ⟨some 2, none, .mv (.con .e0), 0, false⟩,⟨some 3, none, .mv (.con (.val (.int .i64 0))), 0, false⟩,⟨some 4, none, .mv (.con (.val (.int .i64 0))), 0, false⟩])
 (.seq (.seq (.regN [0] [
 ⟨some 6, none, .mv (.tmp 0), 0, false⟩,⟨some 7, none, .len true (.tmp 6), 0, false⟩,⟨some 8, none, .bini .gtr (.tmp 7) (.con (.val (.int .i64 256))), 0, false⟩])
 (.cond (.tmp 8)
 (.seq (.regN [] [
 ⟨some 2, none, .mv (.con .e0), 0, false⟩,⟨some 3, none, .mv (.con (.val (.int .i64 0))), 0, false⟩,⟨some 4, none, .mv (.con (.val (.int .i64 3))), 0, false⟩])
 .ret)
 .skip))
 (.seq (.regN [0] [
 ⟨some 9, none, .mv (.tmp 0), 0, false⟩,⟨some 10, none, .build [(.val (.string ⟨#[]⟩)), (.val (.int .i64 0)), .e0, (.val (.int .i64 0))] [(0, 1, (.tmp 9))], 0, false⟩,⟨some 11, none, .boxH 4 (.tmp 10), 0, false⟩,⟨some 5, none, .mv (.tmp 11), 0, false⟩])
 (.seq (.regN [0, 5, 11] [
 ⟨some 12, none, .mv (.tmp 5), 0, false⟩,⟨some 13, none, .call 48 [(.tmp 12)], 0, false⟩])
 (.seq (.seq (.regN [0, 5, 11] [
 ⟨some 14, none, .mv (.tmp 5), 0, false⟩,⟨some 15, none, .call 49 [(.tmp 14)], 0, false⟩])
 (.cond (.tmp 15)
 (.regN [0, 5, 11] [
 ⟨some 16, none, .mv (.tmp 5), 0, false⟩,⟨some 17, none, .mv (.tmp 5), 0, false⟩,⟨some 18, none, .nilc (.tmp 17), 0, false⟩,⟨some 19, none, .fldA 1 (.tmp 18), 0, false⟩,⟨some 20, none, .ld1 none (.tmp 19), 0, false⟩,⟨some 21, none, .call 50 [(.tmp 16), (.tmp 20), (.con (.val (.int .i64 7)))], 0, false⟩])
 .skip))
 (.seq (.seq (.regN [0, 5, 11] [
 ⟨some 22, none, .mv (.tmp 5), 0, false⟩,⟨some 23, none, .nilc (.tmp 22), 0, false⟩,⟨some 24, none, .fldA 3 (.tmp 23), 0, false⟩,⟨some 25, none, .ld1 none (.tmp 24), 0, false⟩,⟨some 26, none, .bini .neq (.tmp 25) (.con (.val (.int .i64 0))), 0, false⟩])
 (.cond (.tmp 26)
 (.seq (.regD [5, 11] 0 [
 ⟨some 27, none, .mv (.tmp 5), 0, false⟩,⟨some 28, none, .nilc (.tmp 27), 0, false⟩,⟨some 29, none, .fldA 1 (.tmp 28), 0, false⟩,⟨some 30, none, .ld1 none (.tmp 29), 0, false⟩,⟨some 31, none, .mv (.tmp 5), 0, false⟩,⟨some 32, none, .nilc (.tmp 31), 0, false⟩,⟨some 33, none, .fldA 3 (.tmp 32), 0, false⟩,⟨some 34, none, .ld1 none (.tmp 33), 0, false⟩,⟨some 2, none, .mv (.con .e0), 0, false⟩,⟨some 3, none, .mv (.tmp 30), 0, false⟩,⟨some 4, none, .mv (.tmp 34), 0, false⟩])
 .ret)
 .skip))
 (.seq (.regN [0, 5, 11] [
 ⟨some 35, none, .mv (.tmp 5), 0, false⟩,⟨some 36, none, .nilc (.tmp 35), 0, false⟩,⟨some 37, none, .fldA 2 (.tmp 36), 0, false⟩,⟨some 38, none, .ld1 none (.tmp 37), 0, false⟩,⟨some 39, none, .mv (.tmp 0), 0, false⟩,⟨some 40, none, .len true (.tmp 39), 0, false⟩,⟨some 2, none, .mv (.tmp 38), 0, false⟩,⟨some 3, none, .mv (.tmp 40), 0, false⟩,⟨some 4, none, .mv (.con (.val (.int .i64 0))), 0, false⟩])
 .ret)))))))
def t36 : AFn := ⟨1, t36B,
 [.tmp 2, .tmp 3, .tmp 4], true⟩
/-- (*viewport/viewportref02.reader).alt  -/
def t48L1 : AC := (.seq (.seq (.regD [0, 3] 0 [
 ⟨some 7, none, .mv (.tmp 0), 0, false⟩,⟨some 8, none, .call 49 [(.tmp 7)], 0, true⟩,⟨some 9, none, .mv (.tmp 8), 0, false⟩,⟨some 10, some (9, true), .mv (.tmp 0), 0, false⟩,⟨some 11, some (9, true), .nilc (.tmp 10), 0, false⟩,⟨some 12, some (9, true), .fldA 0 (.tmp 11), 0, false⟩,⟨some 13, some (9, true), .ld1 none (.tmp 12), 0, false⟩,⟨some 14, some (9, true), .mv (.tmp 0), 0, false⟩,⟨some 15, some (9, true), .nilc (.tmp 14), 0, false⟩,⟨some 16, some (9, true), .fldA 1 (.tmp 15), 0, false⟩,⟨some 17, some (9, true), .ld1 none (.tmp 16), 0, false⟩,⟨some 18, some (9, true), .ixS (.tmp 13) (.tmp 17), 0, false⟩,⟨some 19, some (9, true), .bini .eql (.tmp 18) (.con (.val (.int .u8 124))), 0, false⟩,⟨some 20, none, .pick (.tmp 9) (.tmp 19) (.con (.val (.bool false))), 0, false⟩])
 (.cond (.tmp 20)
 .skip
 (.exit 0)))
 (.block 1
 (.seq (.regN [0, 3] [
 ⟨some 21, none, .mv (.tmp 0), 0, false⟩,⟨some 22, none, .nilc (.tmp 21), 0, false⟩,⟨some 23, none, .fldA 1 (.tmp 22), 0, false⟩,⟨some 24, none, .ld1 none (.tmp 23), 0, false⟩,⟨some 25, none, .bini .add (.tmp 24) (.con (.val (.int .i64 1))), 0, false⟩,⟨some 26, none, .nilc (.tmp 21), 0, false⟩,⟨some 27, none, .fldA 1 (.tmp 26), 0, false⟩,⟨none, none, .st none 1 (.tmp 27) (.tmp 25), 0, false⟩])
 (.regN [0, 3] [
 ⟨some 28, none, .mv (.tmp 3), 0, false⟩,⟨some 29, none, .mv (.tmp 0), 0, false⟩,⟨some 30, none, .call 60 [(.tmp 29)], 0, false⟩,⟨some 31, none, .buildS 1 [(.val (.int .i64 0))] [(0, 1, (.tmp 30))], 0, false⟩,⟨some 32, none, .app 1 8 (.tmp 28) (.tmp 31), 0, false⟩,⟨some 3, none, .mv (.tmp 32), 0, false⟩]))))
def t48B : AC := (.seq (.regN [0] [
 ⟨some 2, none, .mv (.con (.val (.int .i64 0))), 0, false⟩])
 (.seq (.regN [0] [
 ⟨some 4, none, .mv (.tmp 0), 0, false⟩,⟨some 5, none, .call 60 [(.tmp 4)], 0, false⟩,⟨some 6, none, .buildH 1 1 [(.val (.int .i64 0))] [(0, 1, (.tmp 5))], 0, false⟩,⟨some 3, none, .mv (.tmp 6), 0, false⟩])
 (.seq (.block 0
 (.loop [0, 3] t48L1))
 (.seq (.seq (.regN [0, 3] [
 ⟨some 33, none, .mv (.tmp 3), 0, false⟩,⟨some 34, none, .len false (.tmp 33), 0, false⟩,⟨some 35, none, .bini .eql (.tmp 34) (.con (.val (.int .i64 1))), 0, false⟩])
 (.cond (.tmp 35)
 (.seq (.regN [3] [
 ⟨some 36, none, .mv (.tmp 3), 0, false⟩,⟨some 37, none, .ixA 1 (.tmp 36) (.con (.val (.int .i64 0))), 0, false⟩,⟨some 38, none, .ld1 none (.tmp 37), 0, false⟩,⟨some 2, none, .mv (.tmp 38), 0, false⟩])
 .ret)
 .skip))
 (.seq (.regN [0, 3] [
 ⟨some 39, none, .mv (.tmp 0), 0, false⟩,⟨some 40, none, .build [(.val (.int .u64 0)), (.val (.int .u64 0)), (.val (.int .u64 0)), (.val (.int .u64 0))] [], 0, false⟩,⟨some 41, none, .mv (.tmp 3), 0, false⟩,⟨some 42, none, .call 61 [(.tmp 39), (.con (.val (.int .i64 4))), (.tmp 40), (.tmp 41)], 0, false⟩,⟨some 2, none, .mv (.tmp 42), 0, false⟩])
 .ret)))))
def t48 : AFn := ⟨1, t48B,
 [.tmp 2], false⟩
/-- (*viewport/viewportref02.reader).cat  -/
def t60L1 : AC := (.seq (.seq (.regD [0, 3] 0 [
 ⟨some 4, none, .mv (.tmp 0), 0, false⟩,⟨some 5, none, .call 49 [(.tmp 4)], 0, true⟩,⟨some 6, none, .mv (.tmp 5), 0, false⟩,⟨some 7, some (6, true), .mv (.tmp 0), 0, false⟩,⟨some 8, some (6, true), .nilc (.tmp 7), 0, false⟩,⟨some 9, some (6, true), .fldA 0 (.tmp 8), 0, false⟩,⟨some 10, some (6, true), .ld1 none (.tmp 9), 0, false⟩,⟨some 11, some (6, true), .mv (.tmp 0), 0, false⟩,⟨some 12, some (6, true), .nilc (.tmp 11), 0, false⟩,⟨some 13, some (6, true), .fldA 1 (.tmp 12), 0, false⟩,⟨some 14, some (6, true), .ld1 none (.tmp 13), 0, false⟩,⟨some 15, some (6, true), .ixS (.tmp 10) (.tmp 14), 0, false⟩,⟨some 16, some (6, true), .bini .neq (.tmp 15) (.con (.val (.int .u8 124))), 0, false⟩,⟨some 17, none, .pick (.tmp 6) (.tmp 16) (.con (.val (.bool false))), 0, false⟩,⟨some 18, none, .mv (.tmp 17), 0, false⟩,⟨some 19, some (18, true), .mv (.tmp 0), 0, false⟩,⟨some 20, some (18, true), .nilc (.tmp 19), 0, false⟩,⟨some 21, some (18, true), .fldA 0 (.tmp 20), 0, false⟩,⟨some 22, some (18, true), .ld1 none (.tmp 21), 0, false⟩,⟨some 23, some (18, true), .mv (.tmp 0), 0, false⟩,⟨some 24, some (18, true), .nilc (.tmp 23), 0, false⟩,⟨some 25, some (18, true), .fldA 1 (.tmp 24), 0, false⟩,⟨some 26, some (18, true), .ld1 none (.tmp 25), 0, false⟩,⟨some 27, some (18, true), .ixS (.tmp 22) (.tmp 26), 0, false⟩,⟨some 28, some (18, true), .bini .neq (.tmp 27) (.con (.val (.int .u8 41))), 0, false⟩,⟨some 29, none, .pick (.tmp 18) (.tmp 28) (.con (.val (.bool false))), 0, false⟩])
 (.cond (.tmp 29)
 .skip
 (.exit 0)))
 (.block 1
 (.regN [0, 3] [
 ⟨some 30, none, .mv (.tmp 3), 0, false⟩,⟨some 31, none, .mv (.tmp 0), 0, false⟩,⟨some 32, none, .call 66 [(.tmp 31)], 0, false⟩,⟨some 33, none, .buildS 1 [(.val (.int .i64 0))] [(0, 1, (.tmp 32))], 0, false⟩,⟨some 34, none, .app 1 8 (.tmp 30) (.tmp 33), 0, false⟩,⟨some 3, none, .mv (.tmp 34), 0, false⟩])))
def t60B : AC := (.seq (.regN [0] [
 ⟨some 2, none, .mv (.con (.val (.int .i64 0))), 0, false⟩])
 (.seq (.regN [0] [
 ⟨some 3, none, .mv (.con .e0), 0, false⟩])
 (.seq (.block 0
 (.loop [0, 3] t60L1))
 (.seq (.seq (.regN [0, 3] [
 ⟨some 35, none, .mv (.tmp 3), 0, false⟩,⟨some 36, none, .len false (.tmp 35), 0, false⟩])
 (.block 2
 (.seq (.regN [0, 3, 36] [
 ⟨some 38, none, .bini .eql (.tmp 36) (.con (.val (.int .i64 0))), 0, false⟩,⟨some 37, none, .mv (.tmp 38), 0, false⟩])
 (.cond (.tmp 37)
 (.seq (.regN [0] [
 ⟨some 39, none, .mv (.tmp 0), 0, false⟩,⟨some 40, none, .build [(.val (.int .u64 0)), (.val (.int .u64 0)), (.val (.int .u64 0)), (.val (.int .u64 0))] [], 0, false⟩,⟨some 41, none, .call 61 [(.tmp 39), (.con (.val (.int .i64 1))), (.tmp 40), (.con .e0)], 0, false⟩,⟨some 2, none, .mv (.tmp 41), 0, false⟩])
 .ret)
 (.seq (.regN [0, 3, 36] [
 ⟨some 43, none, .bini .eql (.tmp 36) (.con (.val (.int .i64 1))), 0, false⟩,⟨some 42, none, .mv (.tmp 43), 0, false⟩])
 (.cond (.tmp 42)
 (.seq (.regN [3] [
 ⟨some 44, none, .mv (.tmp 3), 0, false⟩,⟨some 45, none, .ixA 1 (.tmp 44) (.con (.val (.int .i64 0))), 0, false⟩,⟨some 46, none, .ld1 none (.tmp 45), 0, false⟩,⟨some 2, none, .mv (.tmp 46), 0, false⟩])
 .ret)
 .skip))))))
 (.seq (.regN [0, 3] [
 ⟨some 47, none, .mv (.tmp 0), 0, false⟩,⟨some 48, none, .build [(.val (.int .u64 0)), (.val (.int .u64 0)), (.val (.int .u64 0)), (.val (.int .u64 0))] [], 0, false⟩,⟨some 49, none, .mv (.tmp 3), 0, false⟩,⟨some 50, none, .call 61 [(.tmp 47), (.con (.val (.int .i64 3))), (.tmp 48), (.tmp 49)], 0, false⟩,⟨some 2, none, .mv (.tmp 50), 0, false⟩])
 .ret)))))
def t60 : AFn := ⟨1, t60B,
 [.tmp 2], false⟩
/-- (*viewport/viewportref02.reader).more  -/
def t49B : AC := (.seq (.regN [0] [
 ⟨some 2, none, .mv (.con (.val (.bool false))), 0, false⟩])
 (.seq (.regD [0] 0 [
 ⟨some 3, none, .mv (.tmp 0), 0, false⟩,⟨some 4, none, .nilc (.tmp 3), 0, false⟩,⟨some 5, none, .fldA 3 (.tmp 4), 0, false⟩,⟨some 6, none, .ld1 none (.tmp 5), 0, false⟩,⟨some 7, none, .bini .eql (.tmp 6) (.con (.val (.int .i64 0))), 0, false⟩,⟨some 8, none, .mv (.tmp 7), 0, false⟩,⟨some 9, some (8, true), .mv (.tmp 0), 0, false⟩,⟨some 10, some (8, true), .nilc (.tmp 9), 0, false⟩,⟨some 11, some (8, true), .fldA 1 (.tmp 10), 0, false⟩,⟨some 12, some (8, true), .ld1 none (.tmp 11), 0, false⟩,⟨some 13, some (8, true), .mv (.tmp 0), 0, false⟩,⟨some 14, some (8, true), .nilc (.tmp 13), 0, false⟩,⟨some 15, some (8, true), .fldA 0 (.tmp 14), 0, false⟩,⟨some 16, some (8, true), .ld1 none (.tmp 15), 0, false⟩,⟨some 17, some (8, true), .len true (.tmp 16), 0, false⟩,⟨some 18, some (8, true), .bini .lss (.tmp 12) (.tmp 17), 0, false⟩,⟨some 19, none, .pick (.tmp 8) (.tmp 18) (.con (.val (.bool false))), 0, false⟩,⟨some 2, none, .mv (.tmp 19), 0, false⟩])
 .ret))
def t49 : AFn := ⟨1, t49B,
 [.tmp 2], true⟩
/-- (*viewport/viewportref02.reader).item  -/
def t66L1 : AC := (.seq (.seq (.regN [0, 3] [
 ⟨some 7, none, .mv (.tmp 0), 0, false⟩,⟨some 8, none, .call 49 [(.tmp 7)], 0, false⟩])
 (.cond (.tmp 8)
 .skip
 (.exit 0)))
 (.block 1
 (.seq (.regN [0, 3] [
 ⟨some 4, none, .mv (.con (.val (.int .i64 0))), 0, false⟩])
 (.seq (.seq (.regD [0, 3, 4] 0 [
 ⟨some 9, none, .mv (.tmp 0), 0, false⟩,⟨some 10, none, .nilc (.tmp 9), 0, false⟩,⟨some 11, none, .fldA 0 (.tmp 10), 0, false⟩,⟨some 12, none, .ld1 none (.tmp 11), 0, false⟩,⟨some 13, none, .mv (.tmp 0), 0, false⟩,⟨some 14, none, .nilc (.tmp 13), 0, false⟩,⟨some 15, none, .fldA 1 (.tmp 14), 0, false⟩,⟨some 16, none, .ld1 none (.tmp 15), 0, false⟩,⟨some 17, none, .ixS (.tmp 12) (.tmp 16), 0, false⟩])
 (.block 2
 (.seq (.regN [0, 3, 4, 17] [
 ⟨some 19, none, .bini .eql (.tmp 17) (.con (.val (.int .u8 42))), 0, false⟩,⟨some 18, none, .mv (.tmp 19), 0, false⟩])
 (.cond (.tmp 18)
 (.regN [0, 3] [
 ⟨some 4, none, .mv (.con (.val (.int .i64 5))), 0, false⟩])
 (.seq (.regN [0, 3, 4, 17] [
 ⟨some 21, none, .bini .eql (.tmp 17) (.con (.val (.int .u8 43))), 0, false⟩,⟨some 20, none, .mv (.tmp 21), 0, false⟩])
 (.cond (.tmp 20)
 (.regN [0, 3] [
 ⟨some 4, none, .mv (.con (.val (.int .i64 6))), 0, false⟩])
 (.seq (.regN [0, 3, 4, 17] [
 ⟨some 23, none, .bini .eql (.tmp 17) (.con (.val (.int .u8 63))), 0, false⟩,⟨some 22, none, .mv (.tmp 23), 0, false⟩])
 (.cond (.tmp 22)
 (.regN [0, 3] [
 ⟨some 4, none, .mv (.con (.val (.int .i64 7))), 0, false⟩])
 .skip))))))))
 (.seq (.seq (.regN [0, 3, 4] [
 ⟨some 24, none, .mv (.tmp 4), 0, false⟩,⟨some 25, none, .bini .eql (.tmp 24) (.con (.val (.int .i64 0))), 0, false⟩])
 (.cond (.tmp 25)
 (.seq (.regN [3] [
 ⟨some 26, none, .mv (.tmp 3), 0, false⟩,⟨some 2, none, .mv (.tmp 26), 0, false⟩])
 .ret)
 .skip))
 (.seq (.regN [0, 3, 4] [
 ⟨some 27, none, .mv (.tmp 0), 0, false⟩,⟨some 28, none, .nilc (.tmp 27), 0, false⟩,⟨some 29, none, .fldA 1 (.tmp 28), 0, false⟩,⟨some 30, none, .ld1 none (.tmp 29), 0, false⟩,⟨some 31, none, .bini .add (.tmp 30) (.con (.val (.int .i64 1))), 0, false⟩,⟨some 32, none, .nilc (.tmp 27), 0, false⟩,⟨some 33, none, .fldA 1 (.tmp 32), 0, false⟩,⟨none, none, .st none 1 (.tmp 33) (.tmp 31), 0, false⟩])
 (.regN [0, 3, 4] [
 ⟨some 34, none, .mv (.tmp 0), 0, false⟩,⟨some 35, none, .mv (.tmp 4), 0, false⟩,⟨some 36, none, .build [(.val (.int .u64 0)), (.val (.int .u64 0)), (.val (.int .u64 0)), (.val (.int .u64 0))] [], 0, false⟩,⟨some 37, none, .mv (.tmp 3), 0, false⟩,⟨some 38, none, .buildS 1 [(.val (.int .i64 0))] [(0, 1, (.tmp 37))], 0, false⟩,⟨some 39, none, .call 61 [(.tmp 34), (.tmp 35), (.tmp 36), (.tmp 38)], 0, false⟩,⟨some 3, none, .mv (.tmp 39), 0, false⟩])))))))
def t66B : AC := (.seq (.regN [0] [
 ⟨some 2, none, .mv (.con (.val (.int .i64 0))), 0, false⟩])
 (.seq (.regN [0] [
 ⟨some 5, none, .mv (.tmp 0), 0, false⟩,⟨some 6, none, .call 67 [(.tmp 5)], 0, false⟩,⟨some 3, none, .mv (.tmp 6), 0, false⟩])
 (.seq (.block 0
 (.loop [0, 3] t66L1))
 (.seq (.regN [3] [
 ⟨some 40, none, .mv (.tmp 3), 0, false⟩,⟨some 2, none, .mv (.tmp 40), 0, false⟩])
 .ret))))
def t66 : AFn := ⟨1, t66B,
 [.tmp 2], false⟩
/-- (*viewport/viewportref02.reader).thing  -/
def t67B : AC := (.seq (.regN [0] [
 ⟨some 2, none, .mv (.con (.val (.int .i64 0))), 0, false⟩])
 (.seq (.regD [0] 0 [
 ⟨some 7, none, .mv (.tmp 0), 0, false⟩,⟨some 8, none, .nilc (.tmp 7), 0, false⟩,⟨some 9, none, .fldA 0 (.tmp 8), 0, false⟩,⟨some 10, none, .ld1 none (.tmp 9), 0, false⟩,⟨some 11, none, .mv (.tmp 0), 0, false⟩,⟨some 12, none, .nilc (.tmp 11), 0, false⟩,⟨some 13, none, .fldA 1 (.tmp 12), 0, false⟩,⟨some 14, none, .ld1 none (.tmp 13), 0, false⟩,⟨some 15, none, .ixS (.tmp 10) (.tmp 14), 0, false⟩,⟨some 3, none, .mv (.tmp 15), 0, false⟩])
 (.seq (.seq (.regN [0, 3] [
 ⟨some 16, none, .mv (.tmp 3), 0, false⟩])
 (.block 0
 (.seq (.seq (.regN [0, 3, 16] [
 ⟨some 18, none, .bini .eql (.tmp 16) (.con (.val (.int .u8 41))), 0, false⟩,⟨some 17, none, .mv (.tmp 18), 0, false⟩])
 (.cond (.tmp 17)
 .skip
 (.seq (.regN [0, 3, 16] [
 ⟨some 19, none, .bini .eql (.tmp 16) (.con (.val (.int .u8 93))), 0, false⟩,⟨some 17, none, .mv (.tmp 19), 0, false⟩])
 (.cond (.tmp 17)
 .skip
 (.seq (.regN [0, 3, 16] [
 ⟨some 20, none, .bini .eql (.tmp 16) (.con (.val (.int .u8 124))), 0, false⟩,⟨some 17, none, .mv (.tmp 20), 0, false⟩])
 (.cond (.tmp 17)
 .skip
 (.seq (.regN [0, 3, 16] [
 ⟨some 21, none, .bini .eql (.tmp 16) (.con (.val (.int .u8 42))), 0, false⟩,⟨some 17, none, .mv (.tmp 21), 0, false⟩])
 (.cond (.tmp 17)
 .skip
 (.seq (.regN [0, 3, 16] [
 ⟨some 22, none, .bini .eql (.tmp 16) (.con (.val (.int .u8 43))), 0, false⟩,⟨some 17, none, .mv (.tmp 22), 0, false⟩])
 (.cond (.tmp 17)
 .skip
 (.regN [0, 3, 16] [
 ⟨some 23, none, .bini .eql (.tmp 16) (.con (.val (.int .u8 63))), 0, false⟩,⟨some 17, none, .mv (.tmp 23), 0, false⟩])))))))))))
 (.cond (.tmp 17)
 (.seq (.regN [0] [
 ⟨some 24, none, .mv (.tmp 0), 0, false⟩,⟨some 25, none, .mv (.tmp 0), 0, false⟩,⟨some 26, none, .nilc (.tmp 25), 0, false⟩,⟨some 27, none, .fldA 1 (.tmp 26), 0, false⟩,⟨some 28, none, .ld1 none (.tmp 27), 0, false⟩,⟨some 29, none, .call 50 [(.tmp 24), (.tmp 28), (.con (.val (.int .i64 7)))], 0, false⟩,⟨some 2, none, .mv (.tmp 29), 0, false⟩])
 .ret)
 .skip))))
 (.seq (.regN [0, 3] [
 ⟨some 30, none, .mv (.tmp 0), 0, false⟩,⟨some 31, none, .nilc (.tmp 30), 0, false⟩,⟨some 32, none, .fldA 1 (.tmp 31), 0, false⟩,⟨some 33, none, .ld1 none (.tmp 32), 0, false⟩,⟨some 34, none, .bini .add (.tmp 33) (.con (.val (.int .i64 1))), 0, false⟩,⟨some 35, none, .nilc (.tmp 30), 0, false⟩,⟨some 36, none, .fldA 1 (.tmp 35), 0, false⟩,⟨none, none, .st none 1 (.tmp 36) (.tmp 34), 0, false⟩])
 (.seq (.seq (.regN [0, 3] [
 ⟨some 37, none, .mv (.tmp 3), 0, false⟩])
 (.block 1
 (.seq (.regN [0, 3, 37] [
 ⟨some 39, none, .bini .eql (.tmp 37) (.con (.val (.int .u8 40))), 0, false⟩,⟨some 38, none, .mv (.tmp 39), 0, false⟩])
 (.cond (.tmp 38)
 (.seq (.regN [0] [
 ⟨some 40, none, .mv (.tmp 0), 0, false⟩,⟨some 41, none, .call 48 [(.tmp 40)], 0, false⟩,⟨some 4, none, .mv (.tmp 41), 0, false⟩])
 (.seq (.seq (.regN [0, 4] [
 ⟨some 42, none, .mv (.tmp 0), 0, false⟩,⟨some 43, none, .call 49 [(.tmp 42)], 0, false⟩,⟨some 44, none, .not (.tmp 43), 0, false⟩])
 (.cond (.tmp 44)
 (.seq (.regN [0] [
 ⟨some 45, none, .mv (.tmp 0), 0, false⟩,⟨some 46, none, .mv (.tmp 0), 0, false⟩,⟨some 47, none, .nilc (.tmp 46), 0, false⟩,⟨some 48, none, .fldA 0 (.tmp 47), 0, false⟩,⟨some 49, none, .ld1 none (.tmp 48), 0, false⟩,⟨some 50, none, .len true (.tmp 49), 0, false⟩,⟨some 51, none, .call 50 [(.tmp 45), (.tmp 50), (.con (.val (.int .i64 8)))], 0, false⟩,⟨some 2, none, .mv (.tmp 51), 0, false⟩])
 .ret)
 .skip))
 (.seq (.seq (.regD [0, 4] 0 [
 ⟨some 52, none, .mv (.tmp 0), 0, false⟩,⟨some 53, none, .nilc (.tmp 52), 0, false⟩,⟨some 54, none, .fldA 0 (.tmp 53), 0, false⟩,⟨some 55, none, .ld1 none (.tmp 54), 0, false⟩,⟨some 56, none, .mv (.tmp 0), 0, false⟩,⟨some 57, none, .nilc (.tmp 56), 0, false⟩,⟨some 58, none, .fldA 1 (.tmp 57), 0, false⟩,⟨some 59, none, .ld1 none (.tmp 58), 0, false⟩,⟨some 60, none, .ixS (.tmp 55) (.tmp 59), 0, false⟩,⟨some 61, none, .bini .neq (.tmp 60) (.con (.val (.int .u8 41))), 0, false⟩])
 (.cond (.tmp 61)
 (.seq (.regN [0] [
 ⟨some 62, none, .mv (.tmp 0), 0, false⟩,⟨some 63, none, .mv (.tmp 0), 0, false⟩,⟨some 64, none, .nilc (.tmp 63), 0, false⟩,⟨some 65, none, .fldA 1 (.tmp 64), 0, false⟩,⟨some 66, none, .ld1 none (.tmp 65), 0, false⟩,⟨some 67, none, .call 50 [(.tmp 62), (.tmp 66), (.con (.val (.int .i64 7)))], 0, false⟩,⟨some 2, none, .mv (.tmp 67), 0, false⟩])
 .ret)
 .skip))
 (.seq (.regN [0, 4] [
 ⟨some 68, none, .mv (.tmp 0), 0, false⟩,⟨some 69, none, .nilc (.tmp 68), 0, false⟩,⟨some 70, none, .fldA 1 (.tmp 69), 0, false⟩,⟨some 71, none, .ld1 none (.tmp 70), 0, false⟩,⟨some 72, none, .bini .add (.tmp 71) (.con (.val (.int .i64 1))), 0, false⟩,⟨some 73, none, .nilc (.tmp 68), 0, false⟩,⟨some 74, none, .fldA 1 (.tmp 73), 0, false⟩,⟨none, none, .st none 1 (.tmp 74) (.tmp 72), 0, false⟩])
 (.seq (.regN [4] [
 ⟨some 75, none, .mv (.tmp 4), 0, false⟩,⟨some 2, none, .mv (.tmp 75), 0, false⟩])
 .ret)))))
 (.seq (.regN [0, 3, 37] [
 ⟨some 77, none, .bini .eql (.tmp 37) (.con (.val (.int .u8 91))), 0, false⟩,⟨some 76, none, .mv (.tmp 77), 0, false⟩])
 (.cond (.tmp 76)
 (.seq (.regN [0] [
 ⟨some 78, none, .mv (.tmp 0), 0, false⟩,⟨some 79, none, .call 68 [(.tmp 78)], 0, false⟩,⟨some 5, none, .allocR [(.val (.int .u64 0)), (.val (.int .u64 0)), (.val (.int .u64 0)), (.val (.int .u64 0))], 0, false⟩,⟨none, none, .st (some 5) 4 (.tmp 5) (.tmp 79), 0, false⟩])
 (.seq (.regN [0, 5] [
 ⟨some 80, none, .mv (.tmp 0), 0, false⟩,⟨some 81, none, .ldA (some 5) 4 (.tmp 5), 0, false⟩,⟨some 82, none, .call 61 [(.tmp 80), (.con (.val (.int .i64 2))), (.tmp 81), (.con .e0)], 0, false⟩,⟨some 2, none, .mv (.tmp 82), 0, false⟩])
 .ret))
 (.seq (.regN [0, 3, 37] [
 ⟨some 84, none, .bini .eql (.tmp 37) (.con (.val (.int .u8 46))), 0, false⟩,⟨some 83, none, .mv (.tmp 84), 0, false⟩])
 (.cond (.tmp 83)
 (.seq (.regN [0] [
 ⟨some 85, none, .mv (.tmp 0), 0, false⟩,⟨some 86, none, .call 70 [(.con (.val (.string ⟨#[10]⟩)))], 0, false⟩,⟨some 87, none, .call 69 [(.tmp 86)], 0, false⟩,⟨some 88, none, .call 61 [(.tmp 85), (.con (.val (.int .i64 2))), (.tmp 87), (.con .e0)], 0, false⟩,⟨some 2, none, .mv (.tmp 88), 0, false⟩])
 .ret)
 (.seq (.regN [0, 3, 37] [
 ⟨some 90, none, .bini .eql (.tmp 37) (.con (.val (.int .u8 92))), 0, false⟩,⟨some 89, none, .mv (.tmp 90), 0, false⟩])
 (.cond (.tmp 89)
 (.seq (.regN [0] [
 ⟨some 91, none, .mv (.tmp 0), 0, false⟩,⟨some 92, none, .call 71 [(.tmp 91)], 0, false⟩,⟨some 6, none, .mv (.tmp 92), 0, false⟩])
 (.seq (.regN [0, 6] [
 ⟨some 93, none, .mv (.tmp 0), 0, false⟩,⟨some 94, none, .mv (.tmp 6), 0, false⟩,⟨some 95, none, .buildS 1 [(.val (.int .u8 0))] [(0, 1, (.tmp 94))], 0, false⟩,⟨some 96, none, .b2s (.tmp 95), 0, false⟩,⟨some 97, none, .call 70 [(.tmp 96)], 0, false⟩,⟨some 98, none, .call 61 [(.tmp 93), (.con (.val (.int .i64 2))), (.tmp 97), (.con .e0)], 0, false⟩,⟨some 2, none, .mv (.tmp 98), 0, false⟩])
 .ret))
 .skip))))))))))
 (.seq (.regN [0, 3] [
 ⟨some 99, none, .mv (.tmp 0), 0, false⟩,⟨some 100, none, .mv (.tmp 3), 0, false⟩,⟨some 101, none, .buildS 1 [(.val (.int .u8 0))] [(0, 1, (.tmp 100))], 0, false⟩,⟨some 102, none, .b2s (.tmp 101), 0, false⟩,⟨some 103, none, .call 70 [(.tmp 102)], 0, false⟩,⟨some 104, none, .call 61 [(.tmp 99), (.con (.val (.int .i64 2))), (.tmp 103), (.con .e0)], 0, false⟩,⟨some 2, none, .mv (.tmp 104), 0, false⟩])
 .ret))))))
def t67 : AFn := ⟨1, t67B,
 [.tmp 2], false⟩
/-- (*viewport/viewportref02.reader).fail  -/
def t50B : AC := (.seq (.regN [0, 1, 2] [
 ⟨some 6, none, .mv (.con (.val (.int .i64 0))), 0, false⟩])
 (.seq (.seq (.regN [0, 1, 2] [
 ⟨some 7, none, .mv (.tmp 0), 0, false⟩,⟨some 8, none, .nilc (.tmp 7), 0, false⟩,⟨some 9, none, .fldA 3 (.tmp 8), 0, false⟩,⟨some 10, none, .ld1 none (.tmp 9), 0, false⟩,⟨some 11, none, .bini .eql (.tmp 10) (.con (.val (.int .i64 0))), 0, false⟩])
 (.cond (.tmp 11)
 (.regN [0, 1, 2] [
 ⟨some 12, none, .mv (.tmp 0), 0, false⟩,⟨some 13, none, .mv (.tmp 0), 0, false⟩,⟨some 14, none, .mv (.tmp 2), 0, false⟩,⟨some 15, none, .mv (.tmp 1), 0, false⟩,⟨some 16, none, .nilc (.tmp 12), 0, false⟩,⟨some 17, none, .fldA 3 (.tmp 16), 0, false⟩,⟨none, none, .st none 1 (.tmp 17) (.tmp 14), 0, false⟩,⟨some 18, none, .nilc (.tmp 13), 0, false⟩,⟨some 19, none, .fldA 1 (.tmp 18), 0, false⟩,⟨none, none, .st none 1 (.tmp 19) (.tmp 15), 0, false⟩])
 .skip))
 (.seq (.regN [] [
 ⟨some 6, none, .mv (.con (.val (.int .i64 0))), 0, false⟩])
 .ret)))
def t50 : AFn := ⟨3, t50B,
 [.tmp 6], true⟩
/-- (*viewport/viewportref02.reader).class  -/
def t68L1 : AC := (.seq (.seq (.regD [0, 2, 3, 4] 0 [
 ⟨some 31, none, .mv (.tmp 0), 0, false⟩,⟨some 32, none, .call 49 [(.tmp 31)], 0, true⟩,⟨some 33, none, .mv (.tmp 32), 0, false⟩,⟨some 34, some (33, true), .mv (.tmp 0), 0, false⟩,⟨some 35, some (33, true), .nilc (.tmp 34), 0, false⟩,⟨some 36, some (33, true), .fldA 0 (.tmp 35), 0, false⟩,⟨some 37, some (33, true), .ld1 none (.tmp 36), 0, false⟩,⟨some 38, some (33, true), .mv (.tmp 0), 0, false⟩,⟨some 39, some (33, true), .nilc (.tmp 38), 0, false⟩,⟨some 40, some (33, true), .fldA 1 (.tmp 39), 0, false⟩,⟨some 41, some (33, true), .ld1 none (.tmp 40), 0, false⟩,⟨some 42, some (33, true), .ixS (.tmp 37) (.tmp 41), 0, false⟩,⟨some 43, some (33, true), .bini .neq (.tmp 42) (.con (.val (.int .u8 93))), 0, false⟩,⟨some 44, none, .pick (.tmp 33) (.tmp 43) (.con (.val (.bool false))), 0, false⟩])
 (.cond (.tmp 44)
 .skip
 (.exit 0)))
 (.block 1
 (.seq (.regN [0, 2, 3, 4] [
 ⟨some 45, none, .mv (.tmp 0), 0, false⟩,⟨some 46, none, .call 72 [(.tmp 45)], 0, false⟩,⟨some 5, none, .mv (.tmp 46), 0, false⟩])
 (.seq (.regN [0, 2, 3, 4, 5] [
 ⟨some 47, none, .mv (.tmp 5), 0, false⟩,⟨some 6, none, .mv (.tmp 47), 0, false⟩])
 (.seq (.seq (.regD [0, 2, 3, 4, 5, 6] 0 [
 ⟨some 48, none, .mv (.tmp 0), 0, false⟩,⟨some 49, none, .nilc (.tmp 48), 0, false⟩,⟨some 50, none, .fldA 3 (.tmp 49), 0, false⟩,⟨some 51, none, .ld1 none (.tmp 50), 0, false⟩,⟨some 52, none, .bini .eql (.tmp 51) (.con (.val (.int .i64 0))), 0, false⟩,⟨some 53, none, .mv (.tmp 52), 0, false⟩,⟨some 54, some (53, true), .mv (.tmp 0), 0, false⟩,⟨some 55, some (53, true), .nilc (.tmp 54), 0, false⟩,⟨some 56, some (53, true), .fldA 1 (.tmp 55), 0, false⟩,⟨some 57, some (53, true), .ld1 none (.tmp 56), 0, false⟩,⟨some 58, some (53, true), .bini .add (.tmp 57) (.con (.val (.int .i64 1))), 0, false⟩,⟨some 59, some (53, true), .mv (.tmp 0), 0, false⟩,⟨some 60, some (53, true), .nilc (.tmp 59), 0, false⟩,⟨some 61, some (53, true), .fldA 0 (.tmp 60), 0, false⟩,⟨some 62, some (53, true), .ld1 none (.tmp 61), 0, false⟩,⟨some 63, some (53, true), .len true (.tmp 62), 0, false⟩,⟨some 64, some (53, true), .bini .lss (.tmp 58) (.tmp 63), 0, false⟩,⟨some 65, none, .pick (.tmp 53) (.tmp 64) (.con (.val (.bool false))), 0, false⟩,⟨some 66, none, .mv (.tmp 65), 0, false⟩,⟨some 67, some (66, true), .mv (.tmp 0), 0, false⟩,⟨some 68, some (66, true), .nilc (.tmp 67), 0, false⟩,⟨some 69, some (66, true), .fldA 0 (.tmp 68), 0, false⟩,⟨some 70, some (66, true), .ld1 none (.tmp 69), 0, false⟩,⟨some 71, some (66, true), .mv (.tmp 0), 0, false⟩,⟨some 72, some (66, true), .nilc (.tmp 71), 0, false⟩,⟨some 73, some (66, true), .fldA 1 (.tmp 72), 0, false⟩,⟨some 74, some (66, true), .ld1 none (.tmp 73), 0, false⟩,⟨some 75, some (66, true), .ixS (.tmp 70) (.tmp 74), 0, false⟩,⟨some 76, some (66, true), .bini .eql (.tmp 75) (.con (.val (.int .u8 45))), 0, false⟩,⟨some 77, none, .pick (.tmp 66) (.tmp 76) (.con (.val (.bool false))), 0, false⟩,⟨some 78, none, .mv (.tmp 77), 0, false⟩,⟨some 79, some (78, true), .mv (.tmp 0), 0, false⟩,⟨some 80, some (78, true), .nilc (.tmp 79), 0, false⟩,⟨some 81, some (78, true), .fldA 0 (.tmp 80), 0, false⟩,⟨some 82, some (78, true), .ld1 none (.tmp 81), 0, false⟩,⟨some 83, some (78, true), .mv (.tmp 0), 0, false⟩,⟨some 84, some (78, true), .nilc (.tmp 83), 0, false⟩,⟨some 85, some (78, true), .fldA 1 (.tmp 84), 0, false⟩,⟨some 86, some (78, true), .ld1 none (.tmp 85), 0, false⟩,⟨some 87, some (78, true), .bini .add (.tmp 86) (.con (.val (.int .i64 1))), 0, false⟩,⟨some 88, some (78, true), .ixS (.tmp 82) (.tmp 87), 0, false⟩,⟨some 89, some (78, true), .bini .neq (.tmp 88) (.con (.val (.int .u8 93))), 0, false⟩,⟨some 90, none, .pick (.tmp 78) (.tmp 89) (.con (.val (.bool false))), 0, false⟩])
 (.cond (.tmp 90)
 (.seq (.regN [0, 2, 3, 4, 5] [
 ⟨some 91, none, .mv (.tmp 0), 0, false⟩,⟨some 92, none, .nilc (.tmp 91), 0, false⟩,⟨some 93, none, .fldA 1 (.tmp 92), 0, false⟩,⟨some 94, none, .ld1 none (.tmp 93), 0, false⟩,⟨some 95, none, .bini .add (.tmp 94) (.con (.val (.int .i64 1))), 0, false⟩,⟨some 96, none, .nilc (.tmp 91), 0, false⟩,⟨some 97, none, .fldA 1 (.tmp 96), 0, false⟩,⟨none, none, .st none 1 (.tmp 97) (.tmp 95), 0, false⟩])
 (.seq (.regN [0, 2, 3, 4, 5] [
 ⟨some 98, none, .mv (.tmp 0), 0, false⟩,⟨some 99, none, .nilc (.tmp 98), 0, false⟩,⟨some 100, none, .fldA 1 (.tmp 99), 0, false⟩,⟨some 101, none, .ld1 none (.tmp 100), 0, false⟩,⟨some 7, none, .mv (.tmp 101), 0, false⟩])
 (.seq (.regN [0, 2, 3, 4, 5, 7] [
 ⟨some 102, none, .mv (.tmp 0), 0, false⟩,⟨some 103, none, .call 72 [(.tmp 102)], 0, false⟩,⟨some 6, none, .mv (.tmp 103), 0, false⟩])
 (.seq (.regN [0, 2, 3, 4, 5, 6, 7] [
 ⟨some 104, none, .mv (.tmp 0), 0, false⟩,⟨some 105, none, .nilc (.tmp 104), 0, false⟩,⟨some 106, none, .fldA 3 (.tmp 105), 0, false⟩,⟨some 107, none, .ld1 none (.tmp 106), 0, false⟩,⟨some 108, none, .bini .eql (.tmp 107) (.con (.val (.int .i64 0))), 0, false⟩,⟨some 109, none, .mv (.tmp 108), 0, false⟩,⟨some 110, some (109, true), .mv (.tmp 6), 0, false⟩,⟨some 111, some (109, true), .mv (.tmp 5), 0, false⟩,⟨some 112, some (109, true), .bini .lss (.tmp 110) (.tmp 111), 0, false⟩,⟨some 113, none, .pick (.tmp 109) (.tmp 112) (.con (.val (.bool false))), 0, false⟩])
 (.cond (.tmp 113)
 (.regN [0, 2, 3, 4, 5, 6, 7] [
 ⟨some 114, none, .mv (.tmp 0), 0, false⟩,⟨some 115, none, .mv (.tmp 7), 0, false⟩,⟨some 116, none, .call 50 [(.tmp 114), (.tmp 115), (.con (.val (.int .i64 7)))], 0, false⟩])
 .skip)))))
 .skip))
 (.regD [0, 2, 3, 4, 5, 6] 0 [
 ⟨some 117, none, .ldA (some 3) 4 (.tmp 3), 0, false⟩,⟨some 118, none, .mv (.tmp 5), 0, false⟩,⟨some 119, none, .mv (.tmp 6), 0, false⟩,⟨some 120, none, .call 74 [(.tmp 118), (.tmp 119)], 0, true⟩,⟨some 121, none, .call 73 [(.tmp 117), (.tmp 120)], 0, true⟩,⟨none, none, .st (some 3) 4 (.tmp 3) (.tmp 121), 0, false⟩]))))))
def t68B : AC := (.seq (.regN [0] [
 ⟨some 2, none, .allocR [(.val (.int .u64 0)), (.val (.int .u64 0)), (.val (.int .u64 0)), (.val (.int .u64 0))], 0, false⟩])
 (.seq (.regN [0, 2] [
 ⟨some 8, none, .build [(.val (.int .u64 0)), (.val (.int .u64 0)), (.val (.int .u64 0)), (.val (.int .u64 0))] [], 0, false⟩,⟨some 3, none, .allocR [(.val (.int .u64 0)), (.val (.int .u64 0)), (.val (.int .u64 0)), (.val (.int .u64 0))], 0, false⟩,⟨none, none, .st (some 3) 4 (.tmp 3) (.tmp 8), 0, false⟩])
 (.seq (.regD [0, 2, 3] 0 [
 ⟨some 9, none, .mv (.tmp 0), 0, false⟩,⟨some 10, none, .call 49 [(.tmp 9)], 0, true⟩,⟨some 11, none, .mv (.tmp 10), 0, false⟩,⟨some 12, some (11, true), .mv (.tmp 0), 0, false⟩,⟨some 13, some (11, true), .nilc (.tmp 12), 0, false⟩,⟨some 14, some (11, true), .fldA 0 (.tmp 13), 0, false⟩,⟨some 15, some (11, true), .ld1 none (.tmp 14), 0, false⟩,⟨some 16, some (11, true), .mv (.tmp 0), 0, false⟩,⟨some 17, some (11, true), .nilc (.tmp 16), 0, false⟩,⟨some 18, some (11, true), .fldA 1 (.tmp 17), 0, false⟩,⟨some 19, some (11, true), .ld1 none (.tmp 18), 0, false⟩,⟨some 20, some (11, true), .ixS (.tmp 15) (.tmp 19), 0, false⟩,⟨some 21, some (11, true), .bini .eql (.tmp 20) (.con (.val (.int .u8 94))), 0, false⟩,⟨some 22, none, .pick (.tmp 11) (.tmp 21) (.con (.val (.bool false))), 0, false⟩,⟨some 4, none, .mv (.tmp 22), 0, false⟩])
 (.seq (.seq (.regN [0, 2, 3, 4] [
 ⟨some 23, none, .mv (.tmp 4), 0, false⟩])
 (.cond (.tmp 23)
 (.regN [0, 2, 3, 4] [
 ⟨some 24, none, .mv (.tmp 0), 0, false⟩,⟨some 25, none, .nilc (.tmp 24), 0, false⟩,⟨some 26, none, .fldA 1 (.tmp 25), 0, false⟩,⟨some 27, none, .ld1 none (.tmp 26), 0, false⟩,⟨some 28, none, .bini .add (.tmp 27) (.con (.val (.int .i64 1))), 0, false⟩,⟨some 29, none, .nilc (.tmp 24), 0, false⟩,⟨some 30, none, .fldA 1 (.tmp 29), 0, false⟩,⟨none, none, .st none 1 (.tmp 30) (.tmp 28), 0, false⟩])
 .skip))
 (.seq (.block 0
 (.loop [0, 2, 3, 4] t68L1))
 (.seq (.seq (.regN [0, 2, 3, 4] [
 ⟨some 122, none, .mv (.tmp 0), 0, false⟩,⟨some 123, none, .call 49 [(.tmp 122)], 0, false⟩,⟨some 124, none, .not (.tmp 123), 0, false⟩])
 (.cond (.tmp 124)
 (.seq (.regN [0, 2, 3] [
 ⟨some 125, none, .mv (.tmp 0), 0, false⟩,⟨some 126, none, .mv (.tmp 0), 0, false⟩,⟨some 127, none, .nilc (.tmp 126), 0, false⟩,⟨some 128, none, .fldA 0 (.tmp 127), 0, false⟩,⟨some 129, none, .ld1 none (.tmp 128), 0, false⟩,⟨some 130, none, .len true (.tmp 129), 0, false⟩,⟨some 131, none, .call 50 [(.tmp 125), (.tmp 130), (.con (.val (.int .i64 8)))], 0, false⟩])
 (.seq (.regN [2, 3] [
 ⟨some 132, none, .ldA (some 3) 4 (.tmp 3), 0, false⟩,⟨none, none, .st (some 2) 4 (.tmp 2) (.tmp 132), 0, false⟩])
 .ret))
 .skip))
 (.seq (.regN [0, 2, 3, 4] [
 ⟨some 133, none, .mv (.tmp 0), 0, false⟩,⟨some 134, none, .nilc (.tmp 133), 0, false⟩,⟨some 135, none, .fldA 1 (.tmp 134), 0, false⟩,⟨some 136, none, .ld1 none (.tmp 135), 0, false⟩,⟨some 137, none, .bini .add (.tmp 136) (.con (.val (.int .i64 1))), 0, false⟩,⟨some 138, none, .nilc (.tmp 133), 0, false⟩,⟨some 139, none, .fldA 1 (.tmp 138), 0, false⟩,⟨none, none, .st none 1 (.tmp 139) (.tmp 137), 0, false⟩])
 (.seq (.seq (.regN [2, 3, 4] [
 ⟨some 140, none, .mv (.tmp 4), 0, false⟩])
 (.cond (.tmp 140)
 (.seq (.regN [2, 3] [
 ⟨some 141, none, .ldA (some 3) 4 (.tmp 3), 0, false⟩,⟨some 142, none, .call 69 [(.tmp 141)], 0, false⟩,⟨none, none, .st (some 2) 4 (.tmp 2) (.tmp 142), 0, false⟩])
 .ret)
 .skip))
 (.seq (.regN [2, 3] [
 ⟨some 143, none, .ldA (some 3) 4 (.tmp 3), 0, false⟩,⟨none, none, .st (some 2) 4 (.tmp 2) (.tmp 143), 0, false⟩])
 .ret)))))))))
def t68 : AFn := ⟨1, t68B,
 [.cell 2 4 true], false⟩
/-- (*viewport/viewportref02.reader).one  -/
def t72B : AC := (.seq (.regN [0] [
 ⟨some 2, none, .mv (.con (.val (.int .u8 0))), 0, false⟩])
 (.seq (.regD [0] 0 [
 ⟨some 4, none, .mv (.tmp 0), 0, false⟩,⟨some 5, none, .nilc (.tmp 4), 0, false⟩,⟨some 6, none, .fldA 0 (.tmp 5), 0, false⟩,⟨some 7, none, .ld1 none (.tmp 6), 0, false⟩,⟨some 8, none, .mv (.tmp 0), 0, false⟩,⟨some 9, none, .nilc (.tmp 8), 0, false⟩,⟨some 10, none, .fldA 1 (.tmp 9), 0, false⟩,⟨some 11, none, .ld1 none (.tmp 10), 0, false⟩,⟨some 12, none, .ixS (.tmp 7) (.tmp 11), 0, false⟩,⟨some 3, none, .mv (.tmp 12), 0, false⟩])
 (.seq (.regN [0, 3] [
 ⟨some 13, none, .mv (.tmp 0), 0, false⟩,⟨some 14, none, .nilc (.tmp 13), 0, false⟩,⟨some 15, none, .fldA 1 (.tmp 14), 0, false⟩,⟨some 16, none, .ld1 none (.tmp 15), 0, false⟩,⟨some 17, none, .bini .add (.tmp 16) (.con (.val (.int .i64 1))), 0, false⟩,⟨some 18, none, .nilc (.tmp 13), 0, false⟩,⟨some 19, none, .fldA 1 (.tmp 18), 0, false⟩,⟨none, none, .st none 1 (.tmp 19) (.tmp 17), 0, false⟩])
 (.seq (.seq (.regN [0, 3] [
 ⟨some 20, none, .mv (.tmp 3), 0, false⟩,⟨some 21, none, .bini .eql (.tmp 20) (.con (.val (.int .u8 92))), 0, false⟩])
 (.cond (.tmp 21)
 (.seq (.regN [0] [
 ⟨some 22, none, .mv (.tmp 0), 0, false⟩,⟨some 23, none, .call 71 [(.tmp 22)], 0, false⟩,⟨some 2, none, .mv (.tmp 23), 0, false⟩])
 .ret)
 .skip))
 (.seq (.regN [3] [
 ⟨some 24, none, .mv (.tmp 3), 0, false⟩,⟨some 2, none, .mv (.tmp 24), 0, false⟩])
 .ret)))))
def t72 : AFn := ⟨1, t72B,
 [.tmp 2], false⟩
/-- (*viewport/viewportref02.reader).escape  -/
def t71L1 : AC := (.seq (.seq (.regN [0, 4, 5] [
 ⟨some 38, none, .mv (.tmp 5), 0, false⟩,⟨some 39, none, .bini .leq (.tmp 38) (.con (.val (.int .i64 2))), 0, false⟩])
 (.cond (.tmp 39)
 .skip
 (.exit 1)))
 (.seq (.block 2
 (.seq (.seq (.regD [0, 4, 5] 0 [
 ⟨some 42, none, .mv (.tmp 0), 0, false⟩,⟨some 43, none, .nilc (.tmp 42), 0, false⟩,⟨some 44, none, .fldA 1 (.tmp 43), 0, false⟩,⟨some 45, none, .ld1 none (.tmp 44), 0, false⟩,⟨some 46, none, .mv (.tmp 5), 0, false⟩,⟨some 47, none, .bini .add (.tmp 45) (.tmp 46), 0, false⟩,⟨some 48, none, .mv (.tmp 0), 0, false⟩,⟨some 49, none, .nilc (.tmp 48), 0, false⟩,⟨some 50, none, .fldA 0 (.tmp 49), 0, false⟩,⟨some 51, none, .ld1 none (.tmp 50), 0, false⟩,⟨some 52, none, .len true (.tmp 51), 0, false⟩,⟨some 53, none, .bini .geq (.tmp 47) (.tmp 52), 0, false⟩])
 (.cond (.tmp 53)
 (.seq (.regN [0] [
 ⟨some 54, none, .mv (.tmp 0), 0, false⟩,⟨some 55, none, .mv (.tmp 0), 0, false⟩,⟨some 56, none, .nilc (.tmp 55), 0, false⟩,⟨some 57, none, .fldA 0 (.tmp 56), 0, false⟩,⟨some 58, none, .ld1 none (.tmp 57), 0, false⟩,⟨some 59, none, .len true (.tmp 58), 0, false⟩,⟨some 60, none, .call 50 [(.tmp 54), (.tmp 59), (.con (.val (.int .i64 8)))], 0, false⟩])
 (.seq (.regN [] [
 ⟨some 2, none, .mv (.con (.val (.int .u8 0))), 0, false⟩])
 .ret))
 .skip))
 (.seq (.regD [0, 4, 5] 0 [
 ⟨some 61, none, .mv (.tmp 0), 0, false⟩,⟨some 62, none, .nilc (.tmp 61), 0, false⟩,⟨some 63, none, .fldA 0 (.tmp 62), 0, false⟩,⟨some 64, none, .ld1 none (.tmp 63), 0, false⟩,⟨some 65, none, .mv (.tmp 0), 0, false⟩,⟨some 66, none, .nilc (.tmp 65), 0, false⟩,⟨some 67, none, .fldA 1 (.tmp 66), 0, false⟩,⟨some 68, none, .ld1 none (.tmp 67), 0, false⟩,⟨some 69, none, .mv (.tmp 5), 0, false⟩,⟨some 70, none, .bini .add (.tmp 68) (.tmp 69), 0, false⟩,⟨some 71, none, .ixS (.tmp 64) (.tmp 70), 0, false⟩,⟨some 72, none, .call 76 [(.tmp 71)], 0, true⟩,⟨some 6, none, .mv (.tmp 72), 0, false⟩])
 (.seq (.seq (.regN [0, 4, 5, 6] [
 ⟨some 73, none, .mv (.tmp 6), 0, false⟩,⟨some 74, none, .bini .lss (.tmp 73) (.con (.val (.int .i64 0))), 0, false⟩])
 (.cond (.tmp 74)
 (.seq (.regN [0, 5] [
 ⟨some 75, none, .mv (.tmp 0), 0, false⟩,⟨some 76, none, .mv (.tmp 0), 0, false⟩,⟨some 77, none, .nilc (.tmp 76), 0, false⟩,⟨some 78, none, .fldA 1 (.tmp 77), 0, false⟩,⟨some 79, none, .ld1 none (.tmp 78), 0, false⟩,⟨some 80, none, .mv (.tmp 5), 0, false⟩,⟨some 81, none, .bini .add (.tmp 79) (.tmp 80), 0, false⟩,⟨some 82, none, .call 50 [(.tmp 75), (.tmp 81), (.con (.val (.int .i64 7)))], 0, false⟩])
 (.seq (.regN [] [
 ⟨some 2, none, .mv (.con (.val (.int .u8 0))), 0, false⟩])
 .ret))
 .skip))
 (.regN [0, 4, 5, 6] [
 ⟨some 83, none, .mv (.tmp 4), 0, false⟩,⟨some 84, none, .bini .mul (.con (.val (.int .i64 16))) (.tmp 83), 0, false⟩,⟨some 85, none, .mv (.tmp 6), 0, false⟩,⟨some 86, none, .bini .add (.tmp 84) (.tmp 85), 0, false⟩,⟨some 4, none, .mv (.tmp 86), 0, false⟩])))))
 (.regN [0, 4, 5] [
 ⟨some 40, none, .mv (.tmp 5), 0, false⟩,⟨some 41, none, .bini .add (.tmp 40) (.con (.val (.int .i64 1))), 0, false⟩,⟨some 5, none, .mv (.tmp 41), 0, false⟩])))
def t71B : AC := (.seq (.regN [0] [
 ⟨some 2, none, .mv (.con (.val (.int .u8 0))), 0, false⟩])
 (.seq (.seq (.regN [0] [
 ⟨some 7, none, .mv (.tmp 0), 0, false⟩,⟨some 8, none, .call 49 [(.tmp 7)], 0, false⟩,⟨some 9, none, .not (.tmp 8), 0, false⟩])
 (.cond (.tmp 9)
 (.seq (.regN [0] [
 ⟨some 10, none, .mv (.tmp 0), 0, false⟩,⟨some 11, none, .mv (.tmp 0), 0, false⟩,⟨some 12, none, .nilc (.tmp 11), 0, false⟩,⟨some 13, none, .fldA 0 (.tmp 12), 0, false⟩,⟨some 14, none, .ld1 none (.tmp 13), 0, false⟩,⟨some 15, none, .len true (.tmp 14), 0, false⟩,⟨some 16, none, .call 50 [(.tmp 10), (.tmp 15), (.con (.val (.int .i64 8)))], 0, false⟩])
 (.seq (.regN [] [
 ⟨some 2, none, .mv (.con (.val (.int .u8 0))), 0, false⟩])
 .ret))
 .skip))
 (.seq (.regD [0] 0 [
 ⟨some 17, none, .mv (.tmp 0), 0, false⟩,⟨some 18, none, .nilc (.tmp 17), 0, false⟩,⟨some 19, none, .fldA 0 (.tmp 18), 0, false⟩,⟨some 20, none, .ld1 none (.tmp 19), 0, false⟩,⟨some 21, none, .mv (.tmp 0), 0, false⟩,⟨some 22, none, .nilc (.tmp 21), 0, false⟩,⟨some 23, none, .fldA 1 (.tmp 22), 0, false⟩,⟨some 24, none, .ld1 none (.tmp 23), 0, false⟩,⟨some 25, none, .ixS (.tmp 20) (.tmp 24), 0, false⟩,⟨some 3, none, .mv (.tmp 25), 0, false⟩])
 (.seq (.block 0
 (.seq (.regN [0, 3] [
 ⟨some 27, none, .mv (.tmp 3), 0, false⟩,⟨some 28, none, .bini .eql (.tmp 27) (.con (.val (.int .u8 110))), 0, false⟩,⟨some 26, none, .mv (.tmp 28), 0, false⟩])
 (.cond (.tmp 26)
 (.regN [0] [
 ⟨some 3, none, .mv (.con (.val (.int .u8 10))), 0, false⟩])
 (.seq (.regN [0, 3] [
 ⟨some 30, none, .mv (.tmp 3), 0, false⟩,⟨some 31, none, .bini .eql (.tmp 30) (.con (.val (.int .u8 116))), 0, false⟩,⟨some 29, none, .mv (.tmp 31), 0, false⟩])
 (.cond (.tmp 29)
 (.regN [0] [
 ⟨some 3, none, .mv (.con (.val (.int .u8 9))), 0, false⟩])
 (.seq (.regN [0, 3] [
 ⟨some 33, none, .mv (.tmp 3), 0, false⟩,⟨some 34, none, .bini .eql (.tmp 33) (.con (.val (.int .u8 114))), 0, false⟩,⟨some 32, none, .mv (.tmp 34), 0, false⟩])
 (.cond (.tmp 32)
 (.regN [0] [
 ⟨some 3, none, .mv (.con (.val (.int .u8 13))), 0, false⟩])
 (.seq (.regN [0, 3] [
 ⟨some 36, none, .mv (.tmp 3), 0, false⟩,⟨some 37, none, .bini .eql (.tmp 36) (.con (.val (.int .u8 120))), 0, false⟩,⟨some 35, none, .mv (.tmp 37), 0, false⟩])
 (.cond (.tmp 35)
 (.seq (.regN [0] [
 ⟨some 4, none, .mv (.con (.val (.int .i64 0))), 0, false⟩])
 (.seq (.seq (.regN [0, 4] [
 ⟨some 5, none, .mv (.con (.val (.int .i64 1))), 0, false⟩])
 (.block 1
 (.loop [0, 4, 5] t71L1)))
 (.seq (.regN [0, 4] [
 ⟨some 87, none, .mv (.tmp 0), 0, false⟩,⟨some 88, none, .mv (.tmp 0), 0, false⟩,⟨some 89, none, .nilc (.tmp 88), 0, false⟩,⟨some 90, none, .fldA 1 (.tmp 89), 0, false⟩,⟨some 91, none, .ld1 none (.tmp 90), 0, false⟩,⟨some 92, none, .bini .add (.tmp 91) (.con (.val (.int .i64 2))), 0, false⟩,⟨some 93, none, .nilc (.tmp 87), 0, false⟩,⟨some 94, none, .fldA 1 (.tmp 93), 0, false⟩,⟨none, none, .st none 1 (.tmp 94) (.tmp 92), 0, false⟩])
 (.regN [0, 4] [
 ⟨some 95, none, .mv (.tmp 4), 0, false⟩,⟨some 96, none, .cvi .u8 (.tmp 95), 0, false⟩,⟨some 3, none, .mv (.tmp 96), 0, false⟩]))))
 (.seq (.regN [0, 3] [
 ⟨some 98, none, .mv (.tmp 3), 0, false⟩,⟨some 99, none, .call 77 [(.tmp 98)], 0, false⟩,⟨some 97, none, .mv (.tmp 99), 0, false⟩])
 (.cond (.tmp 97)
 (.seq (.regN [0] [
 ⟨some 100, none, .mv (.tmp 0), 0, false⟩,⟨some 101, none, .mv (.tmp 0), 0, false⟩,⟨some 102, none, .nilc (.tmp 101), 0, false⟩,⟨some 103, none, .fldA 1 (.tmp 102), 0, false⟩,⟨some 104, none, .ld1 none (.tmp 103), 0, false⟩,⟨some 105, none, .call 50 [(.tmp 100), (.tmp 104), (.con (.val (.int .i64 7)))], 0, false⟩])
 (.seq (.regN [] [
 ⟨some 2, none, .mv (.con (.val (.int .u8 0))), 0, false⟩])
 .ret))
 .skip)))))))))))
 (.seq (.regN [0, 3] [
 ⟨some 106, none, .mv (.tmp 0), 0, false⟩,⟨some 107, none, .nilc (.tmp 106), 0, false⟩,⟨some 108, none, .fldA 1 (.tmp 107), 0, false⟩,⟨some 109, none, .ld1 none (.tmp 108), 0, false⟩,⟨some 110, none, .bini .add (.tmp 109) (.con (.val (.int .i64 1))), 0, false⟩,⟨some 111, none, .nilc (.tmp 106), 0, false⟩,⟨some 112, none, .fldA 1 (.tmp 111), 0, false⟩,⟨none, none, .st none 1 (.tmp 112) (.tmp 110), 0, false⟩])
 (.seq (.regN [3] [
 ⟨some 113, none, .mv (.tmp 3), 0, false⟩,⟨some 2, none, .mv (.tmp 113), 0, false⟩])
 .ret))))))
def t71 : AFn := ⟨1, t71B,
 [.tmp 2], false⟩
/-- viewport/viewportref02.hex  -/
def t76B : AC := (.seq (.regN [0] [
 ⟨some 2, none, .mv (.con (.val (.int .i64 0))), 0, false⟩])
 (.seq (.block 0
 (.seq (.regN [0] [
 ⟨some 4, none, .mv (.tmp 0), 0, false⟩,⟨some 5, none, .bini .geq (.tmp 4) (.con (.val (.int .u8 48))), 0, false⟩,⟨some 6, none, .mv (.tmp 5), 0, false⟩,⟨some 7, some (6, true), .mv (.tmp 0), 0, false⟩,⟨some 8, some (6, true), .bini .leq (.tmp 7) (.con (.val (.int .u8 57))), 0, false⟩,⟨some 9, none, .pick (.tmp 6) (.tmp 8) (.con (.val (.bool false))), 0, false⟩,⟨some 3, none, .mv (.tmp 9), 0, false⟩])
 (.cond (.tmp 3)
 (.seq (.regN [0] [
 ⟨some 10, none, .mv (.tmp 0), 0, false⟩,⟨some 11, none, .bini .sub (.tmp 10) (.con (.val (.int .u8 48))), 0, false⟩,⟨some 12, none, .cvi .i64 (.tmp 11), 0, false⟩,⟨some 2, none, .mv (.tmp 12), 0, false⟩])
 .ret)
 (.seq (.regN [0] [
 ⟨some 14, none, .mv (.tmp 0), 0, false⟩,⟨some 15, none, .bini .geq (.tmp 14) (.con (.val (.int .u8 97))), 0, false⟩,⟨some 16, none, .mv (.tmp 15), 0, false⟩,⟨some 17, some (16, true), .mv (.tmp 0), 0, false⟩,⟨some 18, some (16, true), .bini .leq (.tmp 17) (.con (.val (.int .u8 102))), 0, false⟩,⟨some 19, none, .pick (.tmp 16) (.tmp 18) (.con (.val (.bool false))), 0, false⟩,⟨some 13, none, .mv (.tmp 19), 0, false⟩])
 (.cond (.tmp 13)
 (.seq (.regN [0] [
 ⟨some 20, none, .mv (.tmp 0), 0, false⟩,⟨some 21, none, .bini .sub (.tmp 20) (.con (.val (.int .u8 97))), 0, false⟩,⟨some 22, none, .cvi .i64 (.tmp 21), 0, false⟩,⟨some 23, none, .bini .add (.tmp 22) (.con (.val (.int .i64 10))), 0, false⟩,⟨some 2, none, .mv (.tmp 23), 0, false⟩])
 .ret)
 (.seq (.regN [0] [
 ⟨some 25, none, .mv (.tmp 0), 0, false⟩,⟨some 26, none, .bini .geq (.tmp 25) (.con (.val (.int .u8 65))), 0, false⟩,⟨some 27, none, .mv (.tmp 26), 0, false⟩,⟨some 28, some (27, true), .mv (.tmp 0), 0, false⟩,⟨some 29, some (27, true), .bini .leq (.tmp 28) (.con (.val (.int .u8 70))), 0, false⟩,⟨some 30, none, .pick (.tmp 27) (.tmp 29) (.con (.val (.bool false))), 0, false⟩,⟨some 24, none, .mv (.tmp 30), 0, false⟩])
 (.cond (.tmp 24)
 (.seq (.regN [0] [
 ⟨some 31, none, .mv (.tmp 0), 0, false⟩,⟨some 32, none, .bini .sub (.tmp 31) (.con (.val (.int .u8 65))), 0, false⟩,⟨some 33, none, .cvi .i64 (.tmp 32), 0, false⟩,⟨some 34, none, .bini .add (.tmp 33) (.con (.val (.int .i64 10))), 0, false⟩,⟨some 2, none, .mv (.tmp 34), 0, false⟩])
 .ret)
 .skip)))))))
 (.seq (.regN [] [
 ⟨some 2, none, .mv (.con (.val (.int .i64 (-1)))), 0, false⟩])
 .ret)))
def t76 : AFn := ⟨1, t76B,
 [.tmp 2], true⟩
/-- viewport/viewportref02.letter  -/
def t77B : AC := (.seq (.regN [0] [
 ⟨some 2, none, .mv (.con (.val (.bool false))), 0, false⟩])
 (.seq (.regN [0] [
 ⟨some 3, none, .mv (.tmp 0), 0, false⟩,⟨some 4, none, .bini .geq (.tmp 3) (.con (.val (.int .u8 48))), 0, false⟩,⟨some 5, none, .mv (.tmp 4), 0, false⟩,⟨some 6, some (5, true), .mv (.tmp 0), 0, false⟩,⟨some 7, some (5, true), .bini .leq (.tmp 6) (.con (.val (.int .u8 57))), 0, false⟩,⟨some 8, none, .pick (.tmp 5) (.tmp 7) (.con (.val (.bool false))), 0, false⟩,⟨some 9, none, .mv (.tmp 8), 0, false⟩,⟨some 10, some (9, false), .mv (.tmp 0), 0, false⟩,⟨some 11, some (9, false), .bini .geq (.tmp 10) (.con (.val (.int .u8 97))), 0, false⟩,⟨some 12, some (9, false), .mv (.tmp 11), 0, false⟩,⟨some 13, some (12, true), .mv (.tmp 0), 0, false⟩,⟨some 14, some (12, true), .bini .leq (.tmp 13) (.con (.val (.int .u8 122))), 0, false⟩,⟨some 15, some (9, false), .pick (.tmp 12) (.tmp 14) (.con (.val (.bool false))), 0, false⟩,⟨some 16, none, .pick (.tmp 9) (.con (.val (.bool true))) (.tmp 15), 0, false⟩,⟨some 17, none, .mv (.tmp 16), 0, false⟩,⟨some 18, some (17, false), .mv (.tmp 0), 0, false⟩,⟨some 19, some (17, false), .bini .geq (.tmp 18) (.con (.val (.int .u8 65))), 0, false⟩,⟨some 20, some (17, false), .mv (.tmp 19), 0, false⟩,⟨some 21, some (20, true), .mv (.tmp 0), 0, false⟩,⟨some 22, some (20, true), .bini .leq (.tmp 21) (.con (.val (.int .u8 90))), 0, false⟩,⟨some 23, some (17, false), .pick (.tmp 20) (.tmp 22) (.con (.val (.bool false))), 0, false⟩,⟨some 24, none, .pick (.tmp 17) (.con (.val (.bool true))) (.tmp 23), 0, false⟩,⟨some 2, none, .mv (.tmp 24), 0, false⟩])
 .ret))
def t77 : AFn := ⟨1, t77B,
 [.tmp 2], true⟩
/-- viewport/viewportref01.Range  -/
def t74L1 : AC := (.seq (.seq (.regN [1, 4, 5, 6] [
 ⟨some 10, none, .mv (.tmp 6), 0, false⟩,⟨some 11, none, .mv (.tmp 1), 0, false⟩,⟨some 12, none, .cvi .i64 (.tmp 11), 0, false⟩,⟨some 13, none, .bini .leq (.tmp 10) (.tmp 12), 0, false⟩])
 (.cond (.tmp 13)
 .skip
 (.exit 0)))
 (.seq (.block 1
 (.regN [1, 4, 5, 6] [
 ⟨some 16, none, .ldA (some 5) 4 (.tmp 5), 0, false⟩,⟨some 17, none, .mv (.tmp 6), 0, false⟩,⟨some 18, none, .cvi .u8 (.tmp 17), 0, false⟩,⟨some 19, none, .call 75 [(.tmp 16), (.tmp 18)], 0, false⟩,⟨none, none, .st (some 5) 4 (.tmp 5) (.tmp 19), 0, false⟩]))
 (.regN [1, 4, 5, 6] [
 ⟨some 14, none, .mv (.tmp 6), 0, false⟩,⟨some 15, none, .bini .add (.tmp 14) (.con (.val (.int .i64 1))), 0, false⟩,⟨some 6, none, .mv (.tmp 15), 0, false⟩])))
def t74B : AC := (.seq (.regN [0, 1] [
 ⟨some 4, none, .allocR [(.val (.int .u64 0)), (.val (.int .u64 0)), (.val (.int .u64 0)), (.val (.int .u64 0))], 0, false⟩])
 (.seq (.regN [0, 1, 4] [
 ⟨some 7, none, .build [(.val (.int .u64 0)), (.val (.int .u64 0)), (.val (.int .u64 0)), (.val (.int .u64 0))] [], 0, false⟩,⟨some 5, none, .allocR [(.val (.int .u64 0)), (.val (.int .u64 0)), (.val (.int .u64 0)), (.val (.int .u64 0))], 0, false⟩,⟨none, none, .st (some 5) 4 (.tmp 5) (.tmp 7), 0, false⟩])
 (.seq (.seq (.regN [0, 1, 4, 5] [
 ⟨some 8, none, .mv (.tmp 0), 0, false⟩,⟨some 9, none, .cvi .i64 (.tmp 8), 0, false⟩,⟨some 6, none, .mv (.tmp 9), 0, false⟩])
 (.block 0
 (.loop [1, 4, 5, 6] t74L1)))
 (.seq (.regN [4, 5] [
 ⟨some 20, none, .ldA (some 5) 4 (.tmp 5), 0, false⟩,⟨none, none, .st (some 4) 4 (.tmp 4) (.tmp 20), 0, false⟩])
 .ret))))
def t74 : AFn := ⟨2, t74B,
 [.cell 4 4 true], true⟩
/-- viewport/viewportref01.with  -/
def t75B : AC := (.seq (.regN [0, 1] [
 ⟨some 2, none, .boxR 4 (.tmp 0), 0, false⟩,⟨some 4, none, .allocR [(.val (.int .u64 0)), (.val (.int .u64 0)), (.val (.int .u64 0)), (.val (.int .u64 0))], 0, false⟩])
 (.seq (.regN [1, 2, 4] [
 ⟨some 5, none, .mv (.tmp 1), 0, false⟩,⟨some 6, none, .bini .quo (.tmp 5) (.con (.val (.int .u8 64))), 0, false⟩,⟨some 7, none, .mv (.tmp 1), 0, false⟩,⟨some 8, none, .bini .quo (.tmp 7) (.con (.val (.int .u8 64))), 0, false⟩,⟨some 9, none, .ixR 4 1 (.tmp 2) (.tmp 8), 0, false⟩,⟨some 10, none, .ld1 (some 2) (.tmp 9), 0, false⟩,⟨some 11, none, .mv (.tmp 1), 0, false⟩,⟨some 12, none, .bini .rem (.tmp 11) (.con (.val (.int .u8 64))), 0, false⟩,⟨some 13, none, .cvi .u64 (.tmp 12), 0, false⟩,⟨some 14, none, .bini .shl (.con (.val (.int .u64 1))) (.tmp 13), 0, false⟩,⟨some 15, none, .bini .or (.tmp 10) (.tmp 14), 0, false⟩,⟨some 16, none, .ixR 4 1 (.tmp 2) (.tmp 6), 0, false⟩,⟨none, none, .st (some 2) 1 (.tmp 16) (.tmp 15), 0, false⟩])
 (.seq (.regN [2, 4] [
 ⟨some 17, none, .ldA (some 2) 4 (.tmp 2), 0, false⟩,⟨none, none, .st (some 4) 4 (.tmp 4) (.tmp 17), 0, false⟩])
 .ret)))
def t75 : AFn := ⟨2, t75B,
 [.cell 4 4 true], true⟩
/-- viewport/viewportref01.Union  -/
def t73B : AC := (.seq (.regN [0, 1] [
 ⟨some 2, none, .boxR 4 (.tmp 0), 0, false⟩,⟨some 3, none, .boxR 4 (.tmp 1), 0, false⟩,⟨some 4, none, .allocR [(.val (.int .u64 0)), (.val (.int .u64 0)), (.val (.int .u64 0)), (.val (.int .u64 0))], 0, false⟩])
 (.seq (.regN [2, 3, 4] [
 ⟨some 5, none, .ixR 4 1 (.tmp 2) (.con (.val (.int .i64 0))), 0, false⟩,⟨some 6, none, .ld1 (some 2) (.tmp 5), 0, false⟩,⟨some 7, none, .ixR 4 1 (.tmp 3) (.con (.val (.int .i64 0))), 0, false⟩,⟨some 8, none, .ld1 (some 3) (.tmp 7), 0, false⟩,⟨some 9, none, .bini .or (.tmp 6) (.tmp 8), 0, false⟩,⟨some 10, none, .ixR 4 1 (.tmp 2) (.con (.val (.int .i64 1))), 0, false⟩,⟨some 11, none, .ld1 (some 2) (.tmp 10), 0, false⟩,⟨some 12, none, .ixR 4 1 (.tmp 3) (.con (.val (.int .i64 1))), 0, false⟩,⟨some 13, none, .ld1 (some 3) (.tmp 12), 0, false⟩,⟨some 14, none, .bini .or (.tmp 11) (.tmp 13), 0, false⟩,⟨some 15, none, .ixR 4 1 (.tmp 2) (.con (.val (.int .i64 2))), 0, false⟩,⟨some 16, none, .ld1 (some 2) (.tmp 15), 0, false⟩,⟨some 17, none, .ixR 4 1 (.tmp 3) (.con (.val (.int .i64 2))), 0, false⟩,⟨some 18, none, .ld1 (some 3) (.tmp 17), 0, false⟩,⟨some 19, none, .bini .or (.tmp 16) (.tmp 18), 0, false⟩,⟨some 20, none, .ixR 4 1 (.tmp 2) (.con (.val (.int .i64 3))), 0, false⟩,⟨some 21, none, .ld1 (some 2) (.tmp 20), 0, false⟩,⟨some 22, none, .ixR 4 1 (.tmp 3) (.con (.val (.int .i64 3))), 0, false⟩,⟨some 23, none, .ld1 (some 3) (.tmp 22), 0, false⟩,⟨some 24, none, .bini .or (.tmp 21) (.tmp 23), 0, false⟩,⟨some 25, none, .build [(.val (.int .u64 0)), (.val (.int .u64 0)), (.val (.int .u64 0)), (.val (.int .u64 0))] [(0, 1, (.tmp 9)), (1, 1, (.tmp 14)), (2, 1, (.tmp 19)), (3, 1, (.tmp 24))], 0, false⟩,⟨none, none, .st (some 4) 4 (.tmp 4) (.tmp 25), 0, false⟩])
 .ret))
def t73 : AFn := ⟨2, t73B,
 [.cell 4 4 true], true⟩
/-- viewport/viewportref01.Not  -/
def t69B : AC := (.seq (.regN [0] [
 ⟨some 1, none, .boxR 4 (.tmp 0), 0, false⟩,⟨some 2, none, .allocR [(.val (.int .u64 0)), (.val (.int .u64 0)), (.val (.int .u64 0)), (.val (.int .u64 0))], 0, false⟩])
 (.seq (.regN [1, 2] [
 ⟨some 3, none, .ixR 4 1 (.tmp 1) (.con (.val (.int .i64 0))), 0, false⟩,⟨some 4, none, .ld1 (some 1) (.tmp 3), 0, false⟩,⟨some 5, none, .xori (.tmp 4), 0, false⟩,⟨some 6, none, .ixR 4 1 (.tmp 1) (.con (.val (.int .i64 1))), 0, false⟩,⟨some 7, none, .ld1 (some 1) (.tmp 6), 0, false⟩,⟨some 8, none, .xori (.tmp 7), 0, false⟩,⟨some 9, none, .ixR 4 1 (.tmp 1) (.con (.val (.int .i64 2))), 0, false⟩,⟨some 10, none, .ld1 (some 1) (.tmp 9), 0, false⟩,⟨some 11, none, .xori (.tmp 10), 0, false⟩,⟨some 12, none, .ixR 4 1 (.tmp 1) (.con (.val (.int .i64 3))), 0, false⟩,⟨some 13, none, .ld1 (some 1) (.tmp 12), 0, false⟩,⟨some 14, none, .xori (.tmp 13), 0, false⟩,⟨some 15, none, .build [(.val (.int .u64 0)), (.val (.int .u64 0)), (.val (.int .u64 0)), (.val (.int .u64 0))] [(0, 1, (.tmp 5)), (1, 1, (.tmp 8)), (2, 1, (.tmp 11)), (3, 1, (.tmp 14))], 0, false⟩,⟨none, none, .st (some 2) 4 (.tmp 2) (.tmp 15), 0, false⟩])
 .ret))
def t69 : AFn := ⟨1, t69B,
 [.cell 2 4 true], true⟩
/-- (*viewport/viewportref02.reader).put  -/
def t61B : AC := (.seq (.regN [0, 1, 2, 3] [
 ⟨some 6, none, .boxR 4 (.tmp 2), 0, false⟩,⟨some 8, none, .mv (.con (.val (.int .i64 0))), 0, false⟩])
 (.seq (.regD [0, 1, 3, 6] 1 [
 ⟨some 9, none, .mv (.tmp 0), 0, false⟩,⟨some 10, none, .mv (.tmp 0), 0, false⟩,⟨some 11, none, .nilc (.tmp 10), 0, false⟩,⟨some 12, none, .fldA 2 (.tmp 11), 0, false⟩,⟨some 13, none, .ld1 none (.tmp 12), 0, false⟩,⟨some 14, none, .mv (.tmp 1), 0, false⟩,⟨some 15, none, .ldA (some 6) 4 (.tmp 6), 0, false⟩,⟨some 16, none, .mv (.tmp 3), 0, false⟩,⟨some 17, none, .build [(.val (.int .i64 0)), (.val (.int .u64 0)), (.val (.int .u64 0)), (.val (.int .u64 0)), (.val (.int .u64 0)), .e0] [(0, 1, (.tmp 14)), (1, 4, (.tmp 15)), (5, 1, (.tmp 16))], 0, false⟩,⟨some 18, none, .buildH 1 6 [(.val (.int .i64 0)), (.val (.int .u64 0)), (.val (.int .u64 0)), (.val (.int .u64 0)), (.val (.int .u64 0)), .e0] [(0, 6, (.tmp 17))], 0, false⟩,⟨some 19, none, .app 6 64 (.tmp 13) (.tmp 18), 0, false⟩,⟨some 20, none, .nilc (.tmp 9), 0, false⟩,⟨some 21, none, .fldA 2 (.tmp 20), 0, false⟩,⟨none, none, .st none 1 (.tmp 21) (.tmp 19), 0, false⟩])
 (.seq (.regN [0] [
 ⟨some 22, none, .mv (.tmp 0), 0, false⟩,⟨some 23, none, .nilc (.tmp 22), 0, false⟩,⟨some 24, none, .fldA 2 (.tmp 23), 0, false⟩,⟨some 25, none, .ld1 none (.tmp 24), 0, false⟩,⟨some 26, none, .len false (.tmp 25), 0, false⟩,⟨some 27, none, .bini .sub (.tmp 26) (.con (.val (.int .i64 1))), 0, false⟩,⟨some 8, none, .mv (.tmp 27), 0, false⟩])
 .ret)))
def t61 : AFn := ⟨4, t61B,
 [.tmp 8], false⟩
/-- viewport/viewportref01.Of  -/
def t70L1 : AC := (.seq (.seq (.regN [0, 2, 3, 4] [
 ⟨some 6, none, .mv (.tmp 4), 0, false⟩,⟨some 7, none, .mv (.tmp 0), 0, false⟩,⟨some 8, none, .len true (.tmp 7), 0, false⟩,⟨some 9, none, .bini .lss (.tmp 6) (.tmp 8), 0, false⟩])
 (.cond (.tmp 9)
 .skip
 (.exit 0)))
 (.seq (.block 1
 (.regD [0, 2, 3, 4] 0 [
 ⟨some 12, none, .ldA (some 3) 4 (.tmp 3), 0, false⟩,⟨some 13, none, .mv (.tmp 0), 0, false⟩,⟨some 14, none, .mv (.tmp 4), 0, false⟩,⟨some 15, none, .ixS (.tmp 13) (.tmp 14), 0, false⟩,⟨some 16, none, .call 75 [(.tmp 12), (.tmp 15)], 0, true⟩,⟨none, none, .st (some 3) 4 (.tmp 3) (.tmp 16), 0, false⟩]))
 (.regN [0, 2, 3, 4] [
 ⟨some 10, none, .mv (.tmp 4), 0, false⟩,⟨some 11, none, .bini .add (.tmp 10) (.con (.val (.int .i64 1))), 0, false⟩,⟨some 4, none, .mv (.tmp 11), 0, false⟩])))
def t70B : AC := (.seq (.regN [0] [
 ⟨some 2, none, .allocR [(.val (.int .u64 0)), (.val (.int .u64 0)), (.val (.int .u64 0)), (.val (.int .u64 0))], 0, false⟩])
 (.seq (.regN [0, 2] [
 ⟨some 5, none, .build [(.val (.int .u64 0)), (.val (.int .u64 0)), (.val (.int .u64 0)), (.val (.int .u64 0))] [], 0, false⟩,⟨some 3, none, .allocR [(.val (.int .u64 0)), (.val (.int .u64 0)), (.val (.int .u64 0)), (.val (.int .u64 0))], 0, false⟩,⟨none, none, .st (some 3) 4 (.tmp 3) (.tmp 5), 0, false⟩])
 (.seq (.seq (.regN [0, 2, 3] [
 ⟨some 4, none, .mv (.con (.val (.int .i64 0))), 0, false⟩])
 (.block 0
 (.loop [0, 2, 3, 4] t70L1)))
 (.seq (.regN [2, 3] [
 ⟨some 17, none, .ldA (some 3) 4 (.tmp 3), 0, false⟩,⟨none, none, .st (some 2) 4 (.tmp 2) (.tmp 17), 0, false⟩])
 .ret))))
def t70 : AFn := ⟨1, t70B,
 [.cell 2 4 true], true⟩
/-- viewport/viewportref03.Build  -/
def t37L1 : AC := (.seq (.seq (.regN [0, 2, 4, 5] [
 ⟨some 19, none, .mv (.tmp 5), 0, false⟩,⟨some 20, none, .mv (.tmp 0), 0, false⟩,⟨some 21, none, .len false (.tmp 20), 0, false⟩,⟨some 22, none, .bini .lss (.tmp 19) (.tmp 21), 0, false⟩])
 (.cond (.tmp 22)
 .skip
 (.exit 0)))
 (.seq (.block 1
 (.seq (.regN [0, 2, 4, 5] [
 ⟨some 25, none, .mv (.tmp 0), 0, false⟩,⟨some 26, none, .mv (.tmp 5), 0, false⟩,⟨some 27, none, .ixA 1 (.tmp 25) (.tmp 26), 0, false⟩,⟨some 28, none, .ld1 none (.tmp 27), 0, false⟩,⟨some 29, none, .call 51 [(.tmp 28)], 0, false⟩,⟨some 6, none, .mv (.tmp 29), 0, false⟩])
 (.seq (.regN [0, 2, 4, 5, 6] [
 ⟨some 30, none, .mv (.tmp 6), 0, false⟩,⟨some 31, none, .bini .neq (.tmp 30) (.con (.val (.int .i64 0))), 0, false⟩])
 (.cond (.tmp 31)
 (.seq (.regN [2, 6] [
 ⟨some 32, none, .build [.e0, .e0, .e0] [], 0, false⟩,⟨some 33, none, .mv (.tmp 6), 0, false⟩,⟨none, none, .st (some 2) 3 (.tmp 2) (.tmp 32), 0, false⟩,⟨some 3, none, .mv (.tmp 33), 0, false⟩])
 .ret)
 .skip))))
 (.regN [0, 2, 4, 5] [
 ⟨some 23, none, .mv (.tmp 5), 0, false⟩,⟨some 24, none, .bini .add (.tmp 23) (.con (.val (.int .i64 1))), 0, false⟩,⟨some 5, none, .mv (.tmp 24), 0, false⟩])))
def t37L2 : AC := (.seq (.seq (.regN [0, 2, 4, 7, 8, 9] [
 ⟨some 61, none, .mv (.tmp 9), 0, false⟩,⟨some 62, none, .fldA 2 (.tmp 8), 0, false⟩,⟨some 63, none, .ld1 (some 8) (.tmp 62), 0, false⟩,⟨some 64, none, .len false (.tmp 63), 0, false⟩,⟨some 65, none, .bini .lss (.tmp 61) (.tmp 64), 0, false⟩])
 (.cond (.tmp 65)
 .skip
 (.exit 4)))
 (.seq (.block 5
 (.regD [0, 2, 4, 7, 8, 9] 0 [
 ⟨some 68, none, .fldA 2 (.tmp 4), 0, false⟩,⟨some 69, none, .ld1 none (.tmp 68), 0, false⟩,⟨some 70, none, .fldA 2 (.tmp 8), 0, false⟩,⟨some 71, none, .ld1 (some 8) (.tmp 70), 0, false⟩,⟨some 72, none, .mv (.tmp 9), 0, false⟩,⟨some 73, none, .ixA 1 (.tmp 71) (.tmp 72), 0, false⟩,⟨some 74, none, .ld1 none (.tmp 73), 0, false⟩,⟨some 75, none, .mv (.tmp 7), 0, false⟩,⟨some 76, none, .ixA 1 (.tmp 69) (.tmp 74), 0, false⟩,⟨none, none, .st none 1 (.tmp 76) (.tmp 75), 0, false⟩]))
 (.regN [0, 2, 4, 7, 8, 9] [
 ⟨some 66, none, .mv (.tmp 9), 0, false⟩,⟨some 67, none, .bini .add (.tmp 66) (.con (.val (.int .i64 1))), 0, false⟩,⟨some 9, none, .mv (.tmp 67), 0, false⟩])))
def t37L3 : AC := (.seq (.seq (.regN [0, 2, 4, 7] [
 ⟨some 34, none, .mv (.tmp 7), 0, false⟩,⟨some 35, none, .mv (.tmp 0), 0, false⟩,⟨some 36, none, .len false (.tmp 35), 0, false⟩,⟨some 37, none, .bini .lss (.tmp 34) (.tmp 36), 0, false⟩])
 (.cond (.tmp 37)
 .skip
 (.exit 2)))
 (.seq (.block 3
 (.seq (.regD [0, 2, 4, 7] 0 [
 ⟨some 40, none, .mv (.tmp 0), 0, false⟩,⟨some 41, none, .mv (.tmp 7), 0, false⟩,⟨some 42, none, .ixA 1 (.tmp 40) (.tmp 41), 0, false⟩,⟨some 43, none, .ld1 none (.tmp 42), 0, false⟩,⟨some 44, none, .mv (.tmp 0), 0, false⟩,⟨some 45, none, .mv (.tmp 7), 0, false⟩,⟨some 46, none, .ixA 1 (.tmp 44) (.tmp 45), 0, false⟩,⟨some 47, none, .ld1 none (.tmp 46), 0, false⟩,⟨some 48, none, .len false (.tmp 47), 0, false⟩,⟨some 49, none, .bini .sub (.tmp 48) (.con (.val (.int .i64 1))), 0, false⟩,⟨some 50, none, .call 52 [(.tmp 4), (.tmp 43), (.tmp 49)], 0, true⟩,⟨some 8, none, .allocR [(.val (.bool false)), .e0, .e0], 0, false⟩,⟨none, none, .st (some 8) 3 (.tmp 8) (.tmp 50), 0, false⟩])
 (.seq (.regD [0, 2, 4, 7, 8] 0 [
 ⟨some 51, none, .fldA 1 (.tmp 4), 0, false⟩,⟨some 52, none, .ld1 none (.tmp 51), 0, false⟩,⟨some 53, none, .fldA 1 (.tmp 4), 0, false⟩,⟨some 54, none, .ld1 none (.tmp 53), 0, false⟩,⟨some 55, none, .ixA 1 (.tmp 54) (.con (.val (.int .i64 0))), 0, false⟩,⟨some 56, none, .ld1 none (.tmp 55), 0, false⟩,⟨some 57, none, .fldA 1 (.tmp 8), 0, false⟩,⟨some 58, none, .ld1 (some 8) (.tmp 57), 0, false⟩,⟨some 59, none, .call 53 [(.tmp 56), (.tmp 58)], 0, false⟩,⟨some 60, none, .ixA 1 (.tmp 52) (.con (.val (.int .i64 0))), 0, false⟩,⟨none, none, .st none 1 (.tmp 60) (.tmp 59), 0, false⟩])
 (.seq (.seq (.regN [0, 2, 4, 7, 8] [
 ⟨some 9, none, .mv (.con (.val (.int .i64 0))), 0, false⟩])
 (.block 4
 (.loop [0, 2, 4, 7, 8, 9] t37L2)))
 (.seq (.regN [0, 2, 4, 7, 8] [
 ⟨some 77, none, .fldA 0 (.tmp 8), 0, false⟩,⟨some 78, none, .ld1 (some 8) (.tmp 77), 0, false⟩,⟨some 79, none, .mv (.tmp 78), 0, false⟩,⟨some 80, some (79, true), .fldA 2 (.tmp 4), 0, false⟩,⟨some 81, some (79, true), .ld1 none (.tmp 80), 0, false⟩,⟨some 82, some (79, true), .ixA 1 (.tmp 81) (.con (.val (.int .i64 0))), 0, false⟩,⟨some 83, some (79, true), .ld1 none (.tmp 82), 0, false⟩,⟨some 84, some (79, true), .bini .lss (.tmp 83) (.con (.val (.int .i64 0))), 0, false⟩,⟨some 85, none, .pick (.tmp 79) (.tmp 84) (.con (.val (.bool false))), 0, false⟩])
 (.cond (.tmp 85)
 (.regN [0, 2, 4, 7] [
 ⟨some 86, none, .fldA 2 (.tmp 4), 0, false⟩,⟨some 87, none, .ld1 none (.tmp 86), 0, false⟩,⟨some 88, none, .mv (.tmp 7), 0, false⟩,⟨some 89, none, .ixA 1 (.tmp 87) (.con (.val (.int .i64 0))), 0, false⟩,⟨none, none, .st none 1 (.tmp 89) (.tmp 88), 0, false⟩])
 .skip))))))
 (.regN [0, 2, 4, 7] [
 ⟨some 38, none, .mv (.tmp 7), 0, false⟩,⟨some 39, none, .bini .add (.tmp 38) (.con (.val (.int .i64 1))), 0, false⟩,⟨some 7, none, .mv (.tmp 39), 0, false⟩])))
def t37B : AC := (.seq (.regN [0] [
 ⟨some 2, none, .allocR [.e0, .e0, .e0], 0, false⟩,⟨some 3, none, .mv (.con (.val (.int .i64 0))), 0, false⟩])
 (.seq (.seq (.regN [0, 2] [
 ⟨some 10, none, .mv (.tmp 0), 0, false⟩,⟨some 11, none, .len false (.tmp 10), 0, false⟩,⟨some 12, none, .bini .gtr (.tmp 11) (.con (.val (.int .i64 16))), 0, false⟩])
 (.cond (.tmp 12)
 (.seq (.regN [2] [
 ⟨some 13, none, .build [.e0, .e0, .e0] [], 0, false⟩,⟨none, none, .st (some 2) 3 (.tmp 2) (.tmp 13), 0, false⟩,⟨some 3, none, .mv (.con (.val (.int .i64 3))), 0, false⟩])
 .ret)
 .skip))
 (.seq (.regN [0, 2] [
 ⟨some 14, none, .build [(.val (.int .u64 0)), (.val (.int .u64 0)), (.val (.int .u64 0)), (.val (.int .u64 0))] [], 0, false⟩,⟨some 15, none, .buildH 1 4 [(.val (.int .u64 0)), (.val (.int .u64 0)), (.val (.int .u64 0)), (.val (.int .u64 0))] [(0, 4, (.tmp 14))], 0, false⟩,⟨some 16, none, .buildH 1 1 [.e0] [(0, 1, (.con .e0))], 0, false⟩,⟨some 17, none, .buildH 1 1 [(.val (.int .i64 0))] [(0, 1, (.con (.val (.int .i64 (-1)))))], 0, false⟩,⟨some 18, none, .build [.e0, .e0, .e0] [(0, 1, (.tmp 15)), (1, 1, (.tmp 16)), (2, 1, (.tmp 17))], 0, false⟩,⟨some 4, none, .allocH [.e0, .e0, .e0], 0, false⟩,⟨none, none, .st none 3 (.tmp 4) (.tmp 18), 0, false⟩])
 (.seq (.seq (.regN [0, 2, 4] [
 ⟨some 5, none, .mv (.con (.val (.int .i64 0))), 0, false⟩])
 (.block 0
 (.loop [0, 2, 4, 5] t37L1)))
 (.seq (.seq (.regN [0, 2, 4] [
 ⟨some 7, none, .mv (.con (.val (.int .i64 0))), 0, false⟩])
 (.block 2
 (.loop [0, 2, 4, 7] t37L3)))
 (.seq (.seq (.regN [2, 4] [
 ⟨some 90, none, .fldA 0 (.tmp 4), 0, false⟩,⟨some 91, none, .ld1 none (.tmp 90), 0, false⟩,⟨some 92, none, .len false (.tmp 91), 0, false⟩,⟨some 93, none, .bini .gtr (.tmp 92) (.con (.val (.int .i64 1024))), 0, false⟩])
 (.cond (.tmp 93)
 (.seq (.regN [2] [
 ⟨some 94, none, .build [.e0, .e0, .e0] [], 0, false⟩,⟨none, none, .st (some 2) 3 (.tmp 2) (.tmp 94), 0, false⟩,⟨some 3, none, .mv (.con (.val (.int .i64 10))), 0, false⟩])
 .ret)
 .skip))
 (.seq (.regN [2, 4] [
 ⟨some 95, none, .ldA none 3 (.tmp 4), 0, false⟩,⟨none, none, .st (some 2) 3 (.tmp 2) (.tmp 95), 0, false⟩,⟨some 3, none, .mv (.con (.val (.int .i64 0))), 0, false⟩])
 .ret)))))))
def t37 : AFn := ⟨1, t37B,
 [.cell 2 3 true, .tmp 3], true⟩
/-- viewport/viewportref02.Check  -/
def t51L1 : AC := (.seq (.seq (.regN [0, 3, 4, 7] [
 ⟨some 75, none, .mv (.tmp 7), 0, false⟩,⟨some 76, none, .mv (.tmp 0), 0, false⟩,⟨some 77, none, .mv (.tmp 4), 0, false⟩,⟨some 78, none, .ixA 6 (.tmp 76) (.tmp 77), 0, false⟩,⟨some 79, none, .fldA 5 (.tmp 78), 0, false⟩,⟨some 80, none, .ld1 none (.tmp 79), 0, false⟩,⟨some 81, none, .len false (.tmp 80), 0, false⟩,⟨some 82, none, .bini .lss (.tmp 75) (.tmp 81), 0, false⟩])
 (.cond (.tmp 82)
 .skip
 (.exit 2)))
 (.seq (.block 3
 (.seq (.regN [0, 3, 4, 7] [
 ⟨some 85, none, .mv (.tmp 0), 0, false⟩,⟨some 86, none, .mv (.tmp 4), 0, false⟩,⟨some 87, none, .ixA 6 (.tmp 85) (.tmp 86), 0, false⟩,⟨some 88, none, .fldA 5 (.tmp 87), 0, false⟩,⟨some 89, none, .ld1 none (.tmp 88), 0, false⟩,⟨some 90, none, .mv (.tmp 7), 0, false⟩,⟨some 91, none, .ixA 1 (.tmp 89) (.tmp 90), 0, false⟩,⟨some 92, none, .ld1 none (.tmp 91), 0, false⟩,⟨some 8, none, .mv (.tmp 92), 0, false⟩])
 (.seq (.seq (.regN [0, 3, 4, 7, 8] [
 ⟨some 93, none, .mv (.tmp 8), 0, false⟩,⟨some 94, none, .bini .lss (.tmp 93) (.con (.val (.int .i64 0))), 0, false⟩,⟨some 95, none, .mv (.tmp 94), 0, false⟩,⟨some 96, some (95, false), .mv (.tmp 8), 0, false⟩,⟨some 97, some (95, false), .mv (.tmp 4), 0, false⟩,⟨some 98, some (95, false), .bini .geq (.tmp 96) (.tmp 97), 0, false⟩,⟨some 99, none, .pick (.tmp 95) (.con (.val (.bool true))) (.tmp 98), 0, false⟩])
 (.cond (.tmp 99)
 (.seq (.regN [] [
 ⟨some 2, none, .mv (.con (.val (.int .i64 2))), 0, false⟩])
 .ret)
 .skip))
 (.regN [0, 3, 4, 7, 8] [
 ⟨some 100, none, .mv (.tmp 3), 0, false⟩,⟨some 101, none, .mv (.tmp 8), 0, false⟩,⟨some 102, none, .ixA 1 (.tmp 100) (.tmp 101), 0, false⟩,⟨some 103, none, .ld1 none (.tmp 102), 0, false⟩,⟨some 104, none, .bini .add (.tmp 103) (.con (.val (.int .i64 1))), 0, false⟩,⟨some 105, none, .ixA 1 (.tmp 100) (.tmp 101), 0, false⟩,⟨none, none, .st none 1 (.tmp 105) (.tmp 104), 0, false⟩]))))
 (.regN [0, 3, 4, 7] [
 ⟨some 83, none, .mv (.tmp 7), 0, false⟩,⟨some 84, none, .bini .add (.tmp 83) (.con (.val (.int .i64 1))), 0, false⟩,⟨some 7, none, .mv (.tmp 84), 0, false⟩])))
def t51L2 : AC := (.seq (.seq (.regN [0, 3, 4] [
 ⟨some 21, none, .mv (.tmp 4), 0, false⟩,⟨some 22, none, .mv (.tmp 0), 0, false⟩,⟨some 23, none, .len false (.tmp 22), 0, false⟩,⟨some 24, none, .bini .lss (.tmp 21) (.tmp 23), 0, false⟩])
 (.cond (.tmp 24)
 .skip
 (.exit 0)))
 (.seq (.block 1
 (.seq (.regN [0, 3, 4] [
 ⟨some 28, none, .mv (.tmp 0), 0, false⟩,⟨some 29, none, .mv (.tmp 4), 0, false⟩,⟨some 30, none, .ixA 6 (.tmp 28) (.tmp 29), 0, false⟩,⟨some 31, none, .fldA 0 (.tmp 30), 0, false⟩,⟨some 32, none, .ld1 none (.tmp 31), 0, false⟩,⟨some 33, none, .call 62 [(.tmp 32)], 0, false⟩,⟨some 27, none, .mv (.tmp 33), 0, false⟩,⟨some 34, none, .ext (.tmp 27) 0, 0, false⟩,⟨some 35, none, .ext (.tmp 27) 1, 0, false⟩,⟨some 5, none, .mv (.tmp 34), 0, false⟩,⟨some 6, none, .mv (.tmp 35), 0, false⟩])
 (.seq (.seq (.regN [0, 3, 4, 5, 6] [
 ⟨some 36, none, .mv (.tmp 5), 0, false⟩,⟨some 37, none, .bini .lss (.tmp 36) (.con (.val (.int .i64 0))), 0, false⟩,⟨some 38, none, .mv (.tmp 37), 0, false⟩,⟨some 39, some (38, false), .mv (.tmp 0), 0, false⟩,⟨some 40, some (38, false), .mv (.tmp 4), 0, false⟩,⟨some 41, some (38, false), .ixA 6 (.tmp 39) (.tmp 40), 0, false⟩,⟨some 42, some (38, false), .fldA 5 (.tmp 41), 0, false⟩,⟨some 43, some (38, false), .ld1 none (.tmp 42), 0, false⟩,⟨some 44, some (38, false), .len false (.tmp 43), 0, false⟩,⟨some 45, some (38, false), .mv (.tmp 5), 0, false⟩,⟨some 46, some (38, false), .bini .lss (.tmp 44) (.tmp 45), 0, false⟩,⟨some 47, none, .pick (.tmp 38) (.con (.val (.bool true))) (.tmp 46), 0, false⟩,⟨some 48, none, .mv (.tmp 47), 0, false⟩,⟨some 49, some (48, false), .mv (.tmp 0), 0, false⟩,⟨some 50, some (48, false), .mv (.tmp 4), 0, false⟩,⟨some 51, some (48, false), .ixA 6 (.tmp 49) (.tmp 50), 0, false⟩,⟨some 52, some (48, false), .fldA 5 (.tmp 51), 0, false⟩,⟨some 53, some (48, false), .ld1 none (.tmp 52), 0, false⟩,⟨some 54, some (48, false), .len false (.tmp 53), 0, false⟩,⟨some 55, some (48, false), .mv (.tmp 6), 0, false⟩,⟨some 56, some (48, false), .bini .gtr (.tmp 54) (.tmp 55), 0, false⟩,⟨some 57, none, .pick (.tmp 48) (.con (.val (.bool true))) (.tmp 56), 0, false⟩,⟨some 58, none, .mv (.tmp 57), 0, false⟩,⟨some 59, some (58, false), .mv (.tmp 0), 0, false⟩,⟨some 60, some (58, false), .mv (.tmp 4), 0, false⟩,⟨some 61, some (58, false), .ixA 6 (.tmp 59) (.tmp 60), 0, false⟩,⟨some 62, some (58, false), .fldA 0 (.tmp 61), 0, false⟩,⟨some 63, some (58, false), .ld1 none (.tmp 62), 0, false⟩,⟨some 64, some (58, false), .bini .neq (.tmp 63) (.con (.val (.int .i64 2))), 0, false⟩,⟨some 65, some (58, false), .mv (.tmp 64), 0, false⟩,⟨some 66, some (65, true), .mv (.tmp 0), 0, false⟩,⟨some 67, some (65, true), .mv (.tmp 4), 0, false⟩,⟨some 68, some (65, true), .ixA 6 (.tmp 66) (.tmp 67), 0, false⟩,⟨some 69, some (65, true), .fldA 1 (.tmp 68), 0, false⟩,⟨some 70, some (65, true), .ldA none 4 (.tmp 69), 0, false⟩,⟨some 71, some (65, true), .build [(.val (.int .u64 0)), (.val (.int .u64 0)), (.val (.int .u64 0)), (.val (.int .u64 0))] [], 0, false⟩,⟨some 72, some (65, true), .eqa true [1, 1, 1, 1] (.tmp 70) (.tmp 71), 0, false⟩,⟨some 73, some (58, false), .pick (.tmp 65) (.tmp 72) (.con (.val (.bool false))), 0, false⟩,⟨some 74, none, .pick (.tmp 58) (.con (.val (.bool true))) (.tmp 73), 0, false⟩])
 (.cond (.tmp 74)
 (.seq (.regN [] [
 ⟨some 2, none, .mv (.con (.val (.int .i64 2))), 0, false⟩])
 .ret)
 .skip))
 (.seq (.regN [0, 3, 4] [
 ⟨some 7, none, .mv (.con (.val (.int .i64 0))), 0, false⟩])
 (.block 2
 (.loop [0, 3, 4, 7] t51L1))))))
 (.regN [0, 3, 4] [
 ⟨some 25, none, .mv (.tmp 4), 0, false⟩,⟨some 26, none, .bini .add (.tmp 25) (.con (.val (.int .i64 1))), 0, false⟩,⟨some 4, none, .mv (.tmp 26), 0, false⟩])))
def t51L3 : AC := (.seq (.seq (.regN [0, 3, 9] [
 ⟨some 106, none, .mv (.tmp 9), 0, false⟩,⟨some 107, none, .mv (.tmp 0), 0, false⟩,⟨some 108, none, .len false (.tmp 107), 0, false⟩,⟨some 109, none, .bini .lss (.tmp 106) (.tmp 108), 0, false⟩])
 (.cond (.tmp 109)
 .skip
 (.exit 4)))
 (.seq (.block 5
 (.seq (.regN [0, 3, 9] [
 ⟨some 112, none, .mv (.tmp 9), 0, false⟩,⟨some 113, none, .mv (.tmp 0), 0, false⟩,⟨some 114, none, .len false (.tmp 113), 0, false⟩,⟨some 115, none, .bini .sub (.tmp 114) (.con (.val (.int .i64 1))), 0, false⟩,⟨some 116, none, .bini .lss (.tmp 112) (.tmp 115), 0, false⟩,⟨some 117, none, .mv (.tmp 116), 0, false⟩,⟨some 118, some (117, true), .mv (.tmp 3), 0, false⟩,⟨some 119, some (117, true), .mv (.tmp 9), 0, false⟩,⟨some 120, some (117, true), .ixA 1 (.tmp 118) (.tmp 119), 0, false⟩,⟨some 121, some (117, true), .ld1 none (.tmp 120), 0, false⟩,⟨some 122, some (117, true), .bini .neq (.tmp 121) (.con (.val (.int .i64 1))), 0, false⟩,⟨some 123, none, .pick (.tmp 117) (.tmp 122) (.con (.val (.bool false))), 0, false⟩])
 (.cond (.tmp 123)
 (.seq (.regN [] [
 ⟨some 2, none, .mv (.con (.val (.int .i64 2))), 0, false⟩])
 .ret)
 .skip)))
 (.regN [0, 3, 9] [
 ⟨some 110, none, .mv (.tmp 9), 0, false⟩,⟨some 111, none, .bini .add (.tmp 110) (.con (.val (.int .i64 1))), 0, false⟩,⟨some 9, none, .mv (.tmp 111), 0, false⟩])))
def t51B : AC := (.seq (.regN [0] [
 ⟨some 2, none, .mv (.con (.val (.int .i64 0))), 0, false⟩])
 (.seq (.seq (.regN [0] [
 ⟨some 10, none, .mv (.tmp 0), 0, false⟩,⟨some 11, none, .len false (.tmp 10), 0, false⟩,⟨some 12, none, .bini .lss (.tmp 11) (.con (.val (.int .i64 1))), 0, false⟩,⟨some 13, none, .mv (.tmp 12), 0, false⟩,⟨some 14, some (13, false), .mv (.tmp 0), 0, false⟩,⟨some 15, some (13, false), .len false (.tmp 14), 0, false⟩,⟨some 16, some (13, false), .bini .gtr (.tmp 15) (.con (.val (.int .i64 512))), 0, false⟩,⟨some 17, none, .pick (.tmp 13) (.con (.val (.bool true))) (.tmp 16), 0, false⟩])
 (.cond (.tmp 17)
 (.seq (.regN [] [
 ⟨some 2, none, .mv (.con (.val (.int .i64 2))), 0, false⟩])
 .ret)
 .skip))
 (.seq (.regN [0] [
 ⟨some 18, none, .mv (.tmp 0), 0, false⟩,⟨some 19, none, .len false (.tmp 18), 0, false⟩,⟨some 20, none, .mks 1 8 [(.val (.int .i64 0))] (.tmp 19), 0, false⟩,⟨some 3, none, .mv (.tmp 20), 0, false⟩])
 (.seq (.seq (.regN [0, 3] [
 ⟨some 4, none, .mv (.con (.val (.int .i64 0))), 0, false⟩])
 (.block 0
 (.loop [0, 3, 4] t51L2)))
 (.seq (.seq (.regN [0, 3] [
 ⟨some 9, none, .mv (.con (.val (.int .i64 0))), 0, false⟩])
 (.block 4
 (.loop [0, 3, 9] t51L3)))
 (.seq (.regN [] [
 ⟨some 2, none, .mv (.con (.val (.int .i64 0))), 0, false⟩])
 .ret))))))
def t51 : AFn := ⟨1, t51B,
 [.tmp 2], true⟩
/-- viewport/viewportref02.parts  -/
def t62B : AC := (.seq (.regN [0] [
 ⟨some 2, none, .mv (.con (.val (.int .i64 0))), 0, false⟩,⟨some 3, none, .mv (.con (.val (.int .i64 0))), 0, false⟩])
 (.seq (.seq (.regN [0] [
 ⟨some 4, none, .mv (.tmp 0), 0, false⟩])
 (.block 0
 (.seq (.seq (.regN [4] [
 ⟨some 6, none, .bini .eql (.tmp 4) (.con (.val (.int .i64 1))), 0, false⟩,⟨some 5, none, .mv (.tmp 6), 0, false⟩])
 (.cond (.tmp 5)
 .skip
 (.regN [4] [
 ⟨some 7, none, .bini .eql (.tmp 4) (.con (.val (.int .i64 2))), 0, false⟩,⟨some 5, none, .mv (.tmp 7), 0, false⟩])))
 (.cond (.tmp 5)
 (.seq (.regN [] [
 ⟨some 2, none, .mv (.con (.val (.int .i64 0))), 0, false⟩,⟨some 3, none, .mv (.con (.val (.int .i64 0))), 0, false⟩])
 .ret)
 (.seq (.seq (.regN [4] [
 ⟨some 9, none, .bini .eql (.tmp 4) (.con (.val (.int .i64 3))), 0, false⟩,⟨some 8, none, .mv (.tmp 9), 0, false⟩])
 (.cond (.tmp 8)
 .skip
 (.regN [4] [
 ⟨some 10, none, .bini .eql (.tmp 4) (.con (.val (.int .i64 4))), 0, false⟩,⟨some 8, none, .mv (.tmp 10), 0, false⟩])))
 (.cond (.tmp 8)
 (.seq (.regN [] [
 ⟨some 2, none, .mv (.con (.val (.int .i64 2))), 0, false⟩,⟨some 3, none, .mv (.con (.val (.int .i64 512))), 0, false⟩])
 .ret)
 (.seq (.seq (.regN [4] [
 ⟨some 12, none, .bini .eql (.tmp 4) (.con (.val (.int .i64 5))), 0, false⟩,⟨some 11, none, .mv (.tmp 12), 0, false⟩])
 (.cond (.tmp 11)
 .skip
 (.seq (.regN [4] [
 ⟨some 13, none, .bini .eql (.tmp 4) (.con (.val (.int .i64 6))), 0, false⟩,⟨some 11, none, .mv (.tmp 13), 0, false⟩])
 (.cond (.tmp 11)
 .skip
 (.regN [4] [
 ⟨some 14, none, .bini .eql (.tmp 4) (.con (.val (.int .i64 7))), 0, false⟩,⟨some 11, none, .mv (.tmp 14), 0, false⟩])))))
 (.cond (.tmp 11)
 (.seq (.regN [] [
 ⟨some 2, none, .mv (.con (.val (.int .i64 1))), 0, false⟩,⟨some 3, none, .mv (.con (.val (.int .i64 1))), 0, false⟩])
 .ret)
 .skip))))))))
 (.seq (.regN [] [
 ⟨some 2, none, .mv (.con (.val (.int .i64 (-1)))), 0, false⟩,⟨some 3, none, .mv (.con (.val (.int .i64 (-1)))), 0, false⟩])
 .ret)))
def t62 : AFn := ⟨1, t62B,
 [.tmp 2, .tmp 3], true⟩
/-- viewport/viewportref03.node  -/
def t52L1 : AC := (.seq (.seq (.regN [0, 1, 6, 7, 9, 10] [
 ⟨some 75, none, .mv (.tmp 10), 0, false⟩,⟨some 76, none, .fldA 5 (.tmp 7), 0, false⟩,⟨some 77, none, .ld1 (some 7) (.tmp 76), 0, false⟩,⟨some 78, none, .len false (.tmp 77), 0, false⟩,⟨some 79, none, .bini .lss (.tmp 75) (.tmp 78), 0, false⟩])
 (.cond (.tmp 79)
 .skip
 (.exit 1)))
 (.seq (.block 2
 (.seq (.regN [0, 1, 6, 7, 9, 10] [
 ⟨some 82, none, .mv (.tmp 0), 0, false⟩,⟨some 83, none, .mv (.tmp 1), 0, false⟩,⟨some 84, none, .fldA 5 (.tmp 7), 0, false⟩,⟨some 85, none, .ld1 (some 7) (.tmp 84), 0, false⟩,⟨some 86, none, .mv (.tmp 10), 0, false⟩,⟨some 87, none, .ixA 1 (.tmp 85) (.tmp 86), 0, false⟩,⟨some 88, none, .ld1 none (.tmp 87), 0, false⟩,⟨some 89, none, .call 52 [(.tmp 82), (.tmp 83), (.tmp 88)], 0, false⟩,⟨some 11, none, .allocR [(.val (.bool false)), .e0, .e0], 0, false⟩,⟨none, none, .st (some 11) 3 (.tmp 11) (.tmp 89), 0, false⟩])
 (.seq (.regN [0, 1, 6, 7, 9, 10, 11] [
 ⟨some 90, none, .mv (.tmp 0), 0, false⟩,⟨some 91, none, .fldA 2 (.tmp 9), 0, false⟩,⟨some 92, none, .ld1 (some 9) (.tmp 91), 0, false⟩,⟨some 93, none, .fldA 1 (.tmp 11), 0, false⟩,⟨some 94, none, .ld1 (some 11) (.tmp 93), 0, false⟩,⟨some 95, none, .call 63 [(.tmp 90), (.tmp 92), (.tmp 94)], 0, false⟩])
 (.seq (.seq (.regN [0, 1, 6, 7, 9, 10, 11] [
 ⟨some 96, none, .fldA 0 (.tmp 9), 0, false⟩,⟨some 97, none, .ld1 (some 9) (.tmp 96), 0, false⟩])
 (.cond (.tmp 97)
 (.regN [0, 1, 6, 7, 9, 10, 11] [
 ⟨some 98, none, .fldA 1 (.tmp 9), 0, false⟩,⟨some 99, none, .ld1 (some 9) (.tmp 98), 0, false⟩,⟨some 100, none, .fldA 1 (.tmp 11), 0, false⟩,⟨some 101, none, .ld1 (some 11) (.tmp 100), 0, false⟩,⟨some 102, none, .call 53 [(.tmp 99), (.tmp 101)], 0, false⟩,⟨some 103, none, .fldA 1 (.tmp 9), 0, false⟩,⟨none, none, .st (some 9) 1 (.tmp 103) (.tmp 102), 0, false⟩])
 .skip))
 (.seq (.seq (.regN [0, 1, 6, 7, 9, 10, 11] [
 ⟨some 104, none, .fldA 0 (.tmp 11), 0, false⟩,⟨some 105, none, .ld1 (some 11) (.tmp 104), 0, false⟩])
 (.cond (.tmp 105)
 (.regN [0, 1, 6, 7, 9, 10, 11] [
 ⟨some 106, none, .fldA 2 (.tmp 9), 0, false⟩,⟨some 107, none, .ld1 (some 9) (.tmp 106), 0, false⟩,⟨some 108, none, .fldA 2 (.tmp 11), 0, false⟩,⟨some 109, none, .ld1 (some 11) (.tmp 108), 0, false⟩,⟨some 110, none, .call 53 [(.tmp 107), (.tmp 109)], 0, false⟩,⟨some 111, none, .fldA 2 (.tmp 11), 0, false⟩,⟨none, none, .st (some 11) 1 (.tmp 111) (.tmp 110), 0, false⟩])
 .skip))
 (.regN [0, 1, 6, 7, 9, 10, 11] [
 ⟨some 112, none, .fldA 0 (.tmp 9), 0, false⟩,⟨some 113, none, .ld1 (some 9) (.tmp 112), 0, false⟩,⟨some 114, none, .mv (.tmp 113), 0, false⟩,⟨some 115, some (114, true), .fldA 0 (.tmp 11), 0, false⟩,⟨some 116, some (114, true), .ld1 (some 11) (.tmp 115), 0, false⟩,⟨some 117, none, .pick (.tmp 114) (.tmp 116) (.con (.val (.bool false))), 0, false⟩,⟨some 118, none, .fldA 1 (.tmp 9), 0, false⟩,⟨some 119, none, .ld1 (some 9) (.tmp 118), 0, false⟩,⟨some 120, none, .fldA 2 (.tmp 11), 0, false⟩,⟨some 121, none, .ld1 (some 11) (.tmp 120), 0, false⟩,⟨some 122, none, .build [(.val (.bool false)), .e0, .e0] [(0, 1, (.tmp 117)), (1, 1, (.tmp 119)), (2, 1, (.tmp 121))], 0, false⟩,⟨none, none, .st (some 9) 3 (.tmp 9) (.tmp 122), 0, false⟩]))))))
 (.regN [0, 1, 6, 7, 9, 10] [
 ⟨some 80, none, .mv (.tmp 10), 0, false⟩,⟨some 81, none, .bini .add (.tmp 80) (.con (.val (.int .i64 1))), 0, false⟩,⟨some 10, none, .mv (.tmp 81), 0, false⟩])))
def t52L2 : AC := (.seq (.seq (.regN [0, 1, 6, 7, 12, 13] [
 ⟨some 127, none, .mv (.tmp 13), 0, false⟩,⟨some 128, none, .fldA 5 (.tmp 7), 0, false⟩,⟨some 129, none, .ld1 (some 7) (.tmp 128), 0, false⟩,⟨some 130, none, .len false (.tmp 129), 0, false⟩,⟨some 131, none, .bini .lss (.tmp 127) (.tmp 130), 0, false⟩])
 (.cond (.tmp 131)
 .skip
 (.exit 3)))
 (.seq (.block 4
 (.seq (.regN [0, 1, 6, 7, 12, 13] [
 ⟨some 134, none, .mv (.tmp 0), 0, false⟩,⟨some 135, none, .mv (.tmp 1), 0, false⟩,⟨some 136, none, .fldA 5 (.tmp 7), 0, false⟩,⟨some 137, none, .ld1 (some 7) (.tmp 136), 0, false⟩,⟨some 138, none, .mv (.tmp 13), 0, false⟩,⟨some 139, none, .ixA 1 (.tmp 137) (.tmp 138), 0, false⟩,⟨some 140, none, .ld1 none (.tmp 139), 0, false⟩,⟨some 141, none, .call 52 [(.tmp 134), (.tmp 135), (.tmp 140)], 0, false⟩,⟨some 14, none, .allocR [(.val (.bool false)), .e0, .e0], 0, false⟩,⟨none, none, .st (some 14) 3 (.tmp 14) (.tmp 141), 0, false⟩])
 (.regD [0, 1, 6, 7, 12, 13, 14] 0 [
 ⟨some 142, none, .fldA 0 (.tmp 12), 0, false⟩,⟨some 143, none, .ld1 (some 12) (.tmp 142), 0, false⟩,⟨some 144, none, .mv (.tmp 143), 0, false⟩,⟨some 145, some (144, false), .fldA 0 (.tmp 14), 0, false⟩,⟨some 146, some (144, false), .ld1 (some 14) (.tmp 145), 0, false⟩,⟨some 147, none, .pick (.tmp 144) (.con (.val (.bool true))) (.tmp 146), 0, false⟩,⟨some 148, none, .fldA 1 (.tmp 12), 0, false⟩,⟨some 149, none, .ld1 (some 12) (.tmp 148), 0, false⟩,⟨some 150, none, .fldA 1 (.tmp 14), 0, false⟩,⟨some 151, none, .ld1 (some 14) (.tmp 150), 0, false⟩,⟨some 152, none, .call 53 [(.tmp 149), (.tmp 151)], 0, true⟩,⟨some 153, none, .fldA 2 (.tmp 12), 0, false⟩,⟨some 154, none, .ld1 (some 12) (.tmp 153), 0, false⟩,⟨some 155, none, .fldA 2 (.tmp 14), 0, false⟩,⟨some 156, none, .ld1 (some 14) (.tmp 155), 0, false⟩,⟨some 157, none, .call 53 [(.tmp 154), (.tmp 156)], 0, true⟩,⟨some 158, none, .build [(.val (.bool false)), .e0, .e0] [(0, 1, (.tmp 147)), (1, 1, (.tmp 152)), (2, 1, (.tmp 157))], 0, false⟩,⟨none, none, .st (some 12) 3 (.tmp 12) (.tmp 158), 0, false⟩])))
 (.regN [0, 1, 6, 7, 12, 13] [
 ⟨some 132, none, .mv (.tmp 13), 0, false⟩,⟨some 133, none, .bini .add (.tmp 132) (.con (.val (.int .i64 1))), 0, false⟩,⟨some 13, none, .mv (.tmp 133), 0, false⟩])))
def t52B : AC := (.seq (.regN [0, 1, 2] [
 ⟨some 6, none, .allocR [(.val (.bool false)), .e0, .e0], 0, false⟩])
 (.seq (.regN [0, 1, 2, 6] [
 ⟨some 16, none, .mv (.tmp 1), 0, false⟩,⟨some 17, none, .mv (.tmp 2), 0, false⟩,⟨some 18, none, .ixA 6 (.tmp 16) (.tmp 17), 0, false⟩,⟨some 19, none, .ldA none 6 (.tmp 18), 0, false⟩,⟨some 7, none, .allocR [(.val (.int .i64 0)), (.val (.int .u64 0)), (.val (.int .u64 0)), (.val (.int .u64 0)), (.val (.int .u64 0)), .e0], 0, false⟩,⟨none, none, .st (some 7) 6 (.tmp 7) (.tmp 19), 0, false⟩])
 (.seq (.seq (.regN [0, 1, 6, 7] [
 ⟨some 20, none, .fldA 0 (.tmp 7), 0, false⟩,⟨some 21, none, .ld1 (some 7) (.tmp 20), 0, false⟩])
 (.block 0
 (.seq (.regN [0, 1, 6, 7, 21] [
 ⟨some 23, none, .bini .eql (.tmp 21) (.con (.val (.int .i64 1))), 0, false⟩,⟨some 22, none, .mv (.tmp 23), 0, false⟩])
 (.cond (.tmp 22)
 (.seq (.regN [6] [
 ⟨some 24, none, .build [(.val (.bool false)), .e0, .e0] [(0, 1, (.con (.val (.bool true))))], 0, false⟩,⟨none, none, .st (some 6) 3 (.tmp 6) (.tmp 24), 0, false⟩])
 .ret)
 (.seq (.regN [0, 1, 6, 7, 21] [
 ⟨some 26, none, .bini .eql (.tmp 21) (.con (.val (.int .i64 2))), 0, false⟩,⟨some 25, none, .mv (.tmp 26), 0, false⟩])
 (.cond (.tmp 25)
 (.seq (.regN [0, 6, 7] [
 ⟨some 27, none, .mv (.tmp 0), 0, false⟩,⟨some 28, none, .nilc (.tmp 27), 0, false⟩,⟨some 29, none, .fldA 0 (.tmp 28), 0, false⟩,⟨some 30, none, .ld1 none (.tmp 29), 0, false⟩,⟨some 31, none, .len false (.tmp 30), 0, false⟩,⟨some 8, none, .mv (.tmp 31), 0, false⟩])
 (.seq (.regD [0, 6, 7, 8] 0 [
 ⟨some 32, none, .mv (.tmp 0), 0, false⟩,⟨some 33, none, .mv (.tmp 0), 0, false⟩,⟨some 34, none, .mv (.tmp 0), 0, false⟩,⟨some 35, none, .mv (.tmp 0), 0, false⟩,⟨some 36, none, .nilc (.tmp 35), 0, false⟩,⟨some 37, none, .fldA 0 (.tmp 36), 0, false⟩,⟨some 38, none, .ld1 none (.tmp 37), 0, false⟩,⟨some 39, none, .fldA 1 (.tmp 7), 0, false⟩,⟨some 40, none, .ldA (some 7) 4 (.tmp 39), 0, false⟩,⟨some 41, none, .buildS 1 [(.val (.int .u64 0)), (.val (.int .u64 0)), (.val (.int .u64 0)), (.val (.int .u64 0))] [(0, 4, (.tmp 40))], 0, false⟩,⟨some 42, none, .app 4 32 (.tmp 38) (.tmp 41), 0, true⟩,⟨some 43, none, .mv (.tmp 0), 0, false⟩,⟨some 44, none, .nilc (.tmp 43), 0, false⟩,⟨some 45, none, .fldA 1 (.tmp 44), 0, false⟩,⟨some 46, none, .ld1 none (.tmp 45), 0, false⟩,⟨some 47, none, .buildS 1 [.e0] [(0, 1, (.con .e0))], 0, false⟩,⟨some 48, none, .app 1 24 (.tmp 46) (.tmp 47), 0, true⟩,⟨some 49, none, .mv (.tmp 0), 0, false⟩,⟨some 50, none, .nilc (.tmp 49), 0, false⟩,⟨some 51, none, .fldA 2 (.tmp 50), 0, false⟩,⟨some 52, none, .ld1 none (.tmp 51), 0, false⟩,⟨some 53, none, .buildS 1 [(.val (.int .i64 0))] [(0, 1, (.con (.val (.int .i64 (-1)))))], 0, false⟩,⟨some 54, none, .app 1 8 (.tmp 52) (.tmp 53), 0, false⟩,⟨some 55, none, .nilc (.tmp 32), 0, false⟩,⟨some 56, none, .fldA 0 (.tmp 55), 0, false⟩,⟨none, none, .st none 1 (.tmp 56) (.tmp 42), 0, false⟩,⟨some 57, none, .nilc (.tmp 33), 0, false⟩,⟨some 58, none, .fldA 1 (.tmp 57), 0, false⟩,⟨none, none, .st none 1 (.tmp 58) (.tmp 48), 0, false⟩,⟨some 59, none, .nilc (.tmp 34), 0, false⟩,⟨some 60, none, .fldA 2 (.tmp 59), 0, false⟩,⟨none, none, .st none 1 (.tmp 60) (.tmp 54), 0, false⟩])
 (.seq (.regN [6, 8] [
 ⟨some 61, none, .mv (.tmp 8), 0, false⟩,⟨some 62, none, .buildS 1 [(.val (.int .i64 0))] [(0, 1, (.tmp 61))], 0, false⟩,⟨some 63, none, .mv (.tmp 8), 0, false⟩,⟨some 64, none, .buildS 1 [(.val (.int .i64 0))] [(0, 1, (.tmp 63))], 0, false⟩,⟨some 65, none, .build [(.val (.bool false)), .e0, .e0] [(1, 1, (.tmp 62)), (2, 1, (.tmp 64))], 0, false⟩,⟨none, none, .st (some 6) 3 (.tmp 6) (.tmp 65), 0, false⟩])
 .ret)))
 (.seq (.regN [0, 1, 6, 7, 21] [
 ⟨some 67, none, .bini .eql (.tmp 21) (.con (.val (.int .i64 3))), 0, false⟩,⟨some 66, none, .mv (.tmp 67), 0, false⟩])
 (.cond (.tmp 66)
 (.seq (.regN [0, 1, 6, 7] [
 ⟨some 68, none, .mv (.tmp 0), 0, false⟩,⟨some 69, none, .mv (.tmp 1), 0, false⟩,⟨some 70, none, .fldA 5 (.tmp 7), 0, false⟩,⟨some 71, none, .ld1 (some 7) (.tmp 70), 0, false⟩,⟨some 72, none, .ixA 1 (.tmp 71) (.con (.val (.int .i64 0))), 0, false⟩,⟨some 73, none, .ld1 none (.tmp 72), 0, false⟩,⟨some 74, none, .call 52 [(.tmp 68), (.tmp 69), (.tmp 73)], 0, false⟩,⟨some 9, none, .allocR [(.val (.bool false)), .e0, .e0], 0, false⟩,⟨none, none, .st (some 9) 3 (.tmp 9) (.tmp 74), 0, false⟩])
 (.seq (.seq (.regN [0, 1, 6, 7, 9] [
 ⟨some 10, none, .mv (.con (.val (.int .i64 1))), 0, false⟩])
 (.block 1
 (.loop [0, 1, 6, 7, 9, 10] t52L1)))
 (.seq (.regN [6, 9] [
 ⟨some 123, none, .ldA (some 9) 3 (.tmp 9), 0, false⟩,⟨none, none, .st (some 6) 3 (.tmp 6) (.tmp 123), 0, false⟩])
 .ret)))
 (.seq (.regN [0, 1, 6, 7, 21] [
 ⟨some 125, none, .bini .eql (.tmp 21) (.con (.val (.int .i64 4))), 0, false⟩,⟨some 124, none, .mv (.tmp 125), 0, false⟩])
 (.cond (.tmp 124)
 (.seq (.regN [0, 1, 6, 7] [
 ⟨some 126, none, .build [(.val (.bool false)), .e0, .e0] [], 0, false⟩,⟨some 12, none, .allocR [(.val (.bool false)), .e0, .e0], 0, false⟩,⟨none, none, .st (some 12) 3 (.tmp 12) (.tmp 126), 0, false⟩])
 (.seq (.seq (.regN [0, 1, 6, 7, 12] [
 ⟨some 13, none, .mv (.con (.val (.int .i64 0))), 0, false⟩])
 (.block 3
 (.loop [0, 1, 6, 7, 12, 13] t52L2)))
 (.seq (.regN [6, 12] [
 ⟨some 159, none, .ldA (some 12) 3 (.tmp 12), 0, false⟩,⟨none, none, .st (some 6) 3 (.tmp 6) (.tmp 159), 0, false⟩])
 .ret)))
 .skip))))))))))
 (.seq (.regN [0, 1, 6, 7] [
 ⟨some 160, none, .mv (.tmp 0), 0, false⟩,⟨some 161, none, .mv (.tmp 1), 0, false⟩,⟨some 162, none, .fldA 5 (.tmp 7), 0, false⟩,⟨some 163, none, .ld1 (some 7) (.tmp 162), 0, false⟩,⟨some 164, none, .ixA 1 (.tmp 163) (.con (.val (.int .i64 0))), 0, false⟩,⟨some 165, none, .ld1 none (.tmp 164), 0, false⟩,⟨some 166, none, .call 52 [(.tmp 160), (.tmp 161), (.tmp 165)], 0, false⟩,⟨some 15, none, .allocR [(.val (.bool false)), .e0, .e0], 0, false⟩,⟨none, none, .st (some 15) 3 (.tmp 15) (.tmp 166), 0, false⟩])
 (.seq (.seq (.regN [0, 6, 7, 15] [
 ⟨some 167, none, .fldA 0 (.tmp 7), 0, false⟩,⟨some 168, none, .ld1 (some 7) (.tmp 167), 0, false⟩,⟨some 169, none, .bini .neq (.tmp 168) (.con (.val (.int .i64 7))), 0, false⟩])
 (.cond (.tmp 169)
 (.regN [0, 6, 7, 15] [
 ⟨some 170, none, .mv (.tmp 0), 0, false⟩,⟨some 171, none, .fldA 2 (.tmp 15), 0, false⟩,⟨some 172, none, .ld1 (some 15) (.tmp 171), 0, false⟩,⟨some 173, none, .fldA 1 (.tmp 15), 0, false⟩,⟨some 174, none, .ld1 (some 15) (.tmp 173), 0, false⟩,⟨some 175, none, .call 63 [(.tmp 170), (.tmp 172), (.tmp 174)], 0, false⟩])
 .skip))
 (.seq (.seq (.regN [6, 7, 15] [
 ⟨some 176, none, .fldA 0 (.tmp 7), 0, false⟩,⟨some 177, none, .ld1 (some 7) (.tmp 176), 0, false⟩,⟨some 178, none, .bini .neq (.tmp 177) (.con (.val (.int .i64 6))), 0, false⟩])
 (.cond (.tmp 178)
 (.regN [6, 15] [
 ⟨some 179, none, .fldA 0 (.tmp 15), 0, false⟩,⟨none, none, .st (some 15) 1 (.tmp 179) (.con (.val (.bool true))), 0, false⟩])
 .skip))
 (.seq (.regN [6, 15] [
 ⟨some 180, none, .ldA (some 15) 3 (.tmp 15), 0, false⟩,⟨none, none, .st (some 6) 3 (.tmp 6) (.tmp 180), 0, false⟩])
 .ret)))))))
def t52 : AFn := ⟨3, t52B,
 [.cell 6 3 true], false⟩
/-- viewport/viewportref03.join  -/
def t63L1 : AC := (.seq (.seq (.regN [0, 1, 2, 6] [
 ⟨some 7, none, .mv (.tmp 6), 0, false⟩,⟨some 8, none, .mv (.tmp 1), 0, false⟩,⟨some 9, none, .len false (.tmp 8), 0, false⟩,⟨some 10, none, .bini .lss (.tmp 7) (.tmp 9), 0, false⟩])
 (.cond (.tmp 10)
 .skip
 (.exit 0)))
 (.seq (.block 1
 (.regD [0, 1, 2, 6] 0 [
 ⟨some 13, none, .mv (.tmp 0), 0, false⟩,⟨some 14, none, .nilc (.tmp 13), 0, false⟩,⟨some 15, none, .fldA 1 (.tmp 14), 0, false⟩,⟨some 16, none, .ld1 none (.tmp 15), 0, false⟩,⟨some 17, none, .mv (.tmp 1), 0, false⟩,⟨some 18, none, .mv (.tmp 6), 0, false⟩,⟨some 19, none, .ixA 1 (.tmp 17) (.tmp 18), 0, false⟩,⟨some 20, none, .ld1 none (.tmp 19), 0, false⟩,⟨some 21, none, .mv (.tmp 0), 0, false⟩,⟨some 22, none, .nilc (.tmp 21), 0, false⟩,⟨some 23, none, .fldA 1 (.tmp 22), 0, false⟩,⟨some 24, none, .ld1 none (.tmp 23), 0, false⟩,⟨some 25, none, .mv (.tmp 1), 0, false⟩,⟨some 26, none, .mv (.tmp 6), 0, false⟩,⟨some 27, none, .ixA 1 (.tmp 25) (.tmp 26), 0, false⟩,⟨some 28, none, .ld1 none (.tmp 27), 0, false⟩,⟨some 29, none, .ixA 1 (.tmp 24) (.tmp 28), 0, false⟩,⟨some 30, none, .ld1 none (.tmp 29), 0, false⟩,⟨some 31, none, .mv (.tmp 2), 0, false⟩,⟨some 32, none, .call 53 [(.tmp 30), (.tmp 31)], 0, false⟩,⟨some 33, none, .ixA 1 (.tmp 16) (.tmp 20), 0, false⟩,⟨none, none, .st none 1 (.tmp 33) (.tmp 32), 0, false⟩]))
 (.regN [0, 1, 2, 6] [
 ⟨some 11, none, .mv (.tmp 6), 0, false⟩,⟨some 12, none, .bini .add (.tmp 11) (.con (.val (.int .i64 1))), 0, false⟩,⟨some 6, none, .mv (.tmp 12), 0, false⟩])))
def t63B : AC := (.seq (.regN [0, 1, 2] [
 ⟨some 6, none, .mv (.con (.val (.int .i64 0))), 0, false⟩])
 (.block 0
 (.loop [0, 1, 2, 6] t63L1)))
def t63 : AFn := ⟨3, t63B,
 [], false⟩
/-- viewport/viewportref03.union  -/
def t53L1 : AC := (.seq (.seq (.regN [1, 5, 6] [
 ⟨some 12, none, .mv (.tmp 6), 0, false⟩,⟨some 13, none, .mv (.tmp 1), 0, false⟩,⟨some 14, none, .len false (.tmp 13), 0, false⟩,⟨some 15, none, .bini .lss (.tmp 12) (.tmp 14), 0, false⟩])
 (.cond (.tmp 15)
 .skip
 (.exit 0)))
 (.seq (.block 1
 (.seq (.regN [1, 5, 6] [
 ⟨some 18, none, .mv (.tmp 5), 0, false⟩,⟨some 19, none, .mv (.tmp 1), 0, false⟩,⟨some 20, none, .mv (.tmp 6), 0, false⟩,⟨some 21, none, .ixA 1 (.tmp 19) (.tmp 20), 0, false⟩,⟨some 22, none, .ld1 none (.tmp 21), 0, false⟩,⟨some 23, none, .call 64 [(.tmp 18), (.tmp 22)], 0, false⟩,⟨some 24, none, .not (.tmp 23), 0, false⟩])
 (.cond (.tmp 24)
 (.regN [1, 5, 6] [
 ⟨some 25, none, .mv (.tmp 5), 0, false⟩,⟨some 26, none, .mv (.tmp 1), 0, false⟩,⟨some 27, none, .mv (.tmp 6), 0, false⟩,⟨some 28, none, .ixA 1 (.tmp 26) (.tmp 27), 0, false⟩,⟨some 29, none, .ld1 none (.tmp 28), 0, false⟩,⟨some 30, none, .buildS 1 [(.val (.int .i64 0))] [(0, 1, (.tmp 29))], 0, false⟩,⟨some 31, none, .app 1 8 (.tmp 25) (.tmp 30), 0, false⟩,⟨some 5, none, .mv (.tmp 31), 0, false⟩])
 .skip)))
 (.regN [1, 5, 6] [
 ⟨some 16, none, .mv (.tmp 6), 0, false⟩,⟨some 17, none, .bini .add (.tmp 16) (.con (.val (.int .i64 1))), 0, false⟩,⟨some 6, none, .mv (.tmp 17), 0, false⟩])))
def t53L2 : AC := (.seq (.seq (.regD [5, 7, 8] 0 [
 ⟨some 39, none, .mv (.tmp 8), 0, false⟩,⟨some 40, none, .bini .gtr (.tmp 39) (.con (.val (.int .i64 0))), 0, false⟩,⟨some 41, none, .mv (.tmp 40), 0, false⟩,⟨some 42, some (41, true), .mv (.tmp 5), 0, false⟩,⟨some 43, some (41, true), .mv (.tmp 8), 0, false⟩,⟨some 44, some (41, true), .bini .sub (.tmp 43) (.con (.val (.int .i64 1))), 0, false⟩,⟨some 45, some (41, true), .ixA 1 (.tmp 42) (.tmp 44), 0, false⟩,⟨some 46, some (41, true), .ld1 none (.tmp 45), 0, false⟩,⟨some 47, some (41, true), .mv (.tmp 5), 0, false⟩,⟨some 48, some (41, true), .mv (.tmp 8), 0, false⟩,⟨some 49, some (41, true), .ixA 1 (.tmp 47) (.tmp 48), 0, false⟩,⟨some 50, some (41, true), .ld1 none (.tmp 49), 0, false⟩,⟨some 51, some (41, true), .bini .gtr (.tmp 46) (.tmp 50), 0, false⟩,⟨some 52, none, .pick (.tmp 41) (.tmp 51) (.con (.val (.bool false))), 0, false⟩])
 (.cond (.tmp 52)
 .skip
 (.exit 4)))
 (.seq (.block 5
 (.regD [5, 7, 8] 0 [
 ⟨some 55, none, .mv (.tmp 5), 0, false⟩,⟨some 56, none, .mv (.tmp 8), 0, false⟩,⟨some 57, none, .bini .sub (.tmp 56) (.con (.val (.int .i64 1))), 0, false⟩,⟨some 58, none, .mv (.tmp 5), 0, false⟩,⟨some 59, none, .mv (.tmp 8), 0, false⟩,⟨some 60, none, .mv (.tmp 5), 0, false⟩,⟨some 61, none, .mv (.tmp 8), 0, false⟩,⟨some 62, none, .ixA 1 (.tmp 60) (.tmp 61), 0, false⟩,⟨some 63, none, .ld1 none (.tmp 62), 0, false⟩,⟨some 64, none, .mv (.tmp 5), 0, false⟩,⟨some 65, none, .mv (.tmp 8), 0, false⟩,⟨some 66, none, .bini .sub (.tmp 65) (.con (.val (.int .i64 1))), 0, false⟩,⟨some 67, none, .ixA 1 (.tmp 64) (.tmp 66), 0, false⟩,⟨some 68, none, .ld1 none (.tmp 67), 0, false⟩,⟨some 69, none, .ixA 1 (.tmp 55) (.tmp 57), 0, false⟩,⟨none, none, .st none 1 (.tmp 69) (.tmp 63), 0, false⟩,⟨some 70, none, .ixA 1 (.tmp 58) (.tmp 59), 0, false⟩,⟨none, none, .st none 1 (.tmp 70) (.tmp 68), 0, false⟩]))
 (.regN [5, 7, 8] [
 ⟨some 53, none, .mv (.tmp 8), 0, false⟩,⟨some 54, none, .bini .sub (.tmp 53) (.con (.val (.int .i64 1))), 0, false⟩,⟨some 8, none, .mv (.tmp 54), 0, false⟩])))
def t53L3 : AC := (.seq (.seq (.regN [5, 7] [
 ⟨some 32, none, .mv (.tmp 7), 0, false⟩,⟨some 33, none, .mv (.tmp 5), 0, false⟩,⟨some 34, none, .len false (.tmp 33), 0, false⟩,⟨some 35, none, .bini .lss (.tmp 32) (.tmp 34), 0, false⟩])
 (.cond (.tmp 35)
 .skip
 (.exit 2)))
 (.seq (.block 3
 (.seq (.regN [5, 7] [
 ⟨some 38, none, .mv (.tmp 7), 0, false⟩,⟨some 8, none, .mv (.tmp 38), 0, false⟩])
 (.block 4
 (.loop [5, 7, 8] t53L2))))
 (.regN [5, 7] [
 ⟨some 36, none, .mv (.tmp 7), 0, false⟩,⟨some 37, none, .bini .add (.tmp 36) (.con (.val (.int .i64 1))), 0, false⟩,⟨some 7, none, .mv (.tmp 37), 0, false⟩])))
def t53B : AC := (.seq (.regN [0, 1] [
 ⟨some 4, none, .mv (.con .e0), 0, false⟩])
 (.seq (.regN [0, 1] [
 ⟨some 9, none, .buildS 0 [] [], 0, false⟩,⟨some 10, none, .mv (.tmp 0), 0, false⟩,⟨some 11, none, .app 1 8 (.tmp 9) (.tmp 10), 0, false⟩,⟨some 5, none, .mv (.tmp 11), 0, false⟩])
 (.seq (.seq (.regN [1, 5] [
 ⟨some 6, none, .mv (.con (.val (.int .i64 0))), 0, false⟩])
 (.block 0
 (.loop [1, 5, 6] t53L1)))
 (.seq (.seq (.regN [5] [
 ⟨some 7, none, .mv (.con (.val (.int .i64 1))), 0, false⟩])
 (.block 2
 (.loop [5, 7] t53L3)))
 (.seq (.regN [5] [
 ⟨some 71, none, .mv (.tmp 5), 0, false⟩,⟨some 4, none, .mv (.tmp 71), 0, false⟩])
 .ret)))))
def t53 : AFn := ⟨2, t53B,
 [.tmp 4], true⟩
/-- viewport/viewportref03.in  -/
def t64L1 : AC := (.seq (.seq (.regN [0, 1, 5] [
 ⟨some 6, none, .mv (.tmp 5), 0, false⟩,⟨some 7, none, .mv (.tmp 0), 0, false⟩,⟨some 8, none, .len false (.tmp 7), 0, false⟩,⟨some 9, none, .bini .lss (.tmp 6) (.tmp 8), 0, false⟩])
 (.cond (.tmp 9)
 .skip
 (.exit 0)))
 (.seq (.block 1
 (.seq (.regN [0, 1, 5] [
 ⟨some 12, none, .mv (.tmp 0), 0, false⟩,⟨some 13, none, .mv (.tmp 5), 0, false⟩,⟨some 14, none, .ixA 1 (.tmp 12) (.tmp 13), 0, false⟩,⟨some 15, none, .ld1 none (.tmp 14), 0, false⟩,⟨some 16, none, .mv (.tmp 1), 0, false⟩,⟨some 17, none, .bini .eql (.tmp 15) (.tmp 16), 0, false⟩])
 (.cond (.tmp 17)
 (.seq (.regN [] [
 ⟨some 4, none, .mv (.con (.val (.bool true))), 0, false⟩])
 .ret)
 .skip)))
 (.regN [0, 1, 5] [
 ⟨some 10, none, .mv (.tmp 5), 0, false⟩,⟨some 11, none, .bini .add (.tmp 10) (.con (.val (.int .i64 1))), 0, false⟩,⟨some 5, none, .mv (.tmp 11), 0, false⟩])))
def t64B : AC := (.seq (.regN [0, 1] [
 ⟨some 4, none, .mv (.con (.val (.bool false))), 0, false⟩])
 (.seq (.seq (.regN [0, 1] [
 ⟨some 5, none, .mv (.con (.val (.int .i64 0))), 0, false⟩])
 (.block 0
 (.loop [0, 1, 5] t64L1)))
 (.seq (.regN [] [
 ⟨some 4, none, .mv (.con (.val (.bool false))), 0, false⟩])
 .ret)))
def t64 : AFn := ⟨2, t64B,
 [.tmp 4], true⟩
/-- viewport/viewportref04.Build  -/
def t38L1 : AC := (.seq (.seq (.regN [1, 2, 4, 7, 8, 9, 10, 11] [
 ⟨some 55, none, .mv (.tmp 11), 0, false⟩,⟨some 56, none, .bini .lss (.tmp 55) (.con (.val (.int .i64 256))), 0, false⟩])
 (.cond (.tmp 56)
 .skip
 (.exit 2)))
 (.seq (.block 3
 (.seq (.regD [1, 2, 4, 7, 8, 9, 10, 11] 0 [
 ⟨some 59, none, .ldA (some 2) 3 (.tmp 2), 0, false⟩,⟨some 60, none, .mv (.tmp 7), 0, false⟩,⟨some 61, none, .mv (.tmp 10), 0, false⟩,⟨some 62, none, .ixA 1 (.tmp 60) (.tmp 61), 0, false⟩,⟨some 63, none, .ld1 none (.tmp 62), 0, false⟩,⟨some 64, none, .mv (.tmp 11), 0, false⟩,⟨some 65, none, .cvi .u8 (.tmp 64), 0, false⟩,⟨some 66, none, .call 57 [(.tmp 59), (.tmp 63), (.tmp 65)], 0, true⟩,⟨some 12, none, .mv (.tmp 66), 0, false⟩])
 (.seq (.regN [1, 2, 4, 7, 8, 9, 10, 11, 12] [
 ⟨some 13, none, .mv (.con (.val (.int .i64 (-1)))), 0, false⟩])
 (.seq (.seq (.regN [1, 2, 4, 7, 8, 9, 10, 11, 12, 13] [
 ⟨some 67, none, .mv (.tmp 12), 0, false⟩,⟨some 68, none, .len false (.tmp 67), 0, false⟩,⟨some 69, none, .bini .gtr (.tmp 68) (.con (.val (.int .i64 0))), 0, false⟩])
 (.cond (.tmp 69)
 (.seq (.regN [1, 2, 4, 7, 8, 9, 10, 11, 12] [
 ⟨some 71, none, .mv (.tmp 8), 0, false⟩,⟨some 72, none, .mv (.tmp 12), 0, false⟩,⟨some 73, none, .call 55 [(.tmp 72)], 0, false⟩,⟨some 74, none, .mlk false [2] (.val (.int .i64 0)) true (.tmp 71) (.tmp 73), 0, false⟩,⟨some 70, none, .mv (.tmp 74), 0, false⟩,⟨some 75, none, .ext (.tmp 70) 0, 0, false⟩,⟨some 76, none, .ext (.tmp 70) 1, 0, false⟩,⟨some 14, none, .mv (.tmp 75), 0, false⟩,⟨some 15, none, .mv (.tmp 76), 0, false⟩])
 (.seq (.seq (.regN [1, 2, 4, 7, 8, 9, 10, 11, 12, 14, 15] [
 ⟨some 77, none, .mv (.tmp 15), 0, false⟩,⟨some 78, none, .not (.tmp 77), 0, false⟩])
 (.cond (.tmp 78)
 (.seq (.regN [1, 2, 4, 7, 8, 9, 10, 11, 12] [
 ⟨some 79, none, .mv (.tmp 7), 0, false⟩,⟨some 80, none, .len false (.tmp 79), 0, false⟩,⟨some 14, none, .mv (.tmp 80), 0, false⟩])
 (.seq (.seq (.regN [1, 2, 4, 7, 8, 9, 10, 11, 12, 14] [
 ⟨some 81, none, .mv (.tmp 14), 0, false⟩,⟨some 82, none, .mv (.tmp 1), 0, false⟩,⟨some 83, none, .bini .eql (.tmp 81) (.tmp 82), 0, false⟩])
 (.cond (.tmp 83)
 (.seq (.regN [4] [
 ⟨some 84, none, .build [.e0, .e0] [], 0, false⟩,⟨none, none, .st (some 4) 2 (.tmp 4) (.tmp 84), 0, false⟩,⟨some 5, none, .mv (.con (.val (.int .i64 10))), 0, false⟩])
 .ret)
 .skip))
 (.seq (.regN [1, 2, 4, 7, 8, 9, 10, 11, 12, 14] [
 ⟨some 85, none, .mv (.tmp 7), 0, false⟩,⟨some 86, none, .mv (.tmp 12), 0, false⟩,⟨some 87, none, .buildS 1 [.e0] [(0, 1, (.tmp 86))], 0, false⟩,⟨some 88, none, .app 1 24 (.tmp 85) (.tmp 87), 0, false⟩,⟨some 7, none, .mv (.tmp 88), 0, false⟩])
 (.regN [1, 2, 4, 7, 8, 9, 10, 11, 12, 14] [
 ⟨some 89, none, .mv (.tmp 8), 0, false⟩,⟨some 90, none, .mv (.tmp 12), 0, false⟩,⟨some 91, none, .call 55 [(.tmp 90)], 0, false⟩,⟨some 92, none, .mv (.tmp 14), 0, false⟩,⟨none, none, .mup false [2] (.tmp 89) (.tmp 91) (.tmp 92), 0, false⟩]))))
 .skip))
 (.regN [1, 2, 4, 7, 8, 9, 10, 11, 14] [
 ⟨some 93, none, .mv (.tmp 14), 0, false⟩,⟨some 13, none, .mv (.tmp 93), 0, false⟩])))
 .skip))
 (.regN [1, 2, 4, 7, 8, 9, 10, 11, 13] [
 ⟨some 94, none, .fldA 0 (.tmp 9), 0, false⟩,⟨some 95, none, .ld1 (some 9) (.tmp 94), 0, false⟩,⟨some 96, none, .mv (.tmp 13), 0, false⟩,⟨some 97, none, .buildS 1 [(.val (.int .i64 0))] [(0, 1, (.tmp 96))], 0, false⟩,⟨some 98, none, .app 1 8 (.tmp 95) (.tmp 97), 0, false⟩,⟨some 99, none, .fldA 0 (.tmp 9), 0, false⟩,⟨none, none, .st (some 9) 1 (.tmp 99) (.tmp 98), 0, false⟩])))))
 (.regN [1, 2, 4, 7, 8, 9, 10, 11] [
 ⟨some 57, none, .mv (.tmp 11), 0, false⟩,⟨some 58, none, .bini .add (.tmp 57) (.con (.val (.int .i64 1))), 0, false⟩,⟨some 11, none, .mv (.tmp 58), 0, false⟩])))
def t38L2 : AC := (.seq (.seq (.regN [1, 2, 4, 7, 8, 9, 10] [
 ⟨some 38, none, .mv (.tmp 10), 0, false⟩,⟨some 39, none, .mv (.tmp 7), 0, false⟩,⟨some 40, none, .len false (.tmp 39), 0, false⟩,⟨some 41, none, .bini .lss (.tmp 38) (.tmp 40), 0, false⟩])
 (.cond (.tmp 41)
 .skip
 (.exit 0)))
 (.seq (.block 1
 (.seq (.regD [1, 2, 4, 7, 8, 9, 10] 0 [
 ⟨some 44, none, .fldA 1 (.tmp 9), 0, false⟩,⟨some 45, none, .ld1 (some 9) (.tmp 44), 0, false⟩,⟨some 46, none, .ldA (some 2) 3 (.tmp 2), 0, false⟩,⟨some 47, none, .mv (.tmp 7), 0, false⟩,⟨some 48, none, .mv (.tmp 10), 0, false⟩,⟨some 49, none, .ixA 1 (.tmp 47) (.tmp 48), 0, false⟩,⟨some 50, none, .ld1 none (.tmp 49), 0, false⟩,⟨some 51, none, .call 56 [(.tmp 46), (.tmp 50)], 0, true⟩,⟨some 52, none, .buildS 1 [(.val (.int .i64 0))] [(0, 1, (.tmp 51))], 0, false⟩,⟨some 53, none, .app 1 8 (.tmp 45) (.tmp 52), 0, false⟩,⟨some 54, none, .fldA 1 (.tmp 9), 0, false⟩,⟨none, none, .st (some 9) 1 (.tmp 54) (.tmp 53), 0, false⟩])
 (.seq (.regN [1, 2, 4, 7, 8, 9, 10] [
 ⟨some 11, none, .mv (.con (.val (.int .i64 0))), 0, false⟩])
 (.block 2
 (.loop [1, 2, 4, 7, 8, 9, 10, 11] t38L1)))))
 (.regN [1, 2, 4, 7, 8, 9, 10] [
 ⟨some 42, none, .mv (.tmp 10), 0, false⟩,⟨some 43, none, .bini .add (.tmp 42) (.con (.val (.int .i64 1))), 0, false⟩,⟨some 10, none, .mv (.tmp 43), 0, false⟩])))
def t38B : AC := (.seq (.regN [0, 1] [
 ⟨some 2, none, .boxR 3 (.tmp 0), 0, false⟩,⟨some 4, none, .allocR [.e0, .e0], 0, false⟩,⟨some 5, none, .mv (.con (.val (.int .i64 0))), 0, false⟩])
 (.seq (.regN [1, 2, 4] [
 ⟨some 16, none, .ldA (some 2) 3 (.tmp 2), 0, false⟩,⟨some 17, none, .call 54 [(.tmp 16)], 0, false⟩,⟨some 6, none, .mv (.tmp 17), 0, false⟩])
 (.seq (.seq (.regN [1, 2, 4, 6] [
 ⟨some 18, none, .mv (.tmp 6), 0, false⟩,⟨some 19, none, .bini .neq (.tmp 18) (.con (.val (.int .i64 0))), 0, false⟩])
 (.cond (.tmp 19)
 (.seq (.regN [4, 6] [
 ⟨some 20, none, .build [.e0, .e0] [], 0, false⟩,⟨some 21, none, .mv (.tmp 6), 0, false⟩,⟨none, none, .st (some 4) 2 (.tmp 4) (.tmp 20), 0, false⟩,⟨some 5, none, .mv (.tmp 21), 0, false⟩])
 .ret)
 .skip))
 (.seq (.seq (.regN [1, 2, 4] [
 ⟨some 22, none, .mv (.tmp 1), 0, false⟩,⟨some 23, none, .bini .lss (.tmp 22) (.con (.val (.int .i64 1))), 0, false⟩,⟨some 24, none, .mv (.tmp 23), 0, false⟩,⟨some 25, some (24, false), .mv (.tmp 1), 0, false⟩,⟨some 26, some (24, false), .bini .gtr (.tmp 25) (.con (.val (.int .i64 512))), 0, false⟩,⟨some 27, none, .pick (.tmp 24) (.con (.val (.bool true))) (.tmp 26), 0, false⟩])
 (.cond (.tmp 27)
 (.seq (.regN [4] [
 ⟨some 28, none, .build [.e0, .e0] [], 0, false⟩,⟨none, none, .st (some 4) 2 (.tmp 4) (.tmp 28), 0, false⟩,⟨some 5, none, .mv (.con (.val (.int .i64 2))), 0, false⟩])
 .ret)
 .skip))
 (.seq (.regN [1, 2, 4] [
 ⟨some 29, none, .buildS 1 [(.val (.int .i64 0))] [(0, 1, (.con (.val (.int .i64 0))))], 0, false⟩,⟨some 30, none, .buildH 1 1 [.e0] [(0, 1, (.tmp 29))], 0, false⟩,⟨some 7, none, .mv (.tmp 30), 0, false⟩])
 (.seq (.regN [1, 2, 4, 7] [
 ⟨some 31, none, .mkm, 0, false⟩,⟨some 32, none, .mv (.tmp 7), 0, false⟩,⟨some 33, none, .ixA 1 (.tmp 32) (.con (.val (.int .i64 0))), 0, false⟩,⟨some 34, none, .ld1 none (.tmp 33), 0, false⟩,⟨some 35, none, .call 55 [(.tmp 34)], 0, false⟩,⟨none, none, .mup false [2] (.tmp 31) (.tmp 35) (.con (.val (.int .i64 0))), 0, false⟩,⟨some 36, none, .mv (.tmp 31), 0, false⟩,⟨some 8, none, .mv (.tmp 36), 0, false⟩])
 (.seq (.regN [1, 2, 4, 7, 8] [
 ⟨some 37, none, .build [.e0, .e0] [], 0, false⟩,⟨some 9, none, .allocR [.e0, .e0], 0, false⟩,⟨none, none, .st (some 9) 2 (.tmp 9) (.tmp 37), 0, false⟩])
 (.seq (.seq (.regN [1, 2, 4, 7, 8, 9] [
 ⟨some 10, none, .mv (.con (.val (.int .i64 0))), 0, false⟩])
 (.block 0
 (.loop [1, 2, 4, 7, 8, 9, 10] t38L2)))
 (.seq (.regN [4, 9] [
 ⟨some 100, none, .ldA (some 9) 2 (.tmp 9), 0, false⟩,⟨none, none, .st (some 4) 2 (.tmp 4) (.tmp 100), 0, false⟩,⟨some 5, none, .mv (.con (.val (.int .i64 0))), 0, false⟩])
 .ret)))))))))
def t38 : AFn := ⟨2, t38B,
 [.cell 4 2 true, .tmp 5], true⟩
/-- viewport/viewportref03.Check  -/
def t54L1 : AC := (.seq (.seq (.regN [1, 3, 4, 5] [
 ⟨some 56, none, .mv (.tmp 5), 0, false⟩,⟨some 57, none, .fldA 1 (.tmp 1), 0, false⟩,⟨some 58, none, .ld1 (some 1) (.tmp 57), 0, false⟩,⟨some 59, none, .mv (.tmp 4), 0, false⟩,⟨some 60, none, .ixA 1 (.tmp 58) (.tmp 59), 0, false⟩,⟨some 61, none, .ld1 none (.tmp 60), 0, false⟩,⟨some 62, none, .len false (.tmp 61), 0, false⟩,⟨some 63, none, .bini .lss (.tmp 56) (.tmp 62), 0, false⟩])
 (.cond (.tmp 63)
 .skip
 (.exit 2)))
 (.seq (.block 3
 (.seq (.regD [1, 3, 4, 5] 0 [
 ⟨some 66, none, .fldA 1 (.tmp 1), 0, false⟩,⟨some 67, none, .ld1 (some 1) (.tmp 66), 0, false⟩,⟨some 68, none, .mv (.tmp 4), 0, false⟩,⟨some 69, none, .ixA 1 (.tmp 67) (.tmp 68), 0, false⟩,⟨some 70, none, .ld1 none (.tmp 69), 0, false⟩,⟨some 71, none, .mv (.tmp 5), 0, false⟩,⟨some 72, none, .ixA 1 (.tmp 70) (.tmp 71), 0, false⟩,⟨some 73, none, .ld1 none (.tmp 72), 0, false⟩,⟨some 74, none, .bini .lss (.tmp 73) (.con (.val (.int .i64 1))), 0, false⟩,⟨some 75, none, .mv (.tmp 74), 0, false⟩,⟨some 76, some (75, false), .fldA 1 (.tmp 1), 0, false⟩,⟨some 77, some (75, false), .ld1 (some 1) (.tmp 76), 0, false⟩,⟨some 78, some (75, false), .mv (.tmp 4), 0, false⟩,⟨some 79, some (75, false), .ixA 1 (.tmp 77) (.tmp 78), 0, false⟩,⟨some 80, some (75, false), .ld1 none (.tmp 79), 0, false⟩,⟨some 81, some (75, false), .mv (.tmp 5), 0, false⟩,⟨some 82, some (75, false), .ixA 1 (.tmp 80) (.tmp 81), 0, false⟩,⟨some 83, some (75, false), .ld1 none (.tmp 82), 0, false⟩,⟨some 84, some (75, false), .mv (.tmp 3), 0, false⟩,⟨some 85, some (75, false), .bini .geq (.tmp 83) (.tmp 84), 0, false⟩,⟨some 86, none, .pick (.tmp 75) (.con (.val (.bool true))) (.tmp 85), 0, false⟩,⟨some 87, none, .mv (.tmp 86), 0, false⟩,⟨some 88, some (87, false), .mv (.tmp 5), 0, false⟩,⟨some 89, some (87, false), .bini .gtr (.tmp 88) (.con (.val (.int .i64 0))), 0, false⟩,⟨some 90, some (87, false), .mv (.tmp 89), 0, false⟩,⟨some 91, some (90, true), .fldA 1 (.tmp 1), 0, false⟩,⟨some 92, some (90, true), .ld1 (some 1) (.tmp 91), 0, false⟩,⟨some 93, some (90, true), .mv (.tmp 4), 0, false⟩,⟨some 94, some (90, true), .ixA 1 (.tmp 92) (.tmp 93), 0, false⟩,⟨some 95, some (90, true), .ld1 none (.tmp 94), 0, false⟩,⟨some 96, some (90, true), .mv (.tmp 5), 0, false⟩,⟨some 97, some (90, true), .bini .sub (.tmp 96) (.con (.val (.int .i64 1))), 0, false⟩,⟨some 98, some (90, true), .ixA 1 (.tmp 95) (.tmp 97), 0, false⟩,⟨some 99, some (90, true), .ld1 none (.tmp 98), 0, false⟩,⟨some 100, some (90, true), .fldA 1 (.tmp 1), 0, false⟩,⟨some 101, some (90, true), .ld1 (some 1) (.tmp 100), 0, false⟩,⟨some 102, some (90, true), .mv (.tmp 4), 0, false⟩,⟨some 103, some (90, true), .ixA 1 (.tmp 101) (.tmp 102), 0, false⟩,⟨some 104, some (90, true), .ld1 none (.tmp 103), 0, false⟩,⟨some 105, some (90, true), .mv (.tmp 5), 0, false⟩,⟨some 106, some (90, true), .ixA 1 (.tmp 104) (.tmp 105), 0, false⟩,⟨some 107, some (90, true), .ld1 none (.tmp 106), 0, false⟩,⟨some 108, some (90, true), .bini .geq (.tmp 99) (.tmp 107), 0, false⟩,⟨some 109, some (87, false), .pick (.tmp 90) (.tmp 108) (.con (.val (.bool false))), 0, false⟩,⟨some 110, none, .pick (.tmp 87) (.con (.val (.bool true))) (.tmp 109), 0, false⟩])
 (.cond (.tmp 110)
 (.seq (.regN [] [
 ⟨some 2, none, .mv (.con (.val (.int .i64 2))), 0, false⟩])
 .ret)
 .skip)))
 (.regN [1, 3, 4, 5] [
 ⟨some 64, none, .mv (.tmp 5), 0, false⟩,⟨some 65, none, .bini .add (.tmp 64) (.con (.val (.int .i64 1))), 0, false⟩,⟨some 5, none, .mv (.tmp 65), 0, false⟩])))
def t54L2 : AC := (.seq (.seq (.regN [1, 3, 4] [
 ⟨some 37, none, .mv (.tmp 4), 0, false⟩,⟨some 38, none, .mv (.tmp 3), 0, false⟩,⟨some 39, none, .bini .lss (.tmp 37) (.tmp 38), 0, false⟩])
 (.cond (.tmp 39)
 .skip
 (.exit 0)))
 (.seq (.block 1
 (.seq (.seq (.regN [1, 3, 4] [
 ⟨some 42, none, .fldA 2 (.tmp 1), 0, false⟩,⟨some 43, none, .ld1 (some 1) (.tmp 42), 0, false⟩,⟨some 44, none, .mv (.tmp 4), 0, false⟩,⟨some 45, none, .ixA 1 (.tmp 43) (.tmp 44), 0, false⟩,⟨some 46, none, .ld1 none (.tmp 45), 0, false⟩,⟨some 47, none, .bini .lss (.tmp 46) (.con (.val (.int .i64 (-1)))), 0, false⟩,⟨some 48, none, .mv (.tmp 47), 0, false⟩,⟨some 49, some (48, false), .fldA 2 (.tmp 1), 0, false⟩,⟨some 50, some (48, false), .ld1 (some 1) (.tmp 49), 0, false⟩,⟨some 51, some (48, false), .mv (.tmp 4), 0, false⟩,⟨some 52, some (48, false), .ixA 1 (.tmp 50) (.tmp 51), 0, false⟩,⟨some 53, some (48, false), .ld1 none (.tmp 52), 0, false⟩,⟨some 54, some (48, false), .bini .geq (.tmp 53) (.con (.val (.int .i64 16))), 0, false⟩,⟨some 55, none, .pick (.tmp 48) (.con (.val (.bool true))) (.tmp 54), 0, false⟩])
 (.cond (.tmp 55)
 (.seq (.regN [] [
 ⟨some 2, none, .mv (.con (.val (.int .i64 2))), 0, false⟩])
 .ret)
 .skip))
 (.seq (.regN [1, 3, 4] [
 ⟨some 5, none, .mv (.con (.val (.int .i64 0))), 0, false⟩])
 (.block 2
 (.loop [1, 3, 4, 5] t54L1)))))
 (.regN [1, 3, 4] [
 ⟨some 40, none, .mv (.tmp 4), 0, false⟩,⟨some 41, none, .bini .add (.tmp 40) (.con (.val (.int .i64 1))), 0, false⟩,⟨some 4, none, .mv (.tmp 41), 0, false⟩])))
def t54B : AC := (.seq (.regN [0] [
 ⟨some 1, none, .boxR 3 (.tmp 0), 0, false⟩,⟨some 2, none, .mv (.con (.val (.int .i64 0))), 0, false⟩])
 (.seq (.regN [1] [
 ⟨some 6, none, .fldA 0 (.tmp 1), 0, false⟩,⟨some 7, none, .ld1 (some 1) (.tmp 6), 0, false⟩,⟨some 8, none, .len false (.tmp 7), 0, false⟩,⟨some 3, none, .mv (.tmp 8), 0, false⟩])
 (.seq (.seq (.regN [1, 3] [
 ⟨some 9, none, .mv (.tmp 3), 0, false⟩,⟨some 10, none, .bini .lss (.tmp 9) (.con (.val (.int .i64 1))), 0, false⟩,⟨some 11, none, .mv (.tmp 10), 0, false⟩,⟨some 12, some (11, false), .mv (.tmp 3), 0, false⟩,⟨some 13, some (11, false), .bini .gtr (.tmp 12) (.con (.val (.int .i64 1024))), 0, false⟩,⟨some 14, none, .pick (.tmp 11) (.con (.val (.bool true))) (.tmp 13), 0, false⟩,⟨some 15, none, .mv (.tmp 14), 0, false⟩,⟨some 16, some (15, false), .fldA 1 (.tmp 1), 0, false⟩,⟨some 17, some (15, false), .ld1 (some 1) (.tmp 16), 0, false⟩,⟨some 18, some (15, false), .len false (.tmp 17), 0, false⟩,⟨some 19, some (15, false), .mv (.tmp 3), 0, false⟩,⟨some 20, some (15, false), .bini .neq (.tmp 18) (.tmp 19), 0, false⟩,⟨some 21, none, .pick (.tmp 15) (.con (.val (.bool true))) (.tmp 20), 0, false⟩,⟨some 22, none, .mv (.tmp 21), 0, false⟩,⟨some 23, some (22, false), .fldA 2 (.tmp 1), 0, false⟩,⟨some 24, some (22, false), .ld1 (some 1) (.tmp 23), 0, false⟩,⟨some 25, some (22, false), .len false (.tmp 24), 0, false⟩,⟨some 26, some (22, false), .mv (.tmp 3), 0, false⟩,⟨some 27, some (22, false), .bini .neq (.tmp 25) (.tmp 26), 0, false⟩,⟨some 28, none, .pick (.tmp 22) (.con (.val (.bool true))) (.tmp 27), 0, false⟩,⟨some 29, none, .mv (.tmp 28), 0, false⟩,⟨some 30, some (29, false), .fldA 0 (.tmp 1), 0, false⟩,⟨some 31, some (29, false), .ld1 (some 1) (.tmp 30), 0, false⟩,⟨some 32, some (29, false), .ixA 4 (.tmp 31) (.con (.val (.int .i64 0))), 0, false⟩,⟨some 33, some (29, false), .ldA none 4 (.tmp 32), 0, false⟩,⟨some 34, some (29, false), .build [(.val (.int .u64 0)), (.val (.int .u64 0)), (.val (.int .u64 0)), (.val (.int .u64 0))] [], 0, false⟩,⟨some 35, some (29, false), .eqa true [1, 1, 1, 1] (.tmp 33) (.tmp 34), 0, false⟩,⟨some 36, none, .pick (.tmp 29) (.con (.val (.bool true))) (.tmp 35), 0, false⟩])
 (.cond (.tmp 36)
 (.seq (.regN [] [
 ⟨some 2, none, .mv (.con (.val (.int .i64 2))), 0, false⟩])
 .ret)
 .skip))
 (.seq (.seq (.regN [1, 3] [
 ⟨some 4, none, .mv (.con (.val (.int .i64 0))), 0, false⟩])
 (.block 0
 (.loop [1, 3, 4] t54L2)))
 (.seq (.regN [] [
 ⟨some 2, none, .mv (.con (.val (.int .i64 0))), 0, false⟩])
 .ret)))))
def t54 : AFn := ⟨1, t54B,
 [.tmp 2], true⟩
/-- viewport/viewportref04.key  -/
def t55L1 : AC := (.seq (.seq (.regN [0, 3, 4] [
 ⟨some 5, none, .mv (.tmp 4), 0, false⟩,⟨some 6, none, .mv (.tmp 0), 0, false⟩,⟨some 7, none, .len false (.tmp 6), 0, false⟩,⟨some 8, none, .bini .lss (.tmp 5) (.tmp 7), 0, false⟩])
 (.cond (.tmp 8)
 .skip
 (.exit 0)))
 (.seq (.block 1
 (.regD [0, 3, 4] 0 [
 ⟨some 11, none, .mv (.tmp 3), 0, false⟩,⟨some 12, none, .mv (.tmp 0), 0, false⟩,⟨some 13, none, .mv (.tmp 4), 0, false⟩,⟨some 14, none, .ixA 1 (.tmp 12) (.tmp 13), 0, false⟩,⟨some 15, none, .ld1 none (.tmp 14), 0, false⟩,⟨some 16, none, .bini .quo (.tmp 15) (.con (.val (.int .i64 256))), 0, false⟩,⟨some 17, none, .cvi .u8 (.tmp 16), 0, false⟩,⟨some 18, none, .mv (.tmp 0), 0, false⟩,⟨some 19, none, .mv (.tmp 4), 0, false⟩,⟨some 20, none, .ixA 1 (.tmp 18) (.tmp 19), 0, false⟩,⟨some 21, none, .ld1 none (.tmp 20), 0, false⟩,⟨some 22, none, .bini .rem (.tmp 21) (.con (.val (.int .i64 256))), 0, false⟩,⟨some 23, none, .cvi .u8 (.tmp 22), 0, false⟩,⟨some 24, none, .buildS 2 [(.val (.int .u8 0)), (.val (.int .u8 0))] [(0, 1, (.tmp 17)), (1, 1, (.tmp 23))], 0, false⟩,⟨some 25, none, .app 1 1 (.tmp 11) (.tmp 24), 0, false⟩,⟨some 3, none, .mv (.tmp 25), 0, false⟩]))
 (.regN [0, 3, 4] [
 ⟨some 9, none, .mv (.tmp 4), 0, false⟩,⟨some 10, none, .bini .add (.tmp 9) (.con (.val (.int .i64 1))), 0, false⟩,⟨some 4, none, .mv (.tmp 10), 0, false⟩])))
def t55B : AC := (.seq (.regN [0] [
 ⟨some 2, none, .mv (.con (.val (.string ⟨#[]⟩))), 0, false⟩])
 (.seq (.regN [0] [
 ⟨some 3, none, .mv (.con .e0), 0, false⟩])
 (.seq (.seq (.regN [0, 3] [
 ⟨some 4, none, .mv (.con (.val (.int .i64 0))), 0, false⟩])
 (.block 0
 (.loop [0, 3, 4] t55L1)))
 (.seq (.regN [3] [
 ⟨some 26, none, .mv (.tmp 3), 0, false⟩,⟨some 27, none, .b2s (.tmp 26), 0, false⟩,⟨some 2, none, .mv (.tmp 27), 0, false⟩])
 .ret))))
def t55 : AFn := ⟨1, t55B,
 [.tmp 2], true⟩
/-- viewport/viewportref03.Ends  -/
def t56L1 : AC := (.seq (.seq (.regN [1, 2, 5, 6] [
 ⟨some 8, none, .mv (.tmp 6), 0, false⟩,⟨some 9, none, .mv (.tmp 1), 0, false⟩,⟨some 10, none, .len false (.tmp 9), 0, false⟩,⟨some 11, none, .bini .lss (.tmp 8) (.tmp 10), 0, false⟩])
 (.cond (.tmp 11)
 .skip
 (.exit 0)))
 (.seq (.block 1
 (.seq (.regD [1, 2, 5, 6] 0 [
 ⟨some 14, none, .mv (.tmp 1), 0, false⟩,⟨some 15, none, .mv (.tmp 6), 0, false⟩,⟨some 16, none, .ixA 1 (.tmp 14) (.tmp 15), 0, false⟩,⟨some 17, none, .ld1 none (.tmp 16), 0, false⟩,⟨some 18, none, .bini .geq (.tmp 17) (.con (.val (.int .i64 0))), 0, false⟩,⟨some 19, none, .mv (.tmp 18), 0, false⟩,⟨some 20, some (19, true), .mv (.tmp 1), 0, false⟩,⟨some 21, some (19, true), .mv (.tmp 6), 0, false⟩,⟨some 22, some (19, true), .ixA 1 (.tmp 20) (.tmp 21), 0, false⟩,⟨some 23, some (19, true), .ld1 none (.tmp 22), 0, false⟩,⟨some 24, some (19, true), .fldA 2 (.tmp 2), 0, false⟩,⟨some 25, some (19, true), .ld1 (some 2) (.tmp 24), 0, false⟩,⟨some 26, some (19, true), .len false (.tmp 25), 0, false⟩,⟨some 27, some (19, true), .bini .lss (.tmp 23) (.tmp 26), 0, false⟩,⟨some 28, none, .pick (.tmp 19) (.tmp 27) (.con (.val (.bool false))), 0, false⟩])
 (.cond (.tmp 28)
 (.seq (.regD [1, 2, 5, 6] 0 [
 ⟨some 29, none, .fldA 2 (.tmp 2), 0, false⟩,⟨some 30, none, .ld1 (some 2) (.tmp 29), 0, false⟩,⟨some 31, none, .mv (.tmp 1), 0, false⟩,⟨some 32, none, .mv (.tmp 6), 0, false⟩,⟨some 33, none, .ixA 1 (.tmp 31) (.tmp 32), 0, false⟩,⟨some 34, none, .ld1 none (.tmp 33), 0, false⟩,⟨some 35, none, .ixA 1 (.tmp 30) (.tmp 34), 0, false⟩,⟨some 36, none, .ld1 none (.tmp 35), 0, false⟩,⟨some 7, none, .mv (.tmp 36), 0, false⟩])
 (.seq (.regN [1, 2, 5, 6, 7] [
 ⟨some 37, none, .mv (.tmp 7), 0, false⟩,⟨some 38, none, .bini .geq (.tmp 37) (.con (.val (.int .i64 0))), 0, false⟩,⟨some 39, none, .mv (.tmp 38), 0, false⟩,⟨some 40, some (39, true), .mv (.tmp 5), 0, false⟩,⟨some 41, some (39, true), .bini .lss (.tmp 40) (.con (.val (.int .i64 0))), 0, false⟩,⟨some 42, some (39, true), .mv (.tmp 41), 0, false⟩,⟨some 43, some (42, false), .mv (.tmp 7), 0, false⟩,⟨some 44, some (42, false), .mv (.tmp 5), 0, false⟩,⟨some 45, some (42, false), .bini .lss (.tmp 43) (.tmp 44), 0, false⟩,⟨some 46, some (39, true), .pick (.tmp 42) (.con (.val (.bool true))) (.tmp 45), 0, false⟩,⟨some 47, none, .pick (.tmp 39) (.tmp 46) (.con (.val (.bool false))), 0, false⟩])
 (.cond (.tmp 47)
 (.regN [1, 2, 6, 7] [
 ⟨some 48, none, .mv (.tmp 7), 0, false⟩,⟨some 5, none, .mv (.tmp 48), 0, false⟩])
 .skip)))
 .skip)))
 (.regN [1, 2, 5, 6] [
 ⟨some 12, none, .mv (.tmp 6), 0, false⟩,⟨some 13, none, .bini .add (.tmp 12) (.con (.val (.int .i64 1))), 0, false⟩,⟨some 6, none, .mv (.tmp 13), 0, false⟩])))
def t56B : AC := (.seq (.regN [0, 1] [
 ⟨some 2, none, .boxR 3 (.tmp 0), 0, false⟩,⟨some 4, none, .mv (.con (.val (.int .i64 0))), 0, false⟩])
 (.seq (.regN [1, 2] [
 ⟨some 5, none, .mv (.con (.val (.int .i64 (-1)))), 0, false⟩])
 (.seq (.seq (.regN [1, 2, 5] [
 ⟨some 6, none, .mv (.con (.val (.int .i64 0))), 0, false⟩])
 (.block 0
 (.loop [1, 2, 5, 6] t56L1)))
 (.seq (.regN [5] [
 ⟨some 49, none, .mv (.tmp 5), 0, false⟩,⟨some 4, none, .mv (.tmp 49), 0, false⟩])
 .ret))))
def t56 : AFn := ⟨2, t56B,
 [.tmp 4], true⟩
/-- viewport/viewportref03.Go  -/
def t57L1 : AC := (.seq (.seq (.regN [1, 2, 3, 7, 8, 9, 10] [
 ⟨some 46, none, .mv (.tmp 10), 0, false⟩,⟨some 47, none, .mv (.tmp 9), 0, false⟩,⟨some 48, none, .len false (.tmp 47), 0, false⟩,⟨some 49, none, .bini .lss (.tmp 46) (.tmp 48), 0, false⟩])
 (.cond (.tmp 49)
 .skip
 (.exit 2)))
 (.seq (.block 3
 (.seq (.regD [1, 2, 3, 7, 8, 9, 10] 0 [
 ⟨some 52, none, .fldA 0 (.tmp 3), 0, false⟩,⟨some 53, none, .ld1 (some 3) (.tmp 52), 0, false⟩,⟨some 54, none, .mv (.tmp 9), 0, false⟩,⟨some 55, none, .mv (.tmp 10), 0, false⟩,⟨some 56, none, .ixA 1 (.tmp 54) (.tmp 55), 0, false⟩,⟨some 57, none, .ld1 none (.tmp 56), 0, false⟩,⟨some 58, none, .ixA 4 (.tmp 53) (.tmp 57), 0, false⟩,⟨some 59, none, .ldA none 4 (.tmp 58), 0, false⟩,⟨some 60, none, .mv (.tmp 2), 0, false⟩,⟨some 61, none, .call 65 [(.tmp 59), (.tmp 60)], 0, true⟩])
 (.cond (.tmp 61)
 (.regN [1, 2, 3, 7, 8, 9, 10] [
 ⟨some 62, none, .mv (.tmp 7), 0, false⟩,⟨some 63, none, .mv (.tmp 9), 0, false⟩,⟨some 64, none, .mv (.tmp 10), 0, false⟩,⟨some 65, none, .ixA 1 (.tmp 63) (.tmp 64), 0, false⟩,⟨some 66, none, .ld1 none (.tmp 65), 0, false⟩,⟨some 67, none, .ixA 1 (.tmp 62) (.tmp 66), 0, false⟩,⟨none, none, .st none 1 (.tmp 67) (.con (.val (.bool true))), 0, false⟩])
 .skip)))
 (.regN [1, 2, 3, 7, 8, 9, 10] [
 ⟨some 50, none, .mv (.tmp 10), 0, false⟩,⟨some 51, none, .bini .add (.tmp 50) (.con (.val (.int .i64 1))), 0, false⟩,⟨some 10, none, .mv (.tmp 51), 0, false⟩])))
def t57L2 : AC := (.seq (.seq (.regN [1, 2, 3, 7, 8] [
 ⟨some 17, none, .mv (.tmp 8), 0, false⟩,⟨some 18, none, .mv (.tmp 1), 0, false⟩,⟨some 19, none, .len false (.tmp 18), 0, false⟩,⟨some 20, none, .bini .lss (.tmp 17) (.tmp 19), 0, false⟩])
 (.cond (.tmp 20)
 .skip
 (.exit 0)))
 (.seq (.block 1
 (.seq (.seq (.regD [1, 2, 3, 7, 8] 0 [
 ⟨some 23, none, .mv (.tmp 1), 0, false⟩,⟨some 24, none, .mv (.tmp 8), 0, false⟩,⟨some 25, none, .ixA 1 (.tmp 23) (.tmp 24), 0, false⟩,⟨some 26, none, .ld1 none (.tmp 25), 0, false⟩,⟨some 27, none, .bini .lss (.tmp 26) (.con (.val (.int .i64 0))), 0, false⟩,⟨some 28, none, .mv (.tmp 27), 0, false⟩,⟨some 29, some (28, false), .mv (.tmp 1), 0, false⟩,⟨some 30, some (28, false), .mv (.tmp 8), 0, false⟩,⟨some 31, some (28, false), .ixA 1 (.tmp 29) (.tmp 30), 0, false⟩,⟨some 32, some (28, false), .ld1 none (.tmp 31), 0, false⟩,⟨some 33, some (28, false), .fldA 0 (.tmp 3), 0, false⟩,⟨some 34, some (28, false), .ld1 (some 3) (.tmp 33), 0, false⟩,⟨some 35, some (28, false), .len false (.tmp 34), 0, false⟩,⟨some 36, some (28, false), .bini .geq (.tmp 32) (.tmp 35), 0, false⟩,⟨some 37, none, .pick (.tmp 28) (.con (.val (.bool true))) (.tmp 36), 0, false⟩])
 (.cond (.tmp 37)
 (.exit 1)
 .skip))
 (.seq (.regD [1, 2, 3, 7, 8] 0 [
 ⟨some 38, none, .fldA 1 (.tmp 3), 0, false⟩,⟨some 39, none, .ld1 (some 3) (.tmp 38), 0, false⟩,⟨some 40, none, .mv (.tmp 1), 0, false⟩,⟨some 41, none, .mv (.tmp 8), 0, false⟩,⟨some 42, none, .ixA 1 (.tmp 40) (.tmp 41), 0, false⟩,⟨some 43, none, .ld1 none (.tmp 42), 0, false⟩,⟨some 44, none, .ixA 1 (.tmp 39) (.tmp 43), 0, false⟩,⟨some 45, none, .ld1 none (.tmp 44), 0, false⟩,⟨some 9, none, .mv (.tmp 45), 0, false⟩])
 (.seq (.regN [1, 2, 3, 7, 8, 9] [
 ⟨some 10, none, .mv (.con (.val (.int .i64 0))), 0, false⟩])
 (.block 2
 (.loop [1, 2, 3, 7, 8, 9, 10] t57L1))))))
 (.regN [1, 2, 3, 7, 8] [
 ⟨some 21, none, .mv (.tmp 8), 0, false⟩,⟨some 22, none, .bini .add (.tmp 21) (.con (.val (.int .i64 1))), 0, false⟩,⟨some 8, none, .mv (.tmp 22), 0, false⟩])))
def t57L3 : AC := (.seq (.seq (.regN [7, 11, 12] [
 ⟨some 68, none, .mv (.tmp 12), 0, false⟩,⟨some 69, none, .mv (.tmp 7), 0, false⟩,⟨some 70, none, .len false (.tmp 69), 0, false⟩,⟨some 71, none, .bini .lss (.tmp 68) (.tmp 70), 0, false⟩])
 (.cond (.tmp 71)
 .skip
 (.exit 4)))
 (.seq (.block 5
 (.seq (.regN [7, 11, 12] [
 ⟨some 74, none, .mv (.tmp 7), 0, false⟩,⟨some 75, none, .mv (.tmp 12), 0, false⟩,⟨some 76, none, .ixA 1 (.tmp 74) (.tmp 75), 0, false⟩,⟨some 77, none, .ld1 none (.tmp 76), 0, false⟩])
 (.cond (.tmp 77)
 (.regN [7, 11, 12] [
 ⟨some 78, none, .mv (.tmp 11), 0, false⟩,⟨some 79, none, .mv (.tmp 12), 0, false⟩,⟨some 80, none, .buildS 1 [(.val (.int .i64 0))] [(0, 1, (.tmp 79))], 0, false⟩,⟨some 81, none, .app 1 8 (.tmp 78) (.tmp 80), 0, false⟩,⟨some 11, none, .mv (.tmp 81), 0, false⟩])
 .skip)))
 (.regN [7, 11, 12] [
 ⟨some 72, none, .mv (.tmp 12), 0, false⟩,⟨some 73, none, .bini .add (.tmp 72) (.con (.val (.int .i64 1))), 0, false⟩,⟨some 12, none, .mv (.tmp 73), 0, false⟩])))
def t57B : AC := (.seq (.regN [0, 1, 2] [
 ⟨some 3, none, .boxR 3 (.tmp 0), 0, false⟩,⟨some 6, none, .mv (.con .e0), 0, false⟩])
 (.seq (.regN [1, 2, 3] [
 ⟨some 13, none, .fldA 0 (.tmp 3), 0, false⟩,⟨some 14, none, .ld1 (some 3) (.tmp 13), 0, false⟩,⟨some 15, none, .len false (.tmp 14), 0, false⟩,⟨some 16, none, .mks 1 1 [(.val (.bool false))] (.tmp 15), 0, false⟩,⟨some 7, none, .mv (.tmp 16), 0, false⟩])
 (.seq (.seq (.regN [1, 2, 3, 7] [
 ⟨some 8, none, .mv (.con (.val (.int .i64 0))), 0, false⟩])
 (.block 0
 (.loop [1, 2, 3, 7, 8] t57L2)))
 (.seq (.regN [7] [
 ⟨some 11, none, .mv (.con .e0), 0, false⟩])
 (.seq (.seq (.regN [7, 11] [
 ⟨some 12, none, .mv (.con (.val (.int .i64 0))), 0, false⟩])
 (.block 4
 (.loop [7, 11, 12] t57L3)))
 (.seq (.regN [11] [
 ⟨some 82, none, .mv (.tmp 11), 0, false⟩,⟨some 6, none, .mv (.tmp 82), 0, false⟩])
 .ret))))))
def t57 : AFn := ⟨3, t57B,
 [.tmp 6], true⟩
/-- viewport/viewportref01.Has  -/
def t65B : AC := (.seq (.regN [0, 1] [
 ⟨some 2, none, .boxR 4 (.tmp 0), 0, false⟩,⟨some 4, none, .mv (.con (.val (.bool false))), 0, false⟩])
 (.seq (.regN [1, 2] [
 ⟨some 5, none, .mv (.tmp 1), 0, false⟩,⟨some 6, none, .bini .quo (.tmp 5) (.con (.val (.int .u8 64))), 0, false⟩,⟨some 7, none, .ixR 4 1 (.tmp 2) (.tmp 6), 0, false⟩,⟨some 8, none, .ld1 (some 2) (.tmp 7), 0, false⟩,⟨some 9, none, .mv (.tmp 1), 0, false⟩,⟨some 10, none, .bini .rem (.tmp 9) (.con (.val (.int .u8 64))), 0, false⟩,⟨some 11, none, .cvi .u64 (.tmp 10), 0, false⟩,⟨some 12, none, .bini .shr (.tmp 8) (.tmp 11), 0, false⟩,⟨some 13, none, .bini .and (.tmp 12) (.con (.val (.int .u64 1))), 0, false⟩,⟨some 14, none, .bini .eql (.tmp 13) (.con (.val (.int .u64 1))), 0, false⟩,⟨some 4, none, .mv (.tmp 14), 0, false⟩])
 .ret))
def t65 : AFn := ⟨2, t65B,
 [.tmp 4], true⟩
/-- viewport/least.Least  -/
def t12L1 : AC := (.seq (.regN [1, 2, 5, 6, 7, 8, 9, 56, 57, 58] [
 ⟨some 59, none, .bini .lss (.tmp 58) (.tmp 57), 0, false⟩])
 (.seq (.cond (.tmp 59)
 .skip
 (.exit 2))
 (.seq (.block 3
 (.seq (.regN [1, 2, 5, 6, 7, 8, 9, 56, 57, 58] [
 ⟨some 60, none, .ixA 1 (.tmp 56) (.tmp 58), 0, false⟩,⟨some 61, none, .ld1 none (.tmp 60), 0, false⟩,⟨some 12, none, .mv (.tmp 61), 0, false⟩])
 (.seq (.seq (.regN [1, 2, 5, 6, 7, 8, 9, 12, 56, 57, 58] [
 ⟨some 62, none, .mv (.tmp 12), 0, false⟩,⟨some 63, none, .bini .lss (.tmp 62) (.con (.val (.int .i64 0))), 0, false⟩,⟨some 64, none, .mv (.tmp 63), 0, false⟩,⟨some 65, some (64, false), .mv (.tmp 5), 0, false⟩,⟨some 66, some (64, false), .mv (.tmp 12), 0, false⟩,⟨some 67, some (64, false), .ixA 1 (.tmp 65) (.tmp 66), 0, false⟩,⟨some 68, some (64, false), .ld1 none (.tmp 67), 0, false⟩,⟨some 69, some (64, false), .bini .lss (.tmp 68) (.con (.val (.int .i64 0))), 0, false⟩,⟨some 70, none, .pick (.tmp 64) (.con (.val (.bool true))) (.tmp 69), 0, false⟩])
 (.cond (.tmp 70)
 (.seq (.regN [1, 2, 5, 6, 7, 8, 9, 56, 57, 58] [
 ⟨some 71, none, .fldA 0 (.tmp 8), 0, false⟩,⟨some 72, none, .ld1 (some 8) (.tmp 71), 0, false⟩,⟨some 73, none, .buildS 1 [(.val (.int .i64 0))] [(0, 1, (.con (.val (.int .i64 (-1)))))], 0, false⟩,⟨some 74, none, .app 1 8 (.tmp 72) (.tmp 73), 0, false⟩,⟨some 75, none, .fldA 0 (.tmp 8), 0, false⟩,⟨none, none, .st (some 8) 1 (.tmp 75) (.tmp 74), 0, false⟩])
 (.exit 3))
 .skip))
 (.seq (.regN [1, 2, 5, 6, 7, 8, 9, 12, 56, 57, 58] [
 ⟨some 77, none, .mv (.tmp 7), 0, false⟩,⟨some 78, none, .mv (.tmp 5), 0, false⟩,⟨some 79, none, .mv (.tmp 12), 0, false⟩,⟨some 80, none, .ixA 1 (.tmp 78) (.tmp 79), 0, false⟩,⟨some 81, none, .ld1 none (.tmp 80), 0, false⟩,⟨some 82, none, .mlk false [1] (.val (.int .i64 0)) true (.tmp 77) (.tmp 81), 0, false⟩,⟨some 76, none, .mv (.tmp 82), 0, false⟩,⟨some 83, none, .ext (.tmp 76) 0, 0, false⟩,⟨some 84, none, .ext (.tmp 76) 1, 0, false⟩,⟨some 13, none, .mv (.tmp 83), 0, false⟩,⟨some 14, none, .mv (.tmp 84), 0, false⟩])
 (.seq (.seq (.regN [1, 2, 5, 6, 7, 8, 9, 12, 13, 14, 56, 57, 58] [
 ⟨some 85, none, .mv (.tmp 14), 0, false⟩,⟨some 86, none, .not (.tmp 85), 0, false⟩])
 (.cond (.tmp 86)
 (.seq (.regN [1, 2, 5, 6, 7, 8, 9, 12, 56, 57, 58] [
 ⟨some 87, none, .mv (.tmp 6), 0, false⟩,⟨some 88, none, .len false (.tmp 87), 0, false⟩,⟨some 13, none, .mv (.tmp 88), 0, false⟩])
 (.seq (.regN [1, 2, 5, 6, 7, 8, 9, 12, 13, 56, 57, 58] [
 ⟨some 89, none, .mv (.tmp 7), 0, false⟩,⟨some 90, none, .mv (.tmp 5), 0, false⟩,⟨some 91, none, .mv (.tmp 12), 0, false⟩,⟨some 92, none, .ixA 1 (.tmp 90) (.tmp 91), 0, false⟩,⟨some 93, none, .ld1 none (.tmp 92), 0, false⟩,⟨some 94, none, .mv (.tmp 13), 0, false⟩,⟨none, none, .mup false [1] (.tmp 89) (.tmp 93) (.tmp 94), 0, false⟩])
 (.regN [1, 2, 5, 6, 7, 8, 9, 12, 13, 56, 57, 58] [
 ⟨some 95, none, .mv (.tmp 6), 0, false⟩,⟨some 96, none, .mv (.tmp 12), 0, false⟩,⟨some 97, none, .buildS 1 [(.val (.int .i64 0))] [(0, 1, (.tmp 96))], 0, false⟩,⟨some 98, none, .app 1 8 (.tmp 95) (.tmp 97), 0, false⟩,⟨some 6, none, .mv (.tmp 98), 0, false⟩])))
 .skip))
 (.regN [1, 2, 5, 6, 7, 8, 9, 13, 56, 57, 58] [
 ⟨some 99, none, .fldA 0 (.tmp 8), 0, false⟩,⟨some 100, none, .ld1 (some 8) (.tmp 99), 0, false⟩,⟨some 101, none, .mv (.tmp 13), 0, false⟩,⟨some 102, none, .buildS 1 [(.val (.int .i64 0))] [(0, 1, (.tmp 101))], 0, false⟩,⟨some 103, none, .app 1 8 (.tmp 100) (.tmp 102), 0, false⟩,⟨some 104, none, .fldA 0 (.tmp 8), 0, false⟩,⟨none, none, .st (some 8) 1 (.tmp 104) (.tmp 103), 0, false⟩]))))))
 (.regN [1, 2, 5, 6, 7, 8, 9, 56, 57, 58] [
 ⟨some 105, none, .bini .add (.tmp 58) (.con (.val (.int .i64 1))), 0, false⟩,⟨some 58, none, .mv (.tmp 105), 0, false⟩]))))
def t12L2 : AC := (.seq (.seq (.regN [1, 2, 5, 6, 7, 8, 9] [
 ⟨some 29, none, .mv (.tmp 9), 0, false⟩,⟨some 30, none, .mv (.tmp 6), 0, false⟩,⟨some 31, none, .len false (.tmp 30), 0, false⟩,⟨some 32, none, .bini .lss (.tmp 29) (.tmp 31), 0, false⟩])
 (.cond (.tmp 32)
 .skip
 (.exit 0)))
 (.seq (.block 1
 (.seq (.regN [1, 2, 5, 6, 7, 8, 9] [
 ⟨some 35, none, .mv (.tmp 6), 0, false⟩,⟨some 36, none, .mv (.tmp 9), 0, false⟩,⟨some 37, none, .ixA 1 (.tmp 35) (.tmp 36), 0, false⟩,⟨some 38, none, .ld1 none (.tmp 37), 0, false⟩,⟨some 10, none, .mv (.tmp 38), 0, false⟩])
 (.seq (.regD [1, 2, 5, 6, 7, 8, 9, 10] 0 [
 ⟨some 39, none, .fldA 1 (.tmp 8), 0, false⟩,⟨some 40, none, .ld1 (some 8) (.tmp 39), 0, false⟩,⟨some 41, none, .fldA 1 (.tmp 1), 0, false⟩,⟨some 42, none, .ld1 (some 1) (.tmp 41), 0, false⟩,⟨some 43, none, .mv (.tmp 10), 0, false⟩,⟨some 44, none, .ixA 1 (.tmp 42) (.tmp 43), 0, false⟩,⟨some 45, none, .ld1 none (.tmp 44), 0, false⟩,⟨some 46, none, .buildS 1 [(.val (.int .i64 0))] [(0, 1, (.tmp 45))], 0, false⟩,⟨some 47, none, .app 1 8 (.tmp 40) (.tmp 46), 0, false⟩,⟨some 48, none, .fldA 1 (.tmp 8), 0, false⟩,⟨none, none, .st (some 8) 1 (.tmp 48) (.tmp 47), 0, false⟩])
 (.seq (.regN [1, 2, 5, 6, 7, 8, 9, 10] [
 ⟨some 49, none, .fldA 0 (.tmp 1), 0, false⟩,⟨some 50, none, .ld1 (some 1) (.tmp 49), 0, false⟩,⟨some 51, none, .mv (.tmp 10), 0, false⟩,⟨some 52, none, .bini .mul (.con (.val (.int .i64 256))) (.tmp 51), 0, false⟩,⟨some 53, none, .mv (.tmp 10), 0, false⟩,⟨some 54, none, .bini .add (.tmp 53) (.con (.val (.int .i64 1))), 0, false⟩,⟨some 55, none, .bini .mul (.con (.val (.int .i64 256))) (.tmp 54), 0, false⟩,⟨some 56, none, .slC 1 (.tmp 50) (some (.tmp 52)) (some (.tmp 55)), 0, false⟩,⟨some 57, none, .len false (.tmp 56), 0, false⟩,⟨some 58, none, .mv (.con (.val (.int .i64 0))), 0, false⟩])
 (.block 2
 (.loop [1, 2, 5, 6, 7, 8, 9, 56, 57, 58] t12L1))))))
 (.regN [1, 2, 5, 6, 7, 8, 9] [
 ⟨some 33, none, .mv (.tmp 9), 0, false⟩,⟨some 34, none, .bini .add (.tmp 33) (.con (.val (.int .i64 1))), 0, false⟩,⟨some 9, none, .mv (.tmp 34), 0, false⟩])))
def t12B : AC := (.seq (.regN [0] [
 ⟨some 1, none, .boxR 2 (.tmp 0), 0, false⟩,⟨some 2, none, .allocR [.e0, .e0], 0, false⟩,⟨some 3, none, .mv (.con (.val (.int .i64 0))), 0, false⟩])
 (.seq (.seq (.regN [1, 2] [
 ⟨some 15, none, .ldA (some 1) 2 (.tmp 1), 0, false⟩,⟨some 16, none, .call 27 [(.tmp 15)], 0, false⟩,⟨some 4, none, .mv (.tmp 16), 0, false⟩])
 (.seq (.regN [1, 2, 4] [
 ⟨some 17, none, .mv (.tmp 4), 0, false⟩,⟨some 18, none, .bini .neq (.tmp 17) (.con (.val (.int .i64 0))), 0, false⟩])
 (.cond (.tmp 18)
 (.seq (.regN [2, 4] [
 ⟨some 19, none, .build [.e0, .e0] [], 0, false⟩,⟨some 20, none, .mv (.tmp 4), 0, false⟩,⟨none, none, .st (some 2) 2 (.tmp 2) (.tmp 19), 0, false⟩,⟨some 3, none, .mv (.tmp 20), 0, false⟩])
 .ret)
 .skip)))
 (.seq (.regN [1, 2] [
 ⟨some 21, none, .ldA (some 1) 2 (.tmp 1), 0, false⟩,⟨some 22, none, .call 28 [(.tmp 21)], 0, false⟩,⟨some 5, none, .mv (.tmp 22), 0, false⟩])
 (.seq (.regD [1, 2, 5] 2 [
 ⟨some 23, none, .buildH 1 1 [(.val (.int .i64 0))] [(0, 1, (.con (.val (.int .i64 0))))], 0, false⟩,⟨some 24, none, .mkm, 1, false⟩,⟨some 25, none, .mv (.tmp 5), 0, false⟩,⟨some 26, none, .ixA 1 (.tmp 25) (.con (.val (.int .i64 0))), 0, false⟩,⟨some 27, none, .ld1 none (.tmp 26), 0, false⟩,⟨none, none, .mup false [1] (.tmp 24) (.tmp 27) (.con (.val (.int .i64 0))), 0, false⟩,⟨some 28, none, .mv (.tmp 24), 0, false⟩,⟨some 6, none, .mv (.tmp 23), 0, false⟩,⟨some 7, none, .mv (.tmp 28), 0, false⟩])
 (.seq (.regN [1, 2, 5, 6, 7] [
 ⟨some 8, none, .allocR [.e0, .e0], 0, false⟩])
 (.seq (.seq (.regN [1, 2, 5, 6, 7, 8] [
 ⟨some 9, none, .mv (.con (.val (.int .i64 0))), 0, false⟩])
 (.block 0
 (.loop [1, 2, 5, 6, 7, 8, 9] t12L2)))
 (.seq (.regN [2, 8] [
 ⟨some 106, none, .ldA (some 8) 2 (.tmp 8), 0, false⟩,⟨none, none, .st (some 2) 2 (.tmp 2) (.tmp 106), 0, false⟩,⟨some 3, none, .mv (.con (.val (.int .i64 0))), 0, false⟩])
 .ret)))))))
def t12 : AFn := ⟨1, t12B,
 [.cell 2 2 true, .tmp 3], true⟩
/-- viewport/dfa.Check  -/
def t27B : AC := (.seq (.regN [0] [
 ⟨some 1, none, .boxR 2 (.tmp 0), 0, false⟩,⟨some 2, none, .mv (.con (.val (.int .i64 0))), 0, false⟩])
 (.seq (.regN [1] [
 ⟨some 4, none, .fldA 1 (.tmp 1), 0, false⟩,⟨some 5, none, .ld1 (some 1) (.tmp 4), 0, false⟩,⟨some 6, none, .len false (.tmp 5), 0, false⟩,⟨some 3, none, .mv (.tmp 6), 0, false⟩])
 (.seq (.seq (.regN [1, 3] [
 ⟨some 7, none, .mv (.tmp 3), 0, false⟩,⟨some 8, none, .bini .lss (.tmp 7) (.con (.val (.int .i64 1))), 0, false⟩,⟨some 9, none, .mv (.tmp 8), 0, false⟩,⟨some 10, some (9, false), .mv (.tmp 3), 0, false⟩,⟨some 11, some (9, false), .bini .gtr (.tmp 10) (.con (.val (.int .i64 512))), 0, false⟩,⟨some 12, none, .pick (.tmp 9) (.con (.val (.bool true))) (.tmp 11), 0, false⟩,⟨some 13, none, .mv (.tmp 12), 0, false⟩,⟨some 14, some (13, false), .fldA 0 (.tmp 1), 0, false⟩,⟨some 15, some (13, false), .ld1 (some 1) (.tmp 14), 0, false⟩,⟨some 16, some (13, false), .len false (.tmp 15), 0, false⟩,⟨some 17, some (13, false), .mv (.tmp 3), 0, false⟩,⟨some 18, some (13, false), .bini .mul (.con (.val (.int .i64 256))) (.tmp 17), 0, false⟩,⟨some 19, some (13, false), .bini .neq (.tmp 16) (.tmp 18), 0, false⟩,⟨some 20, none, .pick (.tmp 13) (.con (.val (.bool true))) (.tmp 19), 0, false⟩])
 (.cond (.tmp 20)
 (.seq (.regN [] [
 ⟨some 2, none, .mv (.con (.val (.int .i64 2))), 0, false⟩])
 .ret)
 .skip))
 (.seq (.seq (.regN [1, 3] [
 ⟨some 21, none, .fldA 1 (.tmp 1), 0, false⟩,⟨some 22, none, .ld1 (some 1) (.tmp 21), 0, false⟩,⟨some 23, none, .call 43 [(.tmp 22)], 0, false⟩,⟨some 24, none, .bini .lss (.tmp 23) (.con (.val (.int .i64 (-1)))), 0, false⟩,⟨some 25, none, .mv (.tmp 24), 0, false⟩,⟨some 26, some (25, false), .fldA 1 (.tmp 1), 0, false⟩,⟨some 27, some (25, false), .ld1 (some 1) (.tmp 26), 0, false⟩,⟨some 28, some (25, false), .call 44 [(.tmp 27)], 0, false⟩,⟨some 29, some (25, false), .bini .geq (.tmp 28) (.con (.val (.int .i64 16))), 0, false⟩,⟨some 30, none, .pick (.tmp 25) (.con (.val (.bool true))) (.tmp 29), 0, false⟩,⟨some 31, none, .mv (.tmp 30), 0, false⟩,⟨some 32, some (31, false), .fldA 0 (.tmp 1), 0, false⟩,⟨some 33, some (31, false), .ld1 (some 1) (.tmp 32), 0, false⟩,⟨some 34, some (31, false), .call 43 [(.tmp 33)], 0, false⟩,⟨some 35, some (31, false), .bini .lss (.tmp 34) (.con (.val (.int .i64 (-1)))), 0, false⟩,⟨some 36, none, .pick (.tmp 31) (.con (.val (.bool true))) (.tmp 35), 0, false⟩,⟨some 37, none, .mv (.tmp 36), 0, false⟩,⟨some 38, some (37, false), .fldA 0 (.tmp 1), 0, false⟩,⟨some 39, some (37, false), .ld1 (some 1) (.tmp 38), 0, false⟩,⟨some 40, some (37, false), .call 44 [(.tmp 39)], 0, false⟩,⟨some 41, some (37, false), .mv (.tmp 3), 0, false⟩,⟨some 42, some (37, false), .bini .geq (.tmp 40) (.tmp 41), 0, false⟩,⟨some 43, none, .pick (.tmp 37) (.con (.val (.bool true))) (.tmp 42), 0, false⟩])
 (.cond (.tmp 43)
 (.seq (.regN [] [
 ⟨some 2, none, .mv (.con (.val (.int .i64 2))), 0, false⟩])
 .ret)
 .skip))
 (.seq (.regN [] [
 ⟨some 2, none, .mv (.con (.val (.int .i64 0))), 0, false⟩])
 .ret)))))
def t27 : AFn := ⟨1, t27B,
 [.tmp 2], true⟩
/-- slices.Min[[]int,int] BAD -/
def t43L1 : AC := (.seq (.seq (.regN [0, 3, 4] [
 ⟨some 12, none, .mv (.tmp 4), 0, false⟩,⟨some 13, none, .mv (.tmp 0), 0, false⟩,⟨some 14, none, .len false (.tmp 13), 0, false⟩,⟨some 15, none, .bini .lss (.tmp 12) (.tmp 14), 0, false⟩])
 (.cond (.tmp 15)
 .skip
 (.exit 0)))
 (.seq (.block 1
 (.regN [0, 3, 4] [
 ⟨some 18, none, .mv (.tmp 3), 0, false⟩,⟨some 19, none, .mv (.tmp 0), 0, false⟩,⟨some 20, none, .mv (.tmp 4), 0, false⟩,⟨some 21, none, .ixA 1 (.tmp 19) (.tmp 20), 0, false⟩,⟨some 22, none, .ld1 none (.tmp 21), 0, false⟩,⟨some 23, none, .mm false [(.tmp 18), (.tmp 22)], 0, false⟩,⟨some 3, none, .mv (.tmp 23), 0, false⟩]))
 (.regN [0, 3, 4] [
 ⟨some 16, none, .mv (.tmp 4), 0, false⟩,⟨some 17, none, .bini .add (.tmp 16) (.con (.val (.int .i64 1))), 0, false⟩,⟨some 4, none, .mv (.tmp 17), 0, false⟩])))
def t43B : AC := (.seq (.regN [0] [
 ⟨some 2, none, .mv (.con (.val (.int .i64 0))), 0, false⟩])
 (.seq (.seq (.regN [0] [
 ⟨some 5, none, .mv (.tmp 0), 0, false⟩,⟨some 6, none, .len false (.tmp 5), 0, false⟩,⟨some 7, none, .bini .lss (.tmp 6) (.con (.val (.int .i64 1))), 0, false⟩])
 (.cond (.tmp 7)
 (.regN [0] [
 ⟨some 8, none, .bad, 0, false⟩,⟨none, none, .bad, 0, false⟩])
 .skip))
 (.seq (.regN [0] [
 ⟨some 9, none, .mv (.tmp 0), 0, false⟩,⟨some 10, none, .ixA 1 (.tmp 9) (.con (.val (.int .i64 0))), 0, false⟩,⟨some 11, none, .ld1 none (.tmp 10), 0, false⟩,⟨some 3, none, .mv (.tmp 11), 0, false⟩])
 (.seq (.seq (.regN [0, 3] [
 ⟨some 4, none, .mv (.con (.val (.int .i64 1))), 0, false⟩])
 (.block 0
 (.loop [0, 3, 4] t43L1)))
 (.seq (.regN [3] [
 ⟨some 24, none, .mv (.tmp 3), 0, false⟩,⟨some 2, none, .mv (.tmp 24), 0, false⟩])
 .ret)))))
def t43 : AFn := ⟨1, t43B,
 [.tmp 2], true⟩
/-- slices.Max[[]int,int] BAD -/
def t44L1 : AC := (.seq (.seq (.regN [0, 3, 4] [
 ⟨some 12, none, .mv (.tmp 4), 0, false⟩,⟨some 13, none, .mv (.tmp 0), 0, false⟩,⟨some 14, none, .len false (.tmp 13), 0, false⟩,⟨some 15, none, .bini .lss (.tmp 12) (.tmp 14), 0, false⟩])
 (.cond (.tmp 15)
 .skip
 (.exit 0)))
 (.seq (.block 1
 (.regN [0, 3, 4] [
 ⟨some 18, none, .mv (.tmp 3), 0, false⟩,⟨some 19, none, .mv (.tmp 0), 0, false⟩,⟨some 20, none, .mv (.tmp 4), 0, false⟩,⟨some 21, none, .ixA 1 (.tmp 19) (.tmp 20), 0, false⟩,⟨some 22, none, .ld1 none (.tmp 21), 0, false⟩,⟨some 23, none, .mm true [(.tmp 18), (.tmp 22)], 0, false⟩,⟨some 3, none, .mv (.tmp 23), 0, false⟩]))
 (.regN [0, 3, 4] [
 ⟨some 16, none, .mv (.tmp 4), 0, false⟩,⟨some 17, none, .bini .add (.tmp 16) (.con (.val (.int .i64 1))), 0, false⟩,⟨some 4, none, .mv (.tmp 17), 0, false⟩])))
def t44B : AC := (.seq (.regN [0] [
 ⟨some 2, none, .mv (.con (.val (.int .i64 0))), 0, false⟩])
 (.seq (.seq (.regN [0] [
 ⟨some 5, none, .mv (.tmp 0), 0, false⟩,⟨some 6, none, .len false (.tmp 5), 0, false⟩,⟨some 7, none, .bini .lss (.tmp 6) (.con (.val (.int .i64 1))), 0, false⟩])
 (.cond (.tmp 7)
 (.regN [0] [
 ⟨some 8, none, .bad, 0, false⟩,⟨none, none, .bad, 0, false⟩])
 .skip))
 (.seq (.regN [0] [
 ⟨some 9, none, .mv (.tmp 0), 0, false⟩,⟨some 10, none, .ixA 1 (.tmp 9) (.con (.val (.int .i64 0))), 0, false⟩,⟨some 11, none, .ld1 none (.tmp 10), 0, false⟩,⟨some 3, none, .mv (.tmp 11), 0, false⟩])
 (.seq (.seq (.regN [0, 3] [
 ⟨some 4, none, .mv (.con (.val (.int .i64 1))), 0, false⟩])
 (.block 0
 (.loop [0, 3, 4] t44L1)))
 (.seq (.regN [3] [
 ⟨some 24, none, .mv (.tmp 3), 0, false⟩,⟨some 2, none, .mv (.tmp 24), 0, false⟩])
 .ret)))))
def t44 : AFn := ⟨1, t44B,
 [.tmp 2], true⟩
end Go.Proofs.Ytdbbaopgmapmaaa
