/- The functions of a program, compiled: printed by wip/hm/tools/Gen.lean. -/
import Derived.Test.YtpaocofhpdmjpaaHmG10
import Derived.Test.YtpaocofhpdmjpaaHmG12
import Derived.Test.YtpaocofhpdmjpaaRw
import Derived.Test.YtpaocofhpdmjpaaRg
import Derived.Test.YtpaocofhpdmjpaaRows
namespace Go.Proofs.Ytpaocofhpdmjpaa
open Go Go.Hm
def kx (d : Nat) (o : AOp) : AI := ⟨some d, none, o, 0, false⟩
def ux (n : Nat) : AO := .tmp n
/-- viewport/viewportlaw12.FirstCats  -/
def t3L1 : AC := (.seq (.seq (.regN [0, 1, 2, 3, 11, 12] [
 ⟨some 74, none, .mv (.tmp 12), 0, false⟩,⟨some 75, none, .mv (.tmp 11), 0, false⟩,⟨some 76, none, .len false (.tmp 75), 0, false⟩,⟨some 77, none, .bini .lss (.tmp 74) (.tmp 76), 0, false⟩])
 (.cond (.tmp 77)
 .skip
 (.exit 0)))
 (.seq (.block 1
 (.seq (.regD [0, 1, 2, 3, 11, 12] 0 [
 ⟨some 80, none, .mv (.tmp 11), 0, false⟩,⟨some 81, none, .mv (.tmp 12), 0, false⟩,⟨some 82, none, .ixA 1 (.tmp 80) (.tmp 81), 0, false⟩,⟨some 83, none, .ld1 none (.tmp 82), 0, false⟩,⟨some 84, none, .len true (.tmp 83), 0, false⟩,⟨some 85, none, .mv (.tmp 3), 0, false⟩,⟨some 86, none, .bini .gtr (.tmp 84) (.tmp 85), 0, false⟩,⟨some 87, none, .mv (.tmp 86), 0, false⟩,⟨some 88, some (87, false), .mv (.tmp 12), 0, false⟩,⟨some 89, some (87, false), .bini .gtr (.tmp 88) (.con (.val (.int .i64 0))), 0, false⟩,⟨some 90, some (87, false), .mv (.tmp 89), 0, false⟩,⟨some 91, some (90, true), .mv (.tmp 11), 0, false⟩,⟨some 92, some (90, true), .mv (.tmp 12), 0, false⟩,⟨some 93, some (90, true), .bini .sub (.tmp 92) (.con (.val (.int .i64 1))), 0, false⟩,⟨some 94, some (90, true), .ixA 1 (.tmp 91) (.tmp 93), 0, false⟩,⟨some 95, some (90, true), .ld1 none (.tmp 94), 0, false⟩,⟨some 96, some (90, true), .mv (.tmp 11), 0, false⟩,⟨some 97, some (90, true), .mv (.tmp 12), 0, false⟩,⟨some 98, some (90, true), .ixA 1 (.tmp 96) (.tmp 97), 0, false⟩,⟨some 99, some (90, true), .ld1 none (.tmp 98), 0, false⟩,⟨some 100, some (90, true), .bins .geq (.tmp 95) (.tmp 99), 0, false⟩,⟨some 101, some (87, false), .pick (.tmp 90) (.tmp 100) (.con (.val (.bool false))), 0, false⟩,⟨some 102, none, .pick (.tmp 87) (.con (.val (.bool true))) (.tmp 101), 0, false⟩])
 (.cond (.tmp 102)
 (.seq (.regN [] [
 ⟨some 8, none, .mv (.con (.val (.bool false))), 0, false⟩])
 .ret)
 .skip)))
 (.regN [0, 1, 2, 3, 11, 12] [
 ⟨some 78, none, .mv (.tmp 12), 0, false⟩,⟨some 79, none, .bini .add (.tmp 78) (.con (.val (.int .i64 1))), 0, false⟩,⟨some 12, none, .mv (.tmp 79), 0, false⟩])))
def t3L2 : AC := (.seq (.seq (.regN [0, 1, 2, 3, 11, 13] [
 ⟨some 103, none, .mv (.tmp 13), 0, false⟩,⟨some 104, none, .mv (.tmp 0), 0, false⟩,⟨some 105, none, .len false (.tmp 104), 0, false⟩,⟨some 106, none, .bini .lss (.tmp 103) (.tmp 105), 0, false⟩])
 (.cond (.tmp 106)
 .skip
 (.exit 2)))
 (.seq (.block 3
 (.seq (.regD [0, 1, 2, 3, 11, 13] 0 [
 ⟨some 109, none, .mv (.tmp 11), 0, false⟩,⟨some 110, none, .mv (.tmp 0), 0, false⟩,⟨some 111, none, .mv (.tmp 13), 0, false⟩,⟨some 112, none, .ixA 1 (.tmp 110) (.tmp 111), 0, false⟩,⟨some 113, none, .ld1 none (.tmp 112), 0, false⟩,⟨some 114, none, .mv (.tmp 3), 0, false⟩,⟨some 115, none, .mv (.tmp 0), 0, false⟩,⟨some 116, none, .mv (.tmp 13), 0, false⟩,⟨some 117, none, .ixA 1 (.tmp 115) (.tmp 116), 0, false⟩,⟨some 118, none, .ld1 none (.tmp 117), 0, false⟩,⟨some 119, none, .len true (.tmp 118), 0, false⟩,⟨some 120, none, .mm false [(.tmp 114), (.tmp 119)], 0, false⟩,⟨some 121, none, .slS (.tmp 113) none (some (.tmp 120)), 0, false⟩,⟨some 122, none, .call 14 [(.tmp 109), (.tmp 121)], 0, true⟩,⟨some 123, none, .not (.tmp 122), 0, false⟩])
 (.cond (.tmp 123)
 (.seq (.regN [] [
 ⟨some 8, none, .mv (.con (.val (.bool false))), 0, false⟩])
 .ret)
 .skip)))
 (.regN [0, 1, 2, 3, 11, 13] [
 ⟨some 107, none, .mv (.tmp 13), 0, false⟩,⟨some 108, none, .bini .add (.tmp 107) (.con (.val (.int .i64 1))), 0, false⟩,⟨some 13, none, .mv (.tmp 108), 0, false⟩])))
def t3B : AC := (.seq (.regN [0, 1, 2, 3] [
 ⟨some 8, none, .mv (.con (.val (.bool false))), 0, false⟩])
 (.seq (.seq (.regN [0, 1, 2, 3] [
 ⟨some 14, none, .call 10 [], 0, false⟩,⟨some 15, none, .not (.tmp 14), 0, false⟩])
 (.cond (.tmp 15)
 (.seq (.regN [] [
 ⟨some 8, none, .mv (.con (.val (.bool false))), 0, false⟩])
 .ret)
 .skip))
 (.seq (.seq (.regN [0, 1, 2, 3] [
 ⟨some 16, none, .mv (.tmp 0), 0, false⟩,⟨some 17, none, .call 11 [(.tmp 16)], 0, false⟩,⟨some 18, none, .not (.tmp 17), 0, false⟩,⟨some 19, none, .mv (.tmp 18), 0, false⟩,⟨some 20, some (19, false), .mv (.tmp 1), 0, false⟩,⟨some 21, some (19, false), .call 11 [(.tmp 20)], 0, false⟩,⟨some 22, some (19, false), .not (.tmp 21), 0, false⟩,⟨some 23, none, .pick (.tmp 19) (.con (.val (.bool true))) (.tmp 22), 0, false⟩,⟨some 24, none, .mv (.tmp 23), 0, false⟩,⟨some 25, some (24, false), .mv (.tmp 2), 0, false⟩,⟨some 26, some (24, false), .call 11 [(.tmp 25)], 0, false⟩,⟨some 27, some (24, false), .not (.tmp 26), 0, false⟩,⟨some 28, none, .pick (.tmp 24) (.con (.val (.bool true))) (.tmp 27), 0, false⟩,⟨some 29, none, .mv (.tmp 28), 0, false⟩,⟨some 30, some (29, false), .mv (.tmp 3), 0, false⟩,⟨some 31, some (29, false), .bini .lss (.tmp 30) (.con (.val (.int .i64 1))), 0, false⟩,⟨some 32, none, .pick (.tmp 29) (.con (.val (.bool true))) (.tmp 31), 0, false⟩,⟨some 33, none, .mv (.tmp 32), 0, false⟩,⟨some 34, some (33, false), .mv (.tmp 3), 0, false⟩,⟨some 35, some (33, false), .bini .gtr (.tmp 34) (.con (.val (.int .i64 4))), 0, false⟩,⟨some 36, none, .pick (.tmp 33) (.con (.val (.bool true))) (.tmp 35), 0, false⟩])
 (.cond (.tmp 36)
 (.seq (.regN [] [
 ⟨some 8, none, .mv (.con (.val (.bool true))), 0, false⟩])
 .ret)
 .skip))
 (.seq (.regN [0, 1, 2, 3] [
 ⟨some 37, none, .mv (.tmp 3), 0, false⟩,⟨some 38, none, .mv (.tmp 3), 0, false⟩,⟨some 39, none, .mv (.tmp 0), 0, false⟩,⟨some 40, none, .mv (.tmp 1), 0, false⟩,⟨some 41, none, .call 12 [(.tmp 38), (.tmp 39), (.tmp 40)], 0, false⟩,⟨some 42, none, .mv (.tmp 2), 0, false⟩,⟨some 43, none, .call 12 [(.tmp 37), (.tmp 41), (.tmp 42)], 0, false⟩,⟨some 9, none, .mv (.tmp 43), 0, false⟩])
 (.seq (.regN [0, 1, 2, 3, 9] [
 ⟨some 44, none, .mv (.tmp 3), 0, false⟩,⟨some 45, none, .mv (.tmp 0), 0, false⟩,⟨some 46, none, .mv (.tmp 3), 0, false⟩,⟨some 47, none, .mv (.tmp 1), 0, false⟩,⟨some 48, none, .mv (.tmp 2), 0, false⟩,⟨some 49, none, .call 12 [(.tmp 46), (.tmp 47), (.tmp 48)], 0, false⟩,⟨some 50, none, .call 12 [(.tmp 44), (.tmp 45), (.tmp 49)], 0, false⟩,⟨some 10, none, .mv (.tmp 50), 0, false⟩])
 (.seq (.seq (.regN [0, 1, 2, 3, 9, 10] [
 ⟨some 51, none, .mv (.tmp 0), 0, false⟩,⟨some 52, none, .len false (.tmp 51), 0, false⟩,⟨some 53, none, .bini .gtr (.tmp 52) (.con (.val (.int .i64 0))), 0, false⟩,⟨some 54, none, .mv (.tmp 53), 0, false⟩,⟨some 55, some (54, true), .mv (.tmp 1), 0, false⟩,⟨some 56, some (54, true), .len false (.tmp 55), 0, false⟩,⟨some 57, some (54, true), .bini .gtr (.tmp 56) (.con (.val (.int .i64 0))), 0, false⟩,⟨some 58, none, .pick (.tmp 54) (.tmp 57) (.con (.val (.bool false))), 0, false⟩,⟨some 59, none, .mv (.tmp 58), 0, false⟩,⟨some 60, some (59, true), .mv (.tmp 2), 0, false⟩,⟨some 61, some (59, true), .len false (.tmp 60), 0, false⟩,⟨some 62, some (59, true), .bini .gtr (.tmp 61) (.con (.val (.int .i64 0))), 0, false⟩,⟨some 63, none, .pick (.tmp 59) (.tmp 62) (.con (.val (.bool false))), 0, false⟩,⟨some 64, none, .mv (.tmp 63), 0, false⟩,⟨some 65, some (64, true), .mv (.tmp 9), 0, false⟩,⟨some 66, some (64, true), .mv (.tmp 10), 0, false⟩,⟨some 67, some (64, true), .call 13 [(.tmp 65), (.tmp 66)], 0, false⟩,⟨some 68, some (64, true), .not (.tmp 67), 0, false⟩,⟨some 69, none, .pick (.tmp 64) (.tmp 68) (.con (.val (.bool false))), 0, false⟩])
 (.cond (.tmp 69)
 (.seq (.regN [] [
 ⟨some 8, none, .mv (.con (.val (.bool false))), 0, false⟩])
 .ret)
 .skip))
 (.seq (.regN [0, 1, 2, 3] [
 ⟨some 70, none, .mv (.tmp 3), 0, false⟩,⟨some 71, none, .mv (.tmp 0), 0, false⟩,⟨some 72, none, .buildS 1 [(.val (.string ⟨#[]⟩))] [(0, 1, (.con (.val (.string ⟨#[]⟩))))], 0, false⟩,⟨some 73, none, .call 12 [(.tmp 70), (.tmp 71), (.tmp 72)], 0, false⟩,⟨some 11, none, .mv (.tmp 73), 0, false⟩])
 (.seq (.seq (.regN [0, 1, 2, 3, 11] [
 ⟨some 12, none, .mv (.con (.val (.int .i64 0))), 0, false⟩])
 (.block 0
 (.loop [0, 1, 2, 3, 11, 12] t3L1)))
 (.seq (.seq (.regN [0, 1, 2, 3, 11] [
 ⟨some 13, none, .mv (.con (.val (.int .i64 0))), 0, false⟩])
 (.block 2
 (.loop [0, 1, 2, 3, 11, 13] t3L2)))
 (.seq (.regN [0, 1, 2, 3, 11] [
 ⟨some 124, none, .mv (.tmp 3), 0, false⟩,⟨some 125, none, .mv (.tmp 11), 0, false⟩,⟨some 126, none, .buildS 1 [(.val (.string ⟨#[]⟩))] [(0, 1, (.con (.val (.string ⟨#[]⟩))))], 0, false⟩,⟨some 127, none, .call 12 [(.tmp 124), (.tmp 125), (.tmp 126)], 0, false⟩,⟨some 128, none, .mv (.tmp 11), 0, false⟩,⟨some 129, none, .call 13 [(.tmp 127), (.tmp 128)], 0, false⟩,⟨some 130, none, .mv (.tmp 129), 0, false⟩,⟨some 131, some (130, true), .mv (.tmp 3), 0, false⟩,⟨some 132, some (130, true), .mv (.tmp 0), 0, false⟩,⟨some 133, some (130, true), .mv (.tmp 2), 0, false⟩,⟨some 134, some (130, true), .call 12 [(.tmp 131), (.tmp 132), (.tmp 133)], 0, false⟩,⟨some 135, some (130, true), .mv (.tmp 3), 0, false⟩,⟨some 136, some (130, true), .mv (.tmp 1), 0, false⟩,⟨some 137, some (130, true), .mv (.tmp 2), 0, false⟩,⟨some 138, some (130, true), .call 12 [(.tmp 135), (.tmp 136), (.tmp 137)], 0, false⟩,⟨some 139, some (130, true), .call 15 [(.tmp 134), (.tmp 138)], 0, false⟩,⟨some 140, some (130, true), .mv (.tmp 3), 0, false⟩,⟨some 141, some (130, true), .mv (.tmp 0), 0, false⟩,⟨some 142, some (130, true), .mv (.tmp 1), 0, false⟩,⟨some 143, some (130, true), .call 15 [(.tmp 141), (.tmp 142)], 0, false⟩,⟨some 144, some (130, true), .mv (.tmp 2), 0, false⟩,⟨some 145, some (130, true), .call 12 [(.tmp 140), (.tmp 143), (.tmp 144)], 0, false⟩,⟨some 146, some (130, true), .call 13 [(.tmp 139), (.tmp 145)], 0, false⟩,⟨some 147, none, .pick (.tmp 130) (.tmp 146) (.con (.val (.bool false))), 0, false⟩,⟨some 8, none, .mv (.tmp 147), 0, false⟩])
 .ret))))))))))
def t3 : AFn := ⟨4, t3B,
 [.tmp 8], true⟩
/-- viewport/viewportlaw12.lives  -/
def t10B : AC := (.seq (.regN [] [
 kx 0 (.mv (.con (.val (.bool false))))])
 (.seq (.regN [] [
 kx 1 (.call 27 []),kx 2 (.call 19 [(ux 1)]),kx 3 (.buildS 3 [(.val (.string ⟨#[]⟩)), (.val (.string ⟨#[]⟩)), (.val (.string ⟨#[]⟩))] [(0, 1, (.con (.val (.string ⟨#[]⟩)))), (1, 1, (.con (.val (.string ⟨#[0]⟩)))), (2, 1, (.con (.val (.string ⟨#[0, 0]⟩))))]),kx 4 (.buildS 1 [.e0] [(0, 1, (ux 3))]),kx 5 (.call 34 [(ux 2), (ux 4)]),kx 0 (.mv (ux 5))])
 .ret))
def t10 : AFn := ⟨0, t10B,
 [.tmp 0], true⟩
/-- viewport/viewportlaw12.example  -/
def t27B : AC := (.seq (.regN [] [
 kx 0 (.allocR [(.val (.int .i64 0)), (.val (.int .i64 0)), (.val (.int .i64 0)), .e0])])
 (.seq (.regN [0] [
 kx 1 (.buildS 2 [(.val (.int .i64 0)), (.val (.int .i64 0))] [(0, 1, (.con (.val (.int .i64 0)))), (1, 1, (.con (.val (.int .i64 1))))]),kx 2 (.build [(.val (.int .i64 0)), .e0] [(0, 1, (.con (.val (.int .i64 0)))), (1, 1, (ux 1))]),kx 3 (.build [(.val (.int .i64 0)), .e0] [(0, 1, (.con (.val (.int .i64 0))))]),kx 4 (.buildS 2 [(.val (.int .i64 0)), .e0, (.val (.int .i64 0)), .e0] [(0, 2, (ux 2)), (2, 2, (ux 3))]),kx 5 (.build [(.val (.int .i64 0)), (.val (.int .i64 0)), (.val (.int .i64 0)), .e0] [(0, 1, (.con (.val (.int .i64 1)))), (1, 1, (.con (.val (.int .i64 1)))), (2, 1, (.con (.val (.int .i64 2)))), (3, 1, (ux 4))]),⟨none, none, .st (some 0) 4 (ux 0) (ux 5), 0, false⟩])
 .ret))
def t27 : AFn := ⟨0, t27B,
 [.cell 0 4 true], true⟩
/-- viewport/first.Sets  -/
def t19L1 : AC := (.seq (.regN [1, 3, 4, 16, 17, 18] [
 ⟨some 19, none, .bini .lss (.tmp 18) (.tmp 17), 0, false⟩])
 (.seq (.cond (.tmp 19)
 .skip
 (.exit 2))
 (.seq (.block 3
 (.seq (.regN [1, 3, 4, 16, 17, 18] [
 ⟨some 20, none, .ixA 2 (.tmp 16) (.tmp 18), 0, false⟩,⟨some 21, none, .ldA none 2 (.tmp 20), 0, false⟩,⟨some 6, none, .allocR [(.val (.int .i64 0)), .e0], 0, false⟩,⟨none, none, .st (some 6) 2 (.tmp 6) (.tmp 21), 0, false⟩])
 (.seq (.regD [1, 3, 4, 6, 16, 17, 18] 0 [
 ⟨some 22, none, .mv (.tmp 3), 0, false⟩,⟨some 23, none, .fldA 0 (.tmp 6), 0, false⟩,⟨some 24, none, .ld1 (some 6) (.tmp 23), 0, false⟩,⟨some 25, none, .ixA 1 (.tmp 22) (.tmp 24), 0, false⟩,⟨some 26, none, .ld1 none (.tmp 25), 0, false⟩,⟨some 27, none, .ldA (some 1) 4 (.tmp 1), 0, false⟩,⟨some 28, none, .mv (.tmp 3), 0, false⟩,⟨some 29, none, .fldA 1 (.tmp 6), 0, false⟩,⟨some 30, none, .ld1 (some 6) (.tmp 29), 0, false⟩,⟨some 31, none, .call 45 [(.tmp 27), (.tmp 28), (.tmp 30)], 0, false⟩,⟨some 32, none, .call 15 [(.tmp 26), (.tmp 31)], 0, true⟩,⟨some 7, none, .mv (.tmp 32), 0, false⟩])
 (.seq (.regN [1, 3, 4, 6, 7, 16, 17, 18] [
 ⟨some 33, none, .mv (.tmp 4), 0, false⟩,⟨some 34, none, .mv (.tmp 33), 0, false⟩,⟨some 35, some (34, false), .mv (.tmp 7), 0, false⟩,⟨some 36, some (34, false), .len false (.tmp 35), 0, false⟩,⟨some 37, some (34, false), .mv (.tmp 3), 0, false⟩,⟨some 38, some (34, false), .fldA 0 (.tmp 6), 0, false⟩,⟨some 39, some (34, false), .ld1 (some 6) (.tmp 38), 0, false⟩,⟨some 40, some (34, false), .ixA 1 (.tmp 37) (.tmp 39), 0, false⟩,⟨some 41, some (34, false), .ld1 none (.tmp 40), 0, false⟩,⟨some 42, some (34, false), .len false (.tmp 41), 0, false⟩,⟨some 43, some (34, false), .bini .gtr (.tmp 36) (.tmp 42), 0, false⟩,⟨some 44, none, .pick (.tmp 34) (.con (.val (.bool true))) (.tmp 43), 0, false⟩,⟨some 4, none, .mv (.tmp 44), 0, false⟩])
 (.regN [1, 3, 4, 6, 7, 16, 17, 18] [
 ⟨some 45, none, .mv (.tmp 3), 0, false⟩,⟨some 46, none, .fldA 0 (.tmp 6), 0, false⟩,⟨some 47, none, .ld1 (some 6) (.tmp 46), 0, false⟩,⟨some 48, none, .mv (.tmp 7), 0, false⟩,⟨some 49, none, .ixA 1 (.tmp 45) (.tmp 47), 0, false⟩,⟨none, none, .st none 1 (.tmp 49) (.tmp 48), 0, false⟩])))))
 (.regN [1, 3, 4, 16, 17, 18] [
 ⟨some 50, none, .bini .add (.tmp 18) (.con (.val (.int .i64 1))), 0, false⟩,⟨some 18, none, .mv (.tmp 50), 0, false⟩]))))
def t19L2 : AC := (.seq (.seq (.regN [1, 3, 4] [
 ⟨some 14, none, .mv (.tmp 4), 0, false⟩])
 (.cond (.tmp 14)
 .skip
 (.exit 0)))
 (.block 1
 (.seq (.regN [1, 3] [
 ⟨some 4, none, .mv (.con (.val (.bool false))), 0, false⟩])
 (.seq (.regN [1, 3, 4] [
 ⟨some 15, none, .fldA 3 (.tmp 1), 0, false⟩,⟨some 16, none, .ld1 (some 1) (.tmp 15), 0, false⟩,⟨some 17, none, .len false (.tmp 16), 0, false⟩,⟨some 18, none, .mv (.con (.val (.int .i64 0))), 0, false⟩])
 (.block 2
 (.loop [1, 3, 4, 16, 17, 18] t19L1))))))
def t19B : AC := (.seq (.regN [0] [
 ⟨some 1, none, .boxR 4 (.tmp 0), 0, false⟩,⟨some 2, none, .mv (.con .e0), 0, false⟩])
 (.seq (.seq (.regN [1] [
 ⟨some 8, none, .ldA (some 1) 4 (.tmp 1), 0, false⟩,⟨some 9, none, .call 44 [(.tmp 8)], 0, false⟩,⟨some 10, none, .bini .neq (.tmp 9) (.con (.val (.int .i64 0))), 0, false⟩])
 (.cond (.tmp 10)
 (.seq (.regN [] [
 ⟨some 2, none, .mv (.con .e0), 0, false⟩])
 .ret)
 .skip))
 (.seq (.regN [1] [
 ⟨some 11, none, .fldA 1 (.tmp 1), 0, false⟩,⟨some 12, none, .ld1 (some 1) (.tmp 11), 0, false⟩,⟨some 13, none, .mks 1 24 [.e0] (.tmp 12), 0, false⟩,⟨some 3, none, .mv (.tmp 13), 0, false⟩])
 (.seq (.seq (.regN [1, 3] [
 ⟨some 4, none, .mv (.con (.val (.bool true))), 0, false⟩])
 (.block 0
 (.loop [1, 3, 4] t19L2)))
 (.seq (.regN [3] [
 ⟨some 51, none, .mv (.tmp 3), 0, false⟩,⟨some 2, none, .mv (.tmp 51), 0, false⟩])
 .ret)))))
def t19 : AFn := ⟨1, t19B,
 [.tmp 2], true⟩
/-- viewport/gram.Check  -/
def t44L1 : AC := (.seq (.regN [1, 39, 40, 41] [
 ⟨some 42, none, .bini .lss (.tmp 41) (.tmp 40), 0, false⟩])
 (.seq (.cond (.tmp 42)
 .skip
 (.exit 0))
 (.seq (.block 1
 (.seq (.regN [1, 39, 40, 41] [
 ⟨some 43, none, .ixA 2 (.tmp 39) (.tmp 41), 0, false⟩,⟨some 44, none, .ldA none 2 (.tmp 43), 0, false⟩,⟨some 4, none, .allocR [(.val (.int .i64 0)), .e0], 0, false⟩,⟨none, none, .st (some 4) 2 (.tmp 4) (.tmp 44), 0, false⟩])
 (.seq (.regN [1, 4, 39, 40, 41] [
 ⟨some 45, none, .fldA 0 (.tmp 4), 0, false⟩,⟨some 46, none, .ld1 (some 4) (.tmp 45), 0, false⟩,⟨some 47, none, .bini .lss (.tmp 46) (.con (.val (.int .i64 0))), 0, false⟩,⟨some 48, none, .mv (.tmp 47), 0, false⟩,⟨some 49, some (48, false), .fldA 0 (.tmp 4), 0, false⟩,⟨some 50, some (48, false), .ld1 (some 4) (.tmp 49), 0, false⟩,⟨some 51, some (48, false), .fldA 1 (.tmp 1), 0, false⟩,⟨some 52, some (48, false), .ld1 none (.tmp 51), 0, false⟩,⟨some 53, some (48, false), .bini .geq (.tmp 50) (.tmp 52), 0, false⟩,⟨some 54, none, .pick (.tmp 48) (.con (.val (.bool true))) (.tmp 53), 0, false⟩,⟨some 55, none, .mv (.tmp 54), 0, false⟩,⟨some 56, some (55, false), .fldA 1 (.tmp 4), 0, false⟩,⟨some 57, some (55, false), .ld1 (some 4) (.tmp 56), 0, false⟩,⟨some 58, some (55, false), .mkf 65 [(.tmp 1)], 0, false⟩,⟨some 59, some (55, false), .call 49 [(.tmp 57), (.tmp 58)], 0, false⟩,⟨some 60, none, .pick (.tmp 55) (.con (.val (.bool true))) (.tmp 59), 0, false⟩])
 (.cond (.tmp 60)
 (.seq (.regN [] [
 ⟨some 2, none, .mv (.con (.val (.int .i64 2))), 0, false⟩])
 .ret)
 .skip))))
 (.regN [1, 39, 40, 41] [
 ⟨some 61, none, .bini .add (.tmp 41) (.con (.val (.int .i64 1))), 0, false⟩,⟨some 41, none, .mv (.tmp 61), 0, false⟩]))))
def t44B : AC := (.seq (.regN [0] [
 ⟨some 1, none, .boxH 4 (.tmp 0), 0, false⟩,⟨some 2, none, .mv (.con (.val (.int .i64 0))), 0, false⟩])
 (.seq (.seq (.regN [1] [
 ⟨some 5, none, .fldA 0 (.tmp 1), 0, false⟩,⟨some 6, none, .ld1 none (.tmp 5), 0, false⟩,⟨some 7, none, .bini .gtr (.tmp 6) (.con (.val (.int .i64 8))), 0, false⟩,⟨some 8, none, .mv (.tmp 7), 0, false⟩,⟨some 9, some (8, false), .fldA 1 (.tmp 1), 0, false⟩,⟨some 10, some (8, false), .ld1 none (.tmp 9), 0, false⟩,⟨some 11, some (8, false), .bini .gtr (.tmp 10) (.con (.val (.int .i64 16))), 0, false⟩,⟨some 12, none, .pick (.tmp 8) (.con (.val (.bool true))) (.tmp 11), 0, false⟩,⟨some 13, none, .mv (.tmp 12), 0, false⟩,⟨some 14, some (13, false), .fldA 2 (.tmp 1), 0, false⟩,⟨some 15, some (13, false), .ld1 none (.tmp 14), 0, false⟩,⟨some 16, some (13, false), .bini .gtr (.tmp 15) (.con (.val (.int .i64 3))), 0, false⟩,⟨some 17, none, .pick (.tmp 13) (.con (.val (.bool true))) (.tmp 16), 0, false⟩,⟨some 18, none, .mv (.tmp 17), 0, false⟩,⟨some 19, some (18, false), .fldA 3 (.tmp 1), 0, false⟩,⟨some 20, some (18, false), .ld1 none (.tmp 19), 0, false⟩,⟨some 21, some (18, false), .len false (.tmp 20), 0, false⟩,⟨some 22, some (18, false), .bini .gtr (.tmp 21) (.con (.val (.int .i64 64))), 0, false⟩,⟨some 23, none, .pick (.tmp 18) (.con (.val (.bool true))) (.tmp 22), 0, false⟩])
 (.cond (.tmp 23)
 (.seq (.regN [] [
 ⟨some 2, none, .mv (.con (.val (.int .i64 3))), 0, false⟩])
 .ret)
 .skip))
 (.seq (.seq (.regN [1] [
 ⟨some 24, none, .fldA 3 (.tmp 1), 0, false⟩,⟨some 25, none, .ld1 none (.tmp 24), 0, false⟩,⟨some 26, none, .call 63 [(.tmp 25), (.con (.fn 64 []))], 0, false⟩])
 (.cond (.tmp 26)
 (.seq (.regN [] [
 ⟨some 2, none, .mv (.con (.val (.int .i64 3))), 0, false⟩])
 .ret)
 .skip))
 (.seq (.seq (.regN [1] [
 ⟨some 27, none, .fldA 0 (.tmp 1), 0, false⟩,⟨some 28, none, .ld1 none (.tmp 27), 0, false⟩,⟨some 29, none, .fldA 1 (.tmp 1), 0, false⟩,⟨some 30, none, .ld1 none (.tmp 29), 0, false⟩,⟨some 31, none, .fldA 2 (.tmp 1), 0, false⟩,⟨some 32, none, .ld1 none (.tmp 31), 0, false⟩,⟨some 33, none, .fldA 3 (.tmp 1), 0, false⟩,⟨some 34, none, .ld1 none (.tmp 33), 0, false⟩,⟨some 35, none, .len false (.tmp 34), 0, false⟩,⟨some 36, none, .mm false [(.tmp 28), (.tmp 30), (.tmp 32), (.tmp 35)], 0, false⟩,⟨some 37, none, .bini .lss (.tmp 36) (.con (.val (.int .i64 1))), 0, false⟩])
 (.cond (.tmp 37)
 (.seq (.regN [] [
 ⟨some 2, none, .mv (.con (.val (.int .i64 2))), 0, false⟩])
 .ret)
 .skip))
 (.seq (.seq (.regN [1] [
 ⟨some 38, none, .fldA 3 (.tmp 1), 0, false⟩,⟨some 39, none, .ld1 none (.tmp 38), 0, false⟩,⟨some 40, none, .len false (.tmp 39), 0, false⟩,⟨some 41, none, .mv (.con (.val (.int .i64 0))), 0, false⟩])
 (.block 0
 (.loop [1, 39, 40, 41] t44L1)))
 (.seq (.regN [] [
 ⟨some 2, none, .mv (.con (.val (.int .i64 0))), 0, false⟩])
 .ret))))))
def t44 : AFn := ⟨1, t44B,
 [.tmp 2], true⟩
/-- slices.ContainsFunc[[]viewport/api.Prod,viewport/api.Prod]  -/
def t63B : AC := (.seq (.regN [0, 1] [
 ⟨some 4, none, .mv (.con (.val (.bool false))), 0, false⟩])
 (.seq (.regN [0, 1] [
 ⟨some 5, none, .mv (.tmp 0), 0, false⟩,⟨some 6, none, .mv (.tmp 1), 0, false⟩,⟨some 7, none, .call 71 [(.tmp 5), (.tmp 6)], 0, false⟩,⟨some 8, none, .bini .geq (.tmp 7) (.con (.val (.int .i64 0))), 0, false⟩,⟨some 4, none, .mv (.tmp 8), 0, false⟩])
 .ret))
def t63 : AFn := ⟨2, t63B,
 [.tmp 4], true⟩
/-- slices.IndexFunc[[]viewport/api.Prod,viewport/api.Prod]  -/
def t71L1 : AC := (.seq (.regN [0, 1, 7, 8] [
 ⟨some 9, none, .bini .lss (.tmp 8) (.tmp 7), 0, false⟩])
 (.seq (.cond (.tmp 9)
 .skip
 (.exit 0))
 (.seq (.block 1
 (.seq (.regN [0, 1, 7, 8] [
 ⟨some 10, none, .mv (.tmp 8), 0, false⟩,⟨some 5, none, .mv (.tmp 10), 0, false⟩])
 (.seq (.regN [0, 1, 5, 7, 8] [
 ⟨some 11, none, .mv (.tmp 1), 0, false⟩,⟨some 12, none, .mv (.tmp 0), 0, false⟩,⟨some 13, none, .mv (.tmp 5), 0, false⟩,⟨some 14, none, .ixA 2 (.tmp 12) (.tmp 13), 0, false⟩,⟨some 15, none, .ldA none 2 (.tmp 14), 0, false⟩,⟨some 16, none, .callv (.tmp 11) [(.tmp 15)], 0, false⟩])
 (.cond (.tmp 16)
 (.seq (.regN [5] [
 ⟨some 17, none, .mv (.tmp 5), 0, false⟩,⟨some 4, none, .mv (.tmp 17), 0, false⟩])
 .ret)
 .skip))))
 (.regN [0, 1, 7, 8] [
 ⟨some 18, none, .bini .add (.tmp 8) (.con (.val (.int .i64 1))), 0, false⟩,⟨some 8, none, .mv (.tmp 18), 0, false⟩]))))
def t71B : AC := (.seq (.regN [0, 1] [
 ⟨some 4, none, .mv (.con (.val (.int .i64 0))), 0, false⟩])
 (.seq (.seq (.regN [0, 1] [
 ⟨some 6, none, .mv (.tmp 0), 0, false⟩,⟨some 7, none, .len false (.tmp 6), 0, false⟩,⟨some 8, none, .mv (.con (.val (.int .i64 0))), 0, false⟩])
 (.block 0
 (.loop [0, 1, 7, 8] t71L1)))
 (.seq (.regN [] [
 ⟨some 4, none, .mv (.con (.val (.int .i64 (-1)))), 0, false⟩])
 .ret)))
def t71 : AFn := ⟨2, t71B,
 [.tmp 4], true⟩
/-- viewport/gram.Check$1  -/
def t64B : AC := (.seq (.regN [0] [
 ⟨some 1, none, .boxR 2 (.tmp 0), 0, false⟩,⟨some 2, none, .mv (.con (.val (.bool false))), 0, false⟩])
 (.seq (.regN [1] [
 ⟨some 3, none, .fldA 1 (.tmp 1), 0, false⟩,⟨some 4, none, .ld1 (some 1) (.tmp 3), 0, false⟩,⟨some 5, none, .len false (.tmp 4), 0, false⟩,⟨some 6, none, .bini .gtr (.tmp 5) (.con (.val (.int .i64 8))), 0, false⟩,⟨some 2, none, .mv (.tmp 6), 0, false⟩])
 .ret))
def t64 : AFn := ⟨1, t64B,
 [.tmp 2], true⟩
/-- viewport/gram.Check$2  -/
def t65B : AC := (.seq (.regN [0, 1] [
 ⟨some 3, none, .mv (.con (.val (.bool false))), 0, false⟩])
 (.seq (.regN [0, 1] [
 ⟨some 4, none, .mv (.tmp 0), 0, false⟩,⟨some 5, none, .bini .lss (.tmp 4) (.con (.val (.int .i64 0))), 0, false⟩,⟨some 6, none, .mv (.tmp 5), 0, false⟩,⟨some 7, some (6, false), .mv (.tmp 0), 0, false⟩,⟨some 8, some (6, false), .fldA 0 (.tmp 1), 0, false⟩,⟨some 9, some (6, false), .ld1 none (.tmp 8), 0, false⟩,⟨some 10, some (6, false), .fldA 1 (.tmp 1), 0, false⟩,⟨some 11, some (6, false), .ld1 none (.tmp 10), 0, false⟩,⟨some 12, some (6, false), .bini .add (.tmp 9) (.tmp 11), 0, false⟩,⟨some 13, some (6, false), .bini .geq (.tmp 7) (.tmp 12), 0, false⟩,⟨some 14, none, .pick (.tmp 6) (.con (.val (.bool true))) (.tmp 13), 0, false⟩,⟨some 3, none, .mv (.tmp 14), 0, false⟩])
 .ret))
def t65 : AFn := ⟨2, t65B,
 [.tmp 3], true⟩
/-- slices.ContainsFunc[[]int,int]  -/
def t49B : AC := (.seq (.regN [0, 1] [
 ⟨some 4, none, .mv (.con (.val (.bool false))), 0, false⟩])
 (.seq (.regN [0, 1] [
 ⟨some 5, none, .mv (.tmp 0), 0, false⟩,⟨some 6, none, .mv (.tmp 1), 0, false⟩,⟨some 7, none, .call 66 [(.tmp 5), (.tmp 6)], 0, false⟩,⟨some 8, none, .bini .geq (.tmp 7) (.con (.val (.int .i64 0))), 0, false⟩,⟨some 4, none, .mv (.tmp 8), 0, false⟩])
 .ret))
def t49 : AFn := ⟨2, t49B,
 [.tmp 4], true⟩
/-- slices.IndexFunc[[]int,int]  -/
def t66L1 : AC := (.seq (.regN [0, 1, 7, 8] [
 ⟨some 9, none, .bini .lss (.tmp 8) (.tmp 7), 0, false⟩])
 (.seq (.cond (.tmp 9)
 .skip
 (.exit 0))
 (.seq (.block 1
 (.seq (.regN [0, 1, 7, 8] [
 ⟨some 10, none, .mv (.tmp 8), 0, false⟩,⟨some 5, none, .mv (.tmp 10), 0, false⟩])
 (.seq (.regN [0, 1, 5, 7, 8] [
 ⟨some 11, none, .mv (.tmp 1), 0, false⟩,⟨some 12, none, .mv (.tmp 0), 0, false⟩,⟨some 13, none, .mv (.tmp 5), 0, false⟩,⟨some 14, none, .ixA 1 (.tmp 12) (.tmp 13), 0, false⟩,⟨some 15, none, .ld1 none (.tmp 14), 0, false⟩,⟨some 16, none, .callv (.tmp 11) [(.tmp 15)], 0, false⟩])
 (.cond (.tmp 16)
 (.seq (.regN [5] [
 ⟨some 17, none, .mv (.tmp 5), 0, false⟩,⟨some 4, none, .mv (.tmp 17), 0, false⟩])
 .ret)
 .skip))))
 (.regN [0, 1, 7, 8] [
 ⟨some 18, none, .bini .add (.tmp 8) (.con (.val (.int .i64 1))), 0, false⟩,⟨some 8, none, .mv (.tmp 18), 0, false⟩]))))
def t66B : AC := (.seq (.regN [0, 1] [
 ⟨some 4, none, .mv (.con (.val (.int .i64 0))), 0, false⟩])
 (.seq (.seq (.regN [0, 1] [
 ⟨some 6, none, .mv (.tmp 0), 0, false⟩,⟨some 7, none, .len false (.tmp 6), 0, false⟩,⟨some 8, none, .mv (.con (.val (.int .i64 0))), 0, false⟩])
 (.block 0
 (.loop [0, 1, 7, 8] t66L1)))
 (.seq (.regN [] [
 ⟨some 4, none, .mv (.con (.val (.int .i64 (-1)))), 0, false⟩])
 .ret)))
def t66 : AFn := ⟨2, t66B,
 [.tmp 4], true⟩
/-- viewport/first.of  -/
def t45L1 : AC := (.seq (.regN [1, 3, 7, 12, 13, 14] [
 ⟨some 15, none, .bini .lss (.tmp 14) (.tmp 13), 0, false⟩])
 (.seq (.cond (.tmp 15)
 .skip
 (.exit 0))
 (.seq (.block 1
 (.seq (.regN [1, 3, 7, 12, 13, 14] [
 ⟨some 16, none, .ixA 1 (.tmp 12) (.tmp 14), 0, false⟩,⟨some 17, none, .ld1 none (.tmp 16), 0, false⟩,⟨some 9, none, .mv (.tmp 17), 0, false⟩])
 (.seq (.regN [1, 3, 7, 9, 12, 13, 14] [
 ⟨some 18, none, .mv (.tmp 9), 0, false⟩,⟨some 19, none, .cvi .u8 (.tmp 18), 0, false⟩,⟨some 20, none, .buildS 1 [(.val (.int .u8 0))] [(0, 1, (.tmp 19))], 0, false⟩,⟨some 21, none, .b2s (.tmp 20), 0, false⟩,⟨some 22, none, .buildS 1 [(.val (.string ⟨#[]⟩))] [(0, 1, (.tmp 21))], 0, false⟩,⟨some 10, none, .mv (.tmp 22), 0, false⟩])
 (.seq (.seq (.regN [1, 3, 7, 9, 10, 12, 13, 14] [
 ⟨some 23, none, .mv (.tmp 9), 0, false⟩,⟨some 24, none, .fldA 0 (.tmp 3), 0, false⟩,⟨some 25, none, .ld1 (some 3) (.tmp 24), 0, false⟩,⟨some 26, none, .bini .geq (.tmp 23) (.tmp 25), 0, false⟩])
 (.cond (.tmp 26)
 (.regN [1, 3, 7, 9, 12, 13, 14] [
 ⟨some 27, none, .mv (.tmp 1), 0, false⟩,⟨some 28, none, .mv (.tmp 9), 0, false⟩,⟨some 29, none, .fldA 0 (.tmp 3), 0, false⟩,⟨some 30, none, .ld1 (some 3) (.tmp 29), 0, false⟩,⟨some 31, none, .bini .sub (.tmp 28) (.tmp 30), 0, false⟩,⟨some 32, none, .ixA 1 (.tmp 27) (.tmp 31), 0, false⟩,⟨some 33, none, .ld1 none (.tmp 32), 0, false⟩,⟨some 10, none, .mv (.tmp 33), 0, false⟩])
 .skip))
 (.regN [1, 3, 7, 10, 12, 13, 14] [
 ⟨some 34, none, .fldA 2 (.tmp 3), 0, false⟩,⟨some 35, none, .ld1 (some 3) (.tmp 34), 0, false⟩,⟨some 36, none, .mv (.tmp 7), 0, false⟩,⟨some 37, none, .mv (.tmp 10), 0, false⟩,⟨some 38, none, .call 12 [(.tmp 35), (.tmp 36), (.tmp 37)], 0, false⟩,⟨some 7, none, .mv (.tmp 38), 0, false⟩])))))
 (.regN [1, 3, 7, 12, 13, 14] [
 ⟨some 39, none, .bini .add (.tmp 14) (.con (.val (.int .i64 1))), 0, false⟩,⟨some 14, none, .mv (.tmp 39), 0, false⟩]))))
def t45B : AC := (.seq (.regN [0, 1, 2] [
 ⟨some 3, none, .boxR 4 (.tmp 0), 0, false⟩,⟨some 6, none, .mv (.con .e0), 0, false⟩])
 (.seq (.regN [1, 2, 3] [
 ⟨some 11, none, .buildS 1 [(.val (.string ⟨#[]⟩))] [(0, 1, (.con (.val (.string ⟨#[]⟩))))], 0, false⟩,⟨some 7, none, .mv (.tmp 11), 0, false⟩])
 (.seq (.seq (.regN [1, 2, 3, 7] [
 ⟨some 12, none, .mv (.tmp 2), 0, false⟩,⟨some 13, none, .len false (.tmp 12), 0, false⟩,⟨some 14, none, .mv (.con (.val (.int .i64 0))), 0, false⟩])
 (.block 0
 (.loop [1, 3, 7, 12, 13, 14] t45L1)))
 (.seq (.regN [7] [
 ⟨some 40, none, .mv (.tmp 7), 0, false⟩,⟨some 6, none, .mv (.tmp 40), 0, false⟩])
 .ret))))
def t45 : AFn := ⟨3, t45B,
 [.tmp 6], true⟩
/-- viewport/first.Cat  -/
def t12L1 : AC := (.seq (.regN [0, 2, 7, 9, 19, 20, 21, 37, 38, 39] [
 ⟨some 40, none, .bini .lss (.tmp 39) (.tmp 38), 0, false⟩])
 (.seq (.cond (.tmp 40)
 .skip
 (.exit 2))
 (.seq (.block 3
 (.seq (.regN [0, 2, 7, 9, 19, 20, 21, 37, 38, 39] [
 ⟨some 41, none, .ixA 1 (.tmp 37) (.tmp 39), 0, false⟩,⟨some 42, none, .ld1 none (.tmp 41), 0, false⟩,⟨some 11, none, .mv (.tmp 42), 0, false⟩])
 (.seq (.regN [0, 2, 7, 9, 11, 19, 20, 21, 37, 38, 39] [
 ⟨some 43, none, .mv (.tmp 9), 0, false⟩,⟨some 44, none, .mv (.tmp 11), 0, false⟩,⟨some 45, none, .bins .add (.tmp 43) (.tmp 44), 0, false⟩,⟨some 12, none, .mv (.tmp 45), 0, false⟩])
 (.regN [0, 2, 7, 9, 12, 19, 20, 21, 37, 38, 39] [
 ⟨some 46, none, .mv (.tmp 7), 0, false⟩,⟨some 47, none, .mv (.tmp 12), 0, false⟩,⟨some 48, none, .mv (.tmp 0), 0, false⟩,⟨some 49, none, .mv (.tmp 12), 0, false⟩,⟨some 50, none, .len true (.tmp 49), 0, false⟩,⟨some 51, none, .mm false [(.tmp 48), (.tmp 50)], 0, false⟩,⟨some 52, none, .slS (.tmp 47) none (some (.tmp 51)), 0, false⟩,⟨some 53, none, .buildS 1 [(.val (.string ⟨#[]⟩))] [(0, 1, (.tmp 52))], 0, false⟩,⟨some 54, none, .call 37 [(.tmp 46), (.tmp 53)], 0, false⟩]))))
 (.regN [0, 2, 7, 9, 19, 20, 21, 37, 38, 39] [
 ⟨some 55, none, .bini .add (.tmp 39) (.con (.val (.int .i64 1))), 0, false⟩,⟨some 39, none, .mv (.tmp 55), 0, false⟩]))))
def t12L2 : AC := (.seq (.regN [0, 2, 7, 19, 20, 21] [
 ⟨some 22, none, .bini .lss (.tmp 21) (.tmp 20), 0, false⟩])
 (.seq (.cond (.tmp 22)
 .skip
 (.exit 0))
 (.seq (.block 1
 (.seq (.regN [0, 2, 7, 19, 20, 21] [
 ⟨some 23, none, .ixA 1 (.tmp 19) (.tmp 21), 0, false⟩,⟨some 24, none, .ld1 none (.tmp 23), 0, false⟩,⟨some 9, none, .mv (.tmp 24), 0, false⟩])
 (.seq (.seq (.regN [0, 2, 7, 9, 19, 20, 21] [
 ⟨some 25, none, .mv (.tmp 0), 0, false⟩,⟨some 26, none, .mv (.tmp 9), 0, false⟩,⟨some 27, none, .call 36 [(.tmp 25), (.tmp 26)], 0, false⟩])
 (.cond (.tmp 27)
 (.seq (.regN [0, 2, 7, 9, 19, 20, 21] [
 ⟨some 28, none, .mv (.tmp 7), 0, false⟩,⟨some 29, none, .mv (.tmp 9), 0, false⟩,⟨some 30, none, .mv (.tmp 0), 0, false⟩,⟨some 31, none, .mv (.tmp 9), 0, false⟩,⟨some 32, none, .len true (.tmp 31), 0, false⟩,⟨some 33, none, .mm false [(.tmp 30), (.tmp 32)], 0, false⟩,⟨some 34, none, .slS (.tmp 29) none (some (.tmp 33)), 0, false⟩,⟨some 35, none, .buildS 1 [(.val (.string ⟨#[]⟩))] [(0, 1, (.tmp 34))], 0, false⟩,⟨some 36, none, .call 37 [(.tmp 28), (.tmp 35)], 0, false⟩])
 (.exit 1))
 .skip))
 (.seq (.regN [0, 2, 7, 9, 19, 20, 21] [
 ⟨some 37, none, .mv (.tmp 2), 0, false⟩,⟨some 38, none, .len false (.tmp 37), 0, false⟩,⟨some 39, none, .mv (.con (.val (.int .i64 0))), 0, false⟩])
 (.block 2
 (.loop [0, 2, 7, 9, 19, 20, 21, 37, 38, 39] t12L1))))))
 (.regN [0, 2, 7, 19, 20, 21] [
 ⟨some 56, none, .bini .add (.tmp 21) (.con (.val (.int .i64 1))), 0, false⟩,⟨some 21, none, .mv (.tmp 56), 0, false⟩]))))
def t12B : AC := (.seq (.regN [0, 1, 2] [
 ⟨some 6, none, .mv (.con .e0), 0, false⟩])
 (.seq (.seq (.regN [0, 1, 2] [
 ⟨some 13, none, .mv (.tmp 2), 0, false⟩,⟨some 14, none, .len false (.tmp 13), 0, false⟩,⟨some 15, none, .bini .eql (.tmp 14) (.con (.val (.int .i64 0))), 0, false⟩])
 (.cond (.tmp 15)
 (.seq (.regN [] [
 ⟨some 6, none, .mv (.con .e0), 0, false⟩])
 .ret)
 .skip))
 (.seq (.regN [0, 1, 2] [
 ⟨some 16, none, .mv (.tmp 0), 0, false⟩,⟨some 17, none, .mm true [(.con (.val (.int .i64 0))), (.tmp 16)], 0, false⟩,⟨some 0, none, .mv (.tmp 17), 0, false⟩])
 (.seq (.regN [0, 1, 2] [
 ⟨some 18, none, .mkm, 0, false⟩,⟨some 7, none, .mv (.tmp 18), 0, false⟩])
 (.seq (.seq (.regN [0, 1, 2, 7] [
 ⟨some 19, none, .mv (.tmp 1), 0, false⟩,⟨some 20, none, .len false (.tmp 19), 0, false⟩,⟨some 21, none, .mv (.con (.val (.int .i64 0))), 0, false⟩])
 (.block 0
 (.loop [0, 2, 7, 19, 20, 21] t12L2)))
 (.seq (.regN [7] [
 ⟨some 57, none, .mv (.tmp 7), 0, false⟩,⟨some 58, none, .call 38 [(.tmp 57)], 0, false⟩,⟨some 6, none, .mv (.tmp 58), 0, false⟩])
 .ret))))))
def t12 : AFn := ⟨3, t12B,
 [.tmp 6], true⟩
/-- viewport/first.whole  -/
def t36B : AC := (.seq (.regN [0, 1] [
 ⟨some 4, none, .mv (.con (.val (.bool false))), 0, false⟩])
 (.seq (.regN [0, 1] [
 ⟨some 5, none, .mv (.tmp 1), 0, false⟩,⟨some 6, none, .len true (.tmp 5), 0, false⟩,⟨some 7, none, .mv (.tmp 0), 0, false⟩,⟨some 8, none, .bini .geq (.tmp 6) (.tmp 7), 0, false⟩,⟨some 9, none, .mv (.tmp 8), 0, false⟩,⟨some 10, some (9, false), .mv (.tmp 1), 0, false⟩,⟨some 11, some (9, false), .bins .neq (.tmp 10) (.con (.val (.string ⟨#[]⟩))), 0, false⟩,⟨some 12, some (9, false), .mv (.tmp 11), 0, false⟩,⟨some 13, some (12, true), .mv (.tmp 1), 0, false⟩,⟨some 14, some (12, true), .mv (.tmp 1), 0, false⟩,⟨some 15, some (12, true), .len true (.tmp 14), 0, false⟩,⟨some 16, some (12, true), .bini .sub (.tmp 15) (.con (.val (.int .i64 1))), 0, false⟩,⟨some 17, some (12, true), .ixS (.tmp 13) (.tmp 16), 0, false⟩,⟨some 18, some (12, true), .bini .eql (.tmp 17) (.con (.val (.int .u8 255))), 0, false⟩,⟨some 19, some (9, false), .pick (.tmp 12) (.tmp 18) (.con (.val (.bool false))), 0, false⟩,⟨some 20, none, .pick (.tmp 9) (.con (.val (.bool true))) (.tmp 19), 0, false⟩,⟨some 4, none, .mv (.tmp 20), 0, false⟩])
 .ret))
def t36 : AFn := ⟨2, t36B,
 [.tmp 4], true⟩
/-- (viewport/first.rows).put  -/
def t37L1 : AC := (.seq (.regN [0, 6, 7, 8] [
 ⟨some 9, none, .bini .lss (.tmp 8) (.tmp 7), 0, false⟩])
 (.seq (.cond (.tmp 9)
 .skip
 (.exit 0))
 (.seq (.block 1
 (.seq (.regN [0, 6, 7, 8] [
 ⟨some 10, none, .ixA 1 (.tmp 6) (.tmp 8), 0, false⟩,⟨some 11, none, .ld1 none (.tmp 10), 0, false⟩,⟨some 5, none, .mv (.tmp 11), 0, false⟩])
 (.regN [0, 5, 6, 7, 8] [
 ⟨some 12, none, .mv (.tmp 0), 0, false⟩,⟨some 13, none, .mv (.tmp 5), 0, false⟩,⟨some 14, none, .build [] [], 0, false⟩,⟨none, none, .mup false [2] (.tmp 12) (.tmp 13) (.tmp 14), 0, false⟩])))
 (.regN [0, 6, 7, 8] [
 ⟨some 15, none, .bini .add (.tmp 8) (.con (.val (.int .i64 1))), 0, false⟩,⟨some 8, none, .mv (.tmp 15), 0, false⟩]))))
def t37B : AC := (.seq (.regN [0, 1] [
 ⟨some 6, none, .mv (.tmp 1), 0, false⟩,⟨some 7, none, .len false (.tmp 6), 0, false⟩,⟨some 8, none, .mv (.con (.val (.int .i64 0))), 0, false⟩])
 (.block 0
 (.loop [0, 6, 7, 8] t37L1)))
def t37 : AFn := ⟨2, t37B,
 [], true⟩
/-- viewport/viewportkit.SameRows[string]  -/
def t34L1 : AC := (.seq (.seq (.regN [0, 1, 5] [
 ⟨some 11, none, .mv (.tmp 5), 0, false⟩,⟨some 12, none, .mv (.tmp 0), 0, false⟩,⟨some 13, none, .len false (.tmp 12), 0, false⟩,⟨some 14, none, .bini .lss (.tmp 11) (.tmp 13), 0, false⟩])
 (.cond (.tmp 14)
 .skip
 (.exit 0)))
 (.seq (.block 1
 (.seq (.regD [0, 1, 5] 0 [
 ⟨some 17, none, .mv (.tmp 0), 0, false⟩,⟨some 18, none, .mv (.tmp 5), 0, false⟩,⟨some 19, none, .ixA 1 (.tmp 17) (.tmp 18), 0, false⟩,⟨some 20, none, .ld1 none (.tmp 19), 0, false⟩,⟨some 21, none, .mv (.tmp 1), 0, false⟩,⟨some 22, none, .mv (.tmp 5), 0, false⟩,⟨some 23, none, .ixA 1 (.tmp 21) (.tmp 22), 0, false⟩,⟨some 24, none, .ld1 none (.tmp 23), 0, false⟩,⟨some 25, none, .call 13 [(.tmp 20), (.tmp 24)], 0, true⟩,⟨some 26, none, .not (.tmp 25), 0, false⟩])
 (.cond (.tmp 26)
 (.seq (.regN [] [
 ⟨some 4, none, .mv (.con (.val (.bool false))), 0, false⟩])
 .ret)
 .skip)))
 (.regN [0, 1, 5] [
 ⟨some 15, none, .mv (.tmp 5), 0, false⟩,⟨some 16, none, .bini .add (.tmp 15) (.con (.val (.int .i64 1))), 0, false⟩,⟨some 5, none, .mv (.tmp 16), 0, false⟩])))
def t34B : AC := (.seq (.regN [0, 1] [
 ⟨some 4, none, .mv (.con (.val (.bool false))), 0, false⟩])
 (.seq (.seq (.regN [0, 1] [
 ⟨some 6, none, .mv (.tmp 0), 0, false⟩,⟨some 7, none, .len false (.tmp 6), 0, false⟩,⟨some 8, none, .mv (.tmp 1), 0, false⟩,⟨some 9, none, .len false (.tmp 8), 0, false⟩,⟨some 10, none, .bini .neq (.tmp 7) (.tmp 9), 0, false⟩])
 (.cond (.tmp 10)
 (.seq (.regN [] [
 ⟨some 4, none, .mv (.con (.val (.bool false))), 0, false⟩])
 .ret)
 .skip))
 (.seq (.seq (.regN [0, 1] [
 ⟨some 5, none, .mv (.con (.val (.int .i64 0))), 0, false⟩])
 (.block 0
 (.loop [0, 1, 5] t34L1)))
 (.seq (.regN [] [
 ⟨some 4, none, .mv (.con (.val (.bool true))), 0, false⟩])
 .ret))))
def t34 : AFn := ⟨2, t34B,
 [.tmp 4], true⟩
/-- viewport/viewportkit.Same[string]  -/
def t13L1 : AC := (.seq (.seq (.regN [0, 1, 5] [
 ⟨some 11, none, .mv (.tmp 5), 0, false⟩,⟨some 12, none, .mv (.tmp 0), 0, false⟩,⟨some 13, none, .len false (.tmp 12), 0, false⟩,⟨some 14, none, .bini .lss (.tmp 11) (.tmp 13), 0, false⟩])
 (.cond (.tmp 14)
 .skip
 (.exit 0)))
 (.seq (.block 1
 (.seq (.regD [0, 1, 5] 0 [
 ⟨some 17, none, .mv (.tmp 0), 0, false⟩,⟨some 18, none, .mv (.tmp 5), 0, false⟩,⟨some 19, none, .ixA 1 (.tmp 17) (.tmp 18), 0, false⟩,⟨some 20, none, .ld1 none (.tmp 19), 0, false⟩,⟨some 21, none, .mv (.tmp 1), 0, false⟩,⟨some 22, none, .mv (.tmp 5), 0, false⟩,⟨some 23, none, .ixA 1 (.tmp 21) (.tmp 22), 0, false⟩,⟨some 24, none, .ld1 none (.tmp 23), 0, false⟩,⟨some 25, none, .bins .neq (.tmp 20) (.tmp 24), 0, false⟩])
 (.cond (.tmp 25)
 (.seq (.regN [] [
 ⟨some 4, none, .mv (.con (.val (.bool false))), 0, false⟩])
 .ret)
 .skip)))
 (.regN [0, 1, 5] [
 ⟨some 15, none, .mv (.tmp 5), 0, false⟩,⟨some 16, none, .bini .add (.tmp 15) (.con (.val (.int .i64 1))), 0, false⟩,⟨some 5, none, .mv (.tmp 16), 0, false⟩])))
def t13B : AC := (.seq (.regN [0, 1] [
 ⟨some 4, none, .mv (.con (.val (.bool false))), 0, false⟩])
 (.seq (.seq (.regN [0, 1] [
 ⟨some 6, none, .mv (.tmp 0), 0, false⟩,⟨some 7, none, .len false (.tmp 6), 0, false⟩,⟨some 8, none, .mv (.tmp 1), 0, false⟩,⟨some 9, none, .len false (.tmp 8), 0, false⟩,⟨some 10, none, .bini .neq (.tmp 7) (.tmp 9), 0, false⟩])
 (.cond (.tmp 10)
 (.seq (.regN [] [
 ⟨some 4, none, .mv (.con (.val (.bool false))), 0, false⟩])
 .ret)
 .skip))
 (.seq (.seq (.regN [0, 1] [
 ⟨some 5, none, .mv (.con (.val (.int .i64 0))), 0, false⟩])
 (.block 0
 (.loop [0, 1, 5] t13L1)))
 (.seq (.regN [] [
 ⟨some 4, none, .mv (.con (.val (.bool true))), 0, false⟩])
 .ret))))
def t13 : AFn := ⟨2, t13B,
 [.tmp 4], true⟩
/-- viewport/viewportlaw12.right  -/
def t11L1 : AC := (.seq (.seq (.regN [0, 3, 4] [
 ⟨some 11, none, .mv (.tmp 4), 0, false⟩,⟨some 12, none, .bini .add (.tmp 11) (.con (.val (.int .i64 1))), 0, false⟩,⟨some 13, none, .mv (.tmp 0), 0, false⟩,⟨some 14, none, .mv (.tmp 3), 0, false⟩,⟨some 15, none, .ixA 1 (.tmp 13) (.tmp 14), 0, false⟩,⟨some 16, none, .ld1 none (.tmp 15), 0, false⟩,⟨some 17, none, .len true (.tmp 16), 0, false⟩,⟨some 18, none, .bini .lss (.tmp 12) (.tmp 17), 0, false⟩])
 (.cond (.tmp 18)
 .skip
 (.exit 2)))
 (.seq (.block 3
 (.seq (.regN [0, 3, 4] [
 ⟨some 21, none, .mv (.tmp 0), 0, false⟩,⟨some 22, none, .mv (.tmp 3), 0, false⟩,⟨some 23, none, .ixA 1 (.tmp 21) (.tmp 22), 0, false⟩,⟨some 24, none, .ld1 none (.tmp 23), 0, false⟩,⟨some 25, none, .mv (.tmp 4), 0, false⟩,⟨some 26, none, .ixS (.tmp 24) (.tmp 25), 0, false⟩,⟨some 27, none, .bini .eql (.tmp 26) (.con (.val (.int .u8 255))), 0, false⟩])
 (.cond (.tmp 27)
 (.seq (.regN [] [
 ⟨some 2, none, .mv (.con (.val (.bool false))), 0, false⟩])
 .ret)
 .skip)))
 (.regN [0, 3, 4] [
 ⟨some 19, none, .mv (.tmp 4), 0, false⟩,⟨some 20, none, .bini .add (.tmp 19) (.con (.val (.int .i64 1))), 0, false⟩,⟨some 4, none, .mv (.tmp 20), 0, false⟩])))
def t11L2 : AC := (.seq (.seq (.regN [0, 3] [
 ⟨some 5, none, .mv (.tmp 3), 0, false⟩,⟨some 6, none, .mv (.tmp 0), 0, false⟩,⟨some 7, none, .len false (.tmp 6), 0, false⟩,⟨some 8, none, .bini .lss (.tmp 5) (.tmp 7), 0, false⟩])
 (.cond (.tmp 8)
 .skip
 (.exit 0)))
 (.seq (.block 1
 (.seq (.regN [0, 3] [
 ⟨some 4, none, .mv (.con (.val (.int .i64 0))), 0, false⟩])
 (.block 2
 (.loop [0, 3, 4] t11L1))))
 (.regN [0, 3] [
 ⟨some 9, none, .mv (.tmp 3), 0, false⟩,⟨some 10, none, .bini .add (.tmp 9) (.con (.val (.int .i64 1))), 0, false⟩,⟨some 3, none, .mv (.tmp 10), 0, false⟩])))
def t11B : AC := (.seq (.regN [0] [
 ⟨some 2, none, .mv (.con (.val (.bool false))), 0, false⟩])
 (.seq (.seq (.regN [0] [
 ⟨some 3, none, .mv (.con (.val (.int .i64 0))), 0, false⟩])
 (.block 0
 (.loop [0, 3] t11L2)))
 (.seq (.regN [0] [
 ⟨some 28, none, .mv (.tmp 0), 0, false⟩,⟨some 29, none, .call 28 [(.tmp 28), (.con (.val (.int .i64 6)))], 0, false⟩,⟨some 2, none, .mv (.tmp 29), 0, false⟩])
 .ret)))
def t11 : AFn := ⟨1, t11B,
 [.tmp 2], true⟩
/-- viewport/viewportkit.LightRowsOf  -/
def t28L1 : AC := (.seq (.seq (.regN [0, 1, 5] [
 ⟨some 6, none, .mv (.tmp 5), 0, false⟩,⟨some 7, none, .mv (.tmp 0), 0, false⟩,⟨some 8, none, .len false (.tmp 7), 0, false⟩,⟨some 9, none, .bini .lss (.tmp 6) (.tmp 8), 0, false⟩])
 (.cond (.tmp 9)
 .skip
 (.exit 0)))
 (.seq (.block 1
 (.seq (.regN [0, 1, 5] [
 ⟨some 12, none, .mv (.tmp 0), 0, false⟩,⟨some 13, none, .mv (.tmp 5), 0, false⟩,⟨some 14, none, .ixA 1 (.tmp 12) (.tmp 13), 0, false⟩,⟨some 15, none, .ld1 none (.tmp 14), 0, false⟩,⟨some 16, none, .len true (.tmp 15), 0, false⟩,⟨some 17, none, .bini .gtr (.tmp 16) (.con (.val (.int .i64 20))), 0, false⟩])
 (.cond (.tmp 17)
 (.seq (.regN [] [
 ⟨some 4, none, .mv (.con (.val (.bool false))), 0, false⟩])
 .ret)
 .skip)))
 (.regN [0, 1, 5] [
 ⟨some 10, none, .mv (.tmp 5), 0, false⟩,⟨some 11, none, .bini .add (.tmp 10) (.con (.val (.int .i64 1))), 0, false⟩,⟨some 5, none, .mv (.tmp 11), 0, false⟩])))
def t28B : AC := (.seq (.regN [0, 1] [
 ⟨some 4, none, .mv (.con (.val (.bool false))), 0, false⟩])
 (.seq (.seq (.regN [0, 1] [
 ⟨some 5, none, .mv (.con (.val (.int .i64 0))), 0, false⟩])
 (.block 0
 (.loop [0, 1, 5] t28L1)))
 (.seq (.regN [0, 1] [
 ⟨some 18, none, .mv (.tmp 0), 0, false⟩,⟨some 19, none, .len false (.tmp 18), 0, false⟩,⟨some 20, none, .mv (.tmp 1), 0, false⟩,⟨some 21, none, .bini .leq (.tmp 19) (.tmp 20), 0, false⟩,⟨some 4, none, .mv (.tmp 21), 0, false⟩])
 .ret)))
def t28 : AFn := ⟨2, t28B,
 [.tmp 4], true⟩
/-- viewport/first.Has  -/
def t14B : AC := (.seq (.regN [0, 1] [
 ⟨some 4, none, .mv (.con (.val (.bool false))), 0, false⟩])
 (.seq (.regN [0, 1] [
 ⟨some 5, none, .mv (.tmp 0), 0, false⟩,⟨some 6, none, .mv (.tmp 1), 0, false⟩,⟨some 7, none, .call 39 [(.tmp 5), (.tmp 6)], 0, false⟩,⟨some 4, none, .mv (.tmp 7), 0, false⟩])
 .ret))
def t14 : AFn := ⟨2, t14B,
 [.tmp 4], true⟩
/-- slices.Contains[[]string,string]  -/
def t39B : AC := (.seq (.regN [0, 1] [
 ⟨some 4, none, .mv (.con (.val (.bool false))), 0, false⟩])
 (.seq (.regN [0, 1] [
 ⟨some 5, none, .mv (.tmp 0), 0, false⟩,⟨some 6, none, .mv (.tmp 1), 0, false⟩,⟨some 7, none, .call 58 [(.tmp 5), (.tmp 6)], 0, false⟩,⟨some 8, none, .bini .geq (.tmp 7) (.con (.val (.int .i64 0))), 0, false⟩,⟨some 4, none, .mv (.tmp 8), 0, false⟩])
 .ret))
def t39 : AFn := ⟨2, t39B,
 [.tmp 4], true⟩
/-- slices.Index[[]string,string]  -/
def t58L1 : AC := (.seq (.regN [0, 1, 7, 8] [
 ⟨some 9, none, .bini .lss (.tmp 8) (.tmp 7), 0, false⟩])
 (.seq (.cond (.tmp 9)
 .skip
 (.exit 0))
 (.seq (.block 1
 (.seq (.regN [0, 1, 7, 8] [
 ⟨some 10, none, .mv (.tmp 8), 0, false⟩,⟨some 5, none, .mv (.tmp 10), 0, false⟩])
 (.seq (.regN [0, 1, 5, 7, 8] [
 ⟨some 11, none, .mv (.tmp 1), 0, false⟩,⟨some 12, none, .mv (.tmp 0), 0, false⟩,⟨some 13, none, .mv (.tmp 5), 0, false⟩,⟨some 14, none, .ixA 1 (.tmp 12) (.tmp 13), 0, false⟩,⟨some 15, none, .ld1 none (.tmp 14), 0, false⟩,⟨some 16, none, .bins .eql (.tmp 11) (.tmp 15), 0, false⟩])
 (.cond (.tmp 16)
 (.seq (.regN [5] [
 ⟨some 17, none, .mv (.tmp 5), 0, false⟩,⟨some 4, none, .mv (.tmp 17), 0, false⟩])
 .ret)
 .skip))))
 (.regN [0, 1, 7, 8] [
 ⟨some 18, none, .bini .add (.tmp 8) (.con (.val (.int .i64 1))), 0, false⟩,⟨some 8, none, .mv (.tmp 18), 0, false⟩]))))
def t58B : AC := (.seq (.regN [0, 1] [
 ⟨some 4, none, .mv (.con (.val (.int .i64 0))), 0, false⟩])
 (.seq (.seq (.regN [0, 1] [
 ⟨some 6, none, .mv (.tmp 0), 0, false⟩,⟨some 7, none, .len false (.tmp 6), 0, false⟩,⟨some 8, none, .mv (.con (.val (.int .i64 0))), 0, false⟩])
 (.block 0
 (.loop [0, 1, 7, 8] t58L1)))
 (.seq (.regN [] [
 ⟨some 4, none, .mv (.con (.val (.int .i64 (-1)))), 0, false⟩])
 .ret)))
def t58 : AFn := ⟨2, t58B,
 [.tmp 4], true⟩
/-- viewport/viewportlaw12.FirstDerived  -/
def t4B : AC := (.seq (.regN [0, 1] [
 ⟨some 2, none, .boxR 4 (.tmp 0), 0, false⟩,⟨some 4, none, .mv (.con (.val (.bool false))), 0, false⟩])
 (.seq (.seq (.regN [1, 2] [
 ⟨some 8, none, .call 10 [], 0, false⟩,⟨some 9, none, .not (.tmp 8), 0, false⟩])
 (.cond (.tmp 9)
 (.seq (.regN [] [
 ⟨some 4, none, .mv (.con (.val (.bool false))), 0, false⟩])
 .ret)
 .skip))
 (.seq (.seq (.regN [1, 2] [
 ⟨some 10, none, .ldA (some 2) 4 (.tmp 2), 0, false⟩,⟨some 11, none, .call 16 [(.tmp 10)], 0, false⟩,⟨some 12, none, .not (.tmp 11), 0, false⟩,⟨some 13, none, .mv (.tmp 12), 0, false⟩,⟨some 14, some (13, false), .ldA (some 2) 4 (.tmp 2), 0, false⟩,⟨some 15, some (13, false), .call 17 [(.tmp 14)], 0, false⟩,⟨some 16, some (13, false), .bini .neq (.tmp 15) (.con (.val (.int .i64 0))), 0, false⟩,⟨some 17, none, .pick (.tmp 13) (.con (.val (.bool true))) (.tmp 16), 0, false⟩,⟨some 18, none, .mv (.tmp 17), 0, false⟩,⟨some 19, some (18, false), .mv (.tmp 1), 0, false⟩,⟨some 20, some (18, false), .len false (.tmp 19), 0, false⟩,⟨some 21, some (18, false), .bini .gtr (.tmp 20) (.con (.val (.int .i64 60))), 0, false⟩,⟨some 22, none, .pick (.tmp 18) (.con (.val (.bool true))) (.tmp 21), 0, false⟩])
 (.cond (.tmp 22)
 (.seq (.regN [] [
 ⟨some 4, none, .mv (.con (.val (.bool true))), 0, false⟩])
 .ret)
 .skip))
 (.seq (.regN [1, 2] [
 ⟨some 24, none, .ldA (some 2) 4 (.tmp 2), 0, false⟩,⟨some 25, none, .mv (.tmp 1), 0, false⟩,⟨some 26, none, .call 18 [(.tmp 24), (.tmp 25), (.con (.val (.int .i64 60)))], 0, false⟩,⟨some 23, none, .mv (.tmp 26), 0, false⟩,⟨some 27, none, .ext (.tmp 23) 0, 0, false⟩,⟨some 28, none, .ext (.tmp 23) 1, 0, false⟩,⟨some 5, none, .mv (.tmp 27), 0, false⟩,⟨some 6, none, .mv (.tmp 28), 0, false⟩])
 (.seq (.regN [2, 5, 6] [
 ⟨some 29, none, .ldA (some 2) 4 (.tmp 2), 0, false⟩,⟨some 30, none, .call 19 [(.tmp 29)], 0, false⟩,⟨some 7, none, .mv (.tmp 30), 0, false⟩])
 (.seq (.regD [2, 5, 6, 7] 0 [
 ⟨some 31, none, .mv (.tmp 7), 0, false⟩,⟨some 32, none, .len false (.tmp 31), 0, false⟩,⟨some 33, none, .fldA 1 (.tmp 2), 0, false⟩,⟨some 34, none, .ld1 (some 2) (.tmp 33), 0, false⟩,⟨some 35, none, .bini .eql (.tmp 32) (.tmp 34), 0, false⟩,⟨some 36, none, .mv (.tmp 35), 0, false⟩,⟨some 37, some (36, true), .mv (.tmp 6), 0, false⟩,⟨some 38, some (36, true), .not (.tmp 37), 0, false⟩,⟨some 39, some (36, true), .mv (.tmp 38), 0, false⟩,⟨some 40, some (39, false), .mv (.tmp 7), 0, false⟩,⟨some 41, some (39, false), .ixA 1 (.tmp 40) (.con (.val (.int .i64 0))), 0, false⟩,⟨some 42, some (39, false), .ld1 none (.tmp 41), 0, false⟩,⟨some 43, some (39, false), .mv (.tmp 5), 0, false⟩,⟨some 44, some (39, false), .fldA 2 (.tmp 2), 0, false⟩,⟨some 45, some (39, false), .ld1 (some 2) (.tmp 44), 0, false⟩,⟨some 46, some (39, false), .mv (.tmp 5), 0, false⟩,⟨some 47, some (39, false), .len true (.tmp 46), 0, false⟩,⟨some 48, some (39, false), .mm false [(.tmp 45), (.tmp 47)], 0, false⟩,⟨some 49, some (39, false), .slS (.tmp 43) none (some (.tmp 48)), 0, false⟩,⟨some 50, some (39, false), .call 14 [(.tmp 42), (.tmp 49)], 0, true⟩,⟨some 51, some (36, true), .pick (.tmp 39) (.con (.val (.bool true))) (.tmp 50), 0, false⟩,⟨some 52, none, .pick (.tmp 36) (.tmp 51) (.con (.val (.bool false))), 0, false⟩,⟨some 4, none, .mv (.tmp 52), 0, false⟩])
 .ret))))))
def t4 : AFn := ⟨2, t4B,
 [.tmp 4], true⟩
/-- viewport/viewportkit.LightGrammar  -/
def t16L1 : AC := (.seq (.seq (.regN [1, 3] [
 ⟨some 8, none, .mv (.tmp 3), 0, false⟩,⟨some 9, none, .fldA 3 (.tmp 1), 0, false⟩,⟨some 10, none, .ld1 (some 1) (.tmp 9), 0, false⟩,⟨some 11, none, .len false (.tmp 10), 0, false⟩,⟨some 12, none, .bini .lss (.tmp 8) (.tmp 11), 0, false⟩])
 (.cond (.tmp 12)
 .skip
 (.exit 0)))
 (.seq (.block 1
 (.seq (.regN [1, 3] [
 ⟨some 15, none, .fldA 3 (.tmp 1), 0, false⟩,⟨some 16, none, .ld1 (some 1) (.tmp 15), 0, false⟩,⟨some 17, none, .mv (.tmp 3), 0, false⟩,⟨some 18, none, .ixA 2 (.tmp 16) (.tmp 17), 0, false⟩,⟨some 19, none, .fldA 1 (.tmp 18), 0, false⟩,⟨some 20, none, .ld1 none (.tmp 19), 0, false⟩,⟨some 21, none, .len false (.tmp 20), 0, false⟩,⟨some 22, none, .bini .gtr (.tmp 21) (.con (.val (.int .i64 5))), 0, false⟩,⟨some 23, none, .mv (.tmp 22), 0, false⟩,⟨some 24, some (23, true), .fldA 3 (.tmp 1), 0, false⟩,⟨some 25, some (23, true), .ld1 (some 1) (.tmp 24), 0, false⟩,⟨some 26, some (23, true), .mv (.tmp 3), 0, false⟩,⟨some 27, some (23, true), .ixA 2 (.tmp 25) (.tmp 26), 0, false⟩,⟨some 28, some (23, true), .fldA 1 (.tmp 27), 0, false⟩,⟨some 29, some (23, true), .ld1 none (.tmp 28), 0, false⟩,⟨some 30, some (23, true), .len false (.tmp 29), 0, false⟩,⟨some 31, some (23, true), .bini .leq (.tmp 30) (.con (.val (.int .i64 8))), 0, false⟩,⟨some 32, none, .pick (.tmp 23) (.tmp 31) (.con (.val (.bool false))), 0, false⟩,⟨some 33, none, .mv (.tmp 32), 0, false⟩,⟨some 34, some (33, false), .fldA 3 (.tmp 1), 0, false⟩,⟨some 35, some (33, false), .ld1 (some 1) (.tmp 34), 0, false⟩,⟨some 36, some (33, false), .mv (.tmp 3), 0, false⟩,⟨some 37, some (33, false), .ixA 2 (.tmp 35) (.tmp 36), 0, false⟩,⟨some 38, some (33, false), .fldA 1 (.tmp 37), 0, false⟩,⟨some 39, some (33, false), .ld1 none (.tmp 38), 0, false⟩,⟨some 40, some (33, false), .len false (.tmp 39), 0, false⟩,⟨some 41, some (33, false), .bini .gtr (.tmp 40) (.con (.val (.int .i64 100))), 0, false⟩,⟨some 42, none, .pick (.tmp 33) (.con (.val (.bool true))) (.tmp 41), 0, false⟩])
 (.cond (.tmp 42)
 (.seq (.regN [] [
 ⟨some 2, none, .mv (.con (.val (.bool false))), 0, false⟩])
 .ret)
 .skip)))
 (.regN [1, 3] [
 ⟨some 13, none, .mv (.tmp 3), 0, false⟩,⟨some 14, none, .bini .add (.tmp 13) (.con (.val (.int .i64 1))), 0, false⟩,⟨some 3, none, .mv (.tmp 14), 0, false⟩])))
def t16B : AC := (.seq (.regN [0] [
 ⟨some 1, none, .boxR 4 (.tmp 0), 0, false⟩,⟨some 2, none, .mv (.con (.val (.bool false))), 0, false⟩])
 (.seq (.seq (.regN [1] [
 ⟨some 4, none, .fldA 3 (.tmp 1), 0, false⟩,⟨some 5, none, .ld1 (some 1) (.tmp 4), 0, false⟩,⟨some 6, none, .len false (.tmp 5), 0, false⟩,⟨some 7, none, .bini .gtr (.tmp 6) (.con (.val (.int .i64 100))), 0, false⟩])
 (.cond (.tmp 7)
 (.seq (.regN [] [
 ⟨some 2, none, .mv (.con (.val (.bool false))), 0, false⟩])
 .ret)
 .skip))
 (.seq (.seq (.regN [1] [
 ⟨some 3, none, .mv (.con (.val (.int .i64 0))), 0, false⟩])
 (.block 0
 (.loop [1, 3] t16L1)))
 (.seq (.seq (.regN [1] [
 ⟨some 43, none, .fldA 0 (.tmp 1), 0, false⟩,⟨some 44, none, .ld1 (some 1) (.tmp 43), 0, false⟩,⟨some 45, none, .bini .gtr (.tmp 44) (.con (.val (.int .i64 8))), 0, false⟩,⟨some 46, none, .mv (.tmp 45), 0, false⟩,⟨some 47, some (46, false), .fldA 1 (.tmp 1), 0, false⟩,⟨some 48, some (46, false), .ld1 (some 1) (.tmp 47), 0, false⟩,⟨some 49, some (46, false), .bini .gtr (.tmp 48) (.con (.val (.int .i64 16))), 0, false⟩,⟨some 50, none, .pick (.tmp 46) (.con (.val (.bool true))) (.tmp 49), 0, false⟩,⟨some 51, none, .mv (.tmp 50), 0, false⟩,⟨some 52, some (51, false), .fldA 2 (.tmp 1), 0, false⟩,⟨some 53, some (51, false), .ld1 (some 1) (.tmp 52), 0, false⟩,⟨some 54, some (51, false), .bini .gtr (.tmp 53) (.con (.val (.int .i64 3))), 0, false⟩,⟨some 55, none, .pick (.tmp 51) (.con (.val (.bool true))) (.tmp 54), 0, false⟩,⟨some 56, none, .mv (.tmp 55), 0, false⟩,⟨some 57, some (56, false), .fldA 3 (.tmp 1), 0, false⟩,⟨some 58, some (56, false), .ld1 (some 1) (.tmp 57), 0, false⟩,⟨some 59, some (56, false), .len false (.tmp 58), 0, false⟩,⟨some 60, some (56, false), .bini .gtr (.tmp 59) (.con (.val (.int .i64 64))), 0, false⟩,⟨some 61, none, .pick (.tmp 56) (.con (.val (.bool true))) (.tmp 60), 0, false⟩])
 (.cond (.tmp 61)
 (.seq (.regN [] [
 ⟨some 2, none, .mv (.con (.val (.bool true))), 0, false⟩])
 .ret)
 .skip))
 (.seq (.regN [1] [
 ⟨some 62, none, .fldA 0 (.tmp 1), 0, false⟩,⟨some 63, none, .ld1 (some 1) (.tmp 62), 0, false⟩,⟨some 64, none, .bini .leq (.tmp 63) (.con (.val (.int .i64 4))), 0, false⟩,⟨some 65, none, .mv (.tmp 64), 0, false⟩,⟨some 66, some (65, true), .fldA 1 (.tmp 1), 0, false⟩,⟨some 67, some (65, true), .ld1 (some 1) (.tmp 66), 0, false⟩,⟨some 68, some (65, true), .bini .leq (.tmp 67) (.con (.val (.int .i64 6))), 0, false⟩,⟨some 69, none, .pick (.tmp 65) (.tmp 68) (.con (.val (.bool false))), 0, false⟩,⟨some 70, none, .mv (.tmp 69), 0, false⟩,⟨some 71, some (70, true), .fldA 3 (.tmp 1), 0, false⟩,⟨some 72, some (70, true), .ld1 (some 1) (.tmp 71), 0, false⟩,⟨some 73, some (70, true), .len false (.tmp 72), 0, false⟩,⟨some 74, some (70, true), .bini .leq (.tmp 73) (.con (.val (.int .i64 14))), 0, false⟩,⟨some 75, none, .pick (.tmp 70) (.tmp 74) (.con (.val (.bool false))), 0, false⟩,⟨some 76, none, .mv (.tmp 75), 0, false⟩,⟨some 77, some (76, true), .fldA 2 (.tmp 1), 0, false⟩,⟨some 78, some (76, true), .ld1 (some 1) (.tmp 77), 0, false⟩,⟨some 79, some (76, true), .bini .leq (.tmp 78) (.con (.val (.int .i64 2))), 0, false⟩,⟨some 80, some (76, true), .mv (.tmp 79), 0, false⟩,⟨some 81, some (80, false), .fldA 0 (.tmp 1), 0, false⟩,⟨some 82, some (80, false), .ld1 (some 1) (.tmp 81), 0, false⟩,⟨some 83, some (80, false), .bini .leq (.tmp 82) (.con (.val (.int .i64 3))), 0, false⟩,⟨some 84, some (76, true), .pick (.tmp 80) (.con (.val (.bool true))) (.tmp 83), 0, false⟩,⟨some 85, none, .pick (.tmp 76) (.tmp 84) (.con (.val (.bool false))), 0, false⟩,⟨some 2, none, .mv (.tmp 85), 0, false⟩])
 .ret)))))
def t16 : AFn := ⟨1, t16B,
 [.tmp 2], true⟩
/-- viewport/viewportref11.Check  -/
def t17L1 : AC := (.seq (.seq (.regN [1, 3] [
 ⟨some 26, none, .mv (.tmp 3), 0, false⟩,⟨some 27, none, .fldA 3 (.tmp 1), 0, false⟩,⟨some 28, none, .ld1 (some 1) (.tmp 27), 0, false⟩,⟨some 29, none, .len false (.tmp 28), 0, false⟩,⟨some 30, none, .bini .lss (.tmp 26) (.tmp 29), 0, false⟩])
 (.cond (.tmp 30)
 .skip
 (.exit 0)))
 (.seq (.block 1
 (.seq (.regN [1, 3] [
 ⟨some 33, none, .fldA 3 (.tmp 1), 0, false⟩,⟨some 34, none, .ld1 (some 1) (.tmp 33), 0, false⟩,⟨some 35, none, .mv (.tmp 3), 0, false⟩,⟨some 36, none, .ixA 2 (.tmp 34) (.tmp 35), 0, false⟩,⟨some 37, none, .fldA 1 (.tmp 36), 0, false⟩,⟨some 38, none, .ld1 none (.tmp 37), 0, false⟩,⟨some 39, none, .len false (.tmp 38), 0, false⟩,⟨some 40, none, .bini .gtr (.tmp 39) (.con (.val (.int .i64 8))), 0, false⟩])
 (.cond (.tmp 40)
 (.seq (.regN [] [
 ⟨some 2, none, .mv (.con (.val (.int .i64 3))), 0, false⟩])
 .ret)
 .skip)))
 (.regN [1, 3] [
 ⟨some 31, none, .mv (.tmp 3), 0, false⟩,⟨some 32, none, .bini .add (.tmp 31) (.con (.val (.int .i64 1))), 0, false⟩,⟨some 3, none, .mv (.tmp 32), 0, false⟩])))
def t17L2 : AC := (.seq (.seq (.regN [1, 4, 5, 6] [
 ⟨some 82, none, .mv (.tmp 6), 0, false⟩,⟨some 83, none, .fldA 1 (.tmp 5), 0, false⟩,⟨some 84, none, .ld1 (some 5) (.tmp 83), 0, false⟩,⟨some 85, none, .len false (.tmp 84), 0, false⟩,⟨some 86, none, .bini .lss (.tmp 82) (.tmp 85), 0, false⟩])
 (.cond (.tmp 86)
 .skip
 (.exit 4)))
 (.seq (.block 5
 (.seq (.regD [1, 4, 5, 6] 0 [
 ⟨some 89, none, .fldA 1 (.tmp 5), 0, false⟩,⟨some 90, none, .ld1 (some 5) (.tmp 89), 0, false⟩,⟨some 91, none, .mv (.tmp 6), 0, false⟩,⟨some 92, none, .ixA 1 (.tmp 90) (.tmp 91), 0, false⟩,⟨some 93, none, .ld1 none (.tmp 92), 0, false⟩,⟨some 94, none, .bini .lss (.tmp 93) (.con (.val (.int .i64 0))), 0, false⟩,⟨some 95, none, .mv (.tmp 94), 0, false⟩,⟨some 96, some (95, false), .fldA 1 (.tmp 5), 0, false⟩,⟨some 97, some (95, false), .ld1 (some 5) (.tmp 96), 0, false⟩,⟨some 98, some (95, false), .mv (.tmp 6), 0, false⟩,⟨some 99, some (95, false), .ixA 1 (.tmp 97) (.tmp 98), 0, false⟩,⟨some 100, some (95, false), .ld1 none (.tmp 99), 0, false⟩,⟨some 101, some (95, false), .fldA 0 (.tmp 1), 0, false⟩,⟨some 102, some (95, false), .ld1 (some 1) (.tmp 101), 0, false⟩,⟨some 103, some (95, false), .fldA 1 (.tmp 1), 0, false⟩,⟨some 104, some (95, false), .ld1 (some 1) (.tmp 103), 0, false⟩,⟨some 105, some (95, false), .bini .add (.tmp 102) (.tmp 104), 0, false⟩,⟨some 106, some (95, false), .bini .geq (.tmp 100) (.tmp 105), 0, false⟩,⟨some 107, none, .pick (.tmp 95) (.con (.val (.bool true))) (.tmp 106), 0, false⟩])
 (.cond (.tmp 107)
 (.seq (.regN [] [
 ⟨some 2, none, .mv (.con (.val (.int .i64 2))), 0, false⟩])
 .ret)
 .skip)))
 (.regN [1, 4, 5, 6] [
 ⟨some 87, none, .mv (.tmp 6), 0, false⟩,⟨some 88, none, .bini .add (.tmp 87) (.con (.val (.int .i64 1))), 0, false⟩,⟨some 6, none, .mv (.tmp 88), 0, false⟩])))
def t17L3 : AC := (.seq (.seq (.regN [1, 4] [
 ⟨some 60, none, .mv (.tmp 4), 0, false⟩,⟨some 61, none, .fldA 3 (.tmp 1), 0, false⟩,⟨some 62, none, .ld1 (some 1) (.tmp 61), 0, false⟩,⟨some 63, none, .len false (.tmp 62), 0, false⟩,⟨some 64, none, .bini .lss (.tmp 60) (.tmp 63), 0, false⟩])
 (.cond (.tmp 64)
 .skip
 (.exit 2)))
 (.seq (.block 3
 (.seq (.regN [1, 4] [
 ⟨some 67, none, .fldA 3 (.tmp 1), 0, false⟩,⟨some 68, none, .ld1 (some 1) (.tmp 67), 0, false⟩,⟨some 69, none, .mv (.tmp 4), 0, false⟩,⟨some 70, none, .ixA 2 (.tmp 68) (.tmp 69), 0, false⟩,⟨some 71, none, .ldA none 2 (.tmp 70), 0, false⟩,⟨some 5, none, .allocR [(.val (.int .i64 0)), .e0], 0, false⟩,⟨none, none, .st (some 5) 2 (.tmp 5) (.tmp 71), 0, false⟩])
 (.seq (.seq (.regN [1, 4, 5] [
 ⟨some 72, none, .fldA 0 (.tmp 5), 0, false⟩,⟨some 73, none, .ld1 (some 5) (.tmp 72), 0, false⟩,⟨some 74, none, .bini .lss (.tmp 73) (.con (.val (.int .i64 0))), 0, false⟩,⟨some 75, none, .mv (.tmp 74), 0, false⟩,⟨some 76, some (75, false), .fldA 0 (.tmp 5), 0, false⟩,⟨some 77, some (75, false), .ld1 (some 5) (.tmp 76), 0, false⟩,⟨some 78, some (75, false), .fldA 1 (.tmp 1), 0, false⟩,⟨some 79, some (75, false), .ld1 (some 1) (.tmp 78), 0, false⟩,⟨some 80, some (75, false), .bini .geq (.tmp 77) (.tmp 79), 0, false⟩,⟨some 81, none, .pick (.tmp 75) (.con (.val (.bool true))) (.tmp 80), 0, false⟩])
 (.cond (.tmp 81)
 (.seq (.regN [] [
 ⟨some 2, none, .mv (.con (.val (.int .i64 2))), 0, false⟩])
 .ret)
 .skip))
 (.seq (.regN [1, 4, 5] [
 ⟨some 6, none, .mv (.con (.val (.int .i64 0))), 0, false⟩])
 (.block 4
 (.loop [1, 4, 5, 6] t17L2))))))
 (.regN [1, 4] [
 ⟨some 65, none, .mv (.tmp 4), 0, false⟩,⟨some 66, none, .bini .add (.tmp 65) (.con (.val (.int .i64 1))), 0, false⟩,⟨some 4, none, .mv (.tmp 66), 0, false⟩])))
def t17B : AC := (.seq (.regN [0] [
 ⟨some 1, none, .boxR 4 (.tmp 0), 0, false⟩,⟨some 2, none, .mv (.con (.val (.int .i64 0))), 0, false⟩])
 (.seq (.seq (.regN [1] [
 ⟨some 7, none, .fldA 0 (.tmp 1), 0, false⟩,⟨some 8, none, .ld1 (some 1) (.tmp 7), 0, false⟩,⟨some 9, none, .bini .gtr (.tmp 8) (.con (.val (.int .i64 8))), 0, false⟩,⟨some 10, none, .mv (.tmp 9), 0, false⟩,⟨some 11, some (10, false), .fldA 1 (.tmp 1), 0, false⟩,⟨some 12, some (10, false), .ld1 (some 1) (.tmp 11), 0, false⟩,⟨some 13, some (10, false), .bini .gtr (.tmp 12) (.con (.val (.int .i64 16))), 0, false⟩,⟨some 14, none, .pick (.tmp 10) (.con (.val (.bool true))) (.tmp 13), 0, false⟩,⟨some 15, none, .mv (.tmp 14), 0, false⟩,⟨some 16, some (15, false), .fldA 2 (.tmp 1), 0, false⟩,⟨some 17, some (15, false), .ld1 (some 1) (.tmp 16), 0, false⟩,⟨some 18, some (15, false), .bini .gtr (.tmp 17) (.con (.val (.int .i64 3))), 0, false⟩,⟨some 19, none, .pick (.tmp 15) (.con (.val (.bool true))) (.tmp 18), 0, false⟩,⟨some 20, none, .mv (.tmp 19), 0, false⟩,⟨some 21, some (20, false), .fldA 3 (.tmp 1), 0, false⟩,⟨some 22, some (20, false), .ld1 (some 1) (.tmp 21), 0, false⟩,⟨some 23, some (20, false), .len false (.tmp 22), 0, false⟩,⟨some 24, some (20, false), .bini .gtr (.tmp 23) (.con (.val (.int .i64 64))), 0, false⟩,⟨some 25, none, .pick (.tmp 20) (.con (.val (.bool true))) (.tmp 24), 0, false⟩])
 (.cond (.tmp 25)
 (.seq (.regN [] [
 ⟨some 2, none, .mv (.con (.val (.int .i64 3))), 0, false⟩])
 .ret)
 .skip))
 (.seq (.seq (.regN [1] [
 ⟨some 3, none, .mv (.con (.val (.int .i64 0))), 0, false⟩])
 (.block 0
 (.loop [1, 3] t17L1)))
 (.seq (.seq (.regN [1] [
 ⟨some 41, none, .fldA 0 (.tmp 1), 0, false⟩,⟨some 42, none, .ld1 (some 1) (.tmp 41), 0, false⟩,⟨some 43, none, .bini .lss (.tmp 42) (.con (.val (.int .i64 1))), 0, false⟩,⟨some 44, none, .mv (.tmp 43), 0, false⟩,⟨some 45, some (44, false), .fldA 1 (.tmp 1), 0, false⟩,⟨some 46, some (44, false), .ld1 (some 1) (.tmp 45), 0, false⟩,⟨some 47, some (44, false), .bini .lss (.tmp 46) (.con (.val (.int .i64 1))), 0, false⟩,⟨some 48, none, .pick (.tmp 44) (.con (.val (.bool true))) (.tmp 47), 0, false⟩,⟨some 49, none, .mv (.tmp 48), 0, false⟩,⟨some 50, some (49, false), .fldA 2 (.tmp 1), 0, false⟩,⟨some 51, some (49, false), .ld1 (some 1) (.tmp 50), 0, false⟩,⟨some 52, some (49, false), .bini .lss (.tmp 51) (.con (.val (.int .i64 1))), 0, false⟩,⟨some 53, none, .pick (.tmp 49) (.con (.val (.bool true))) (.tmp 52), 0, false⟩,⟨some 54, none, .mv (.tmp 53), 0, false⟩,⟨some 55, some (54, false), .fldA 3 (.tmp 1), 0, false⟩,⟨some 56, some (54, false), .ld1 (some 1) (.tmp 55), 0, false⟩,⟨some 57, some (54, false), .len false (.tmp 56), 0, false⟩,⟨some 58, some (54, false), .bini .lss (.tmp 57) (.con (.val (.int .i64 1))), 0, false⟩,⟨some 59, none, .pick (.tmp 54) (.con (.val (.bool true))) (.tmp 58), 0, false⟩])
 (.cond (.tmp 59)
 (.seq (.regN [] [
 ⟨some 2, none, .mv (.con (.val (.int .i64 2))), 0, false⟩])
 .ret)
 .skip))
 (.seq (.seq (.regN [1] [
 ⟨some 4, none, .mv (.con (.val (.int .i64 0))), 0, false⟩])
 (.block 2
 (.loop [1, 4] t17L3)))
 (.seq (.regN [] [
 ⟨some 2, none, .mv (.con (.val (.int .i64 0))), 0, false⟩])
 .ret))))))
def t17 : AFn := ⟨1, t17B,
 [.tmp 2], true⟩
/-- viewport/viewportlaw12.derives  -/
def t18L1 : AC := (.seq (.seq (.regN [1, 2, 3, 8, 9, 10, 11, 12, 13] [
 ⟨some 45, none, .mv (.tmp 13), 0, false⟩,⟨some 46, none, .fldA 3 (.tmp 3), 0, false⟩,⟨some 47, none, .ld1 (some 3) (.tmp 46), 0, false⟩,⟨some 48, none, .len false (.tmp 47), 0, false⟩,⟨some 49, none, .bini .lss (.tmp 45) (.tmp 48), 0, false⟩])
 (.cond (.tmp 49)
 .skip
 (.exit 2)))
 (.seq (.block 3
 (.seq (.regD [1, 2, 3, 8, 9, 10, 11, 12, 13] 0 [
 ⟨some 52, none, .fldA 3 (.tmp 3), 0, false⟩,⟨some 53, none, .ld1 (some 3) (.tmp 52), 0, false⟩,⟨some 54, none, .mv (.tmp 13), 0, false⟩,⟨some 55, none, .ixA 2 (.tmp 53) (.tmp 54), 0, false⟩,⟨some 56, none, .fldA 0 (.tmp 55), 0, false⟩,⟨some 57, none, .ld1 none (.tmp 56), 0, false⟩,⟨some 58, none, .mv (.tmp 11), 0, false⟩,⟨some 59, none, .fldA 0 (.tmp 3), 0, false⟩,⟨some 60, none, .ld1 (some 3) (.tmp 59), 0, false⟩,⟨some 61, none, .bini .sub (.tmp 58) (.tmp 60), 0, false⟩,⟨some 62, none, .bini .eql (.tmp 57) (.tmp 61), 0, false⟩])
 (.cond (.tmp 62)
 (.regN [1, 2, 3, 8, 9, 10, 11, 12, 13] [
 ⟨some 63, none, .mv (.tmp 12), 0, false⟩,⟨some 64, none, .mv (.tmp 13), 0, false⟩,⟨some 65, none, .buildS 1 [(.val (.int .i64 0))] [(0, 1, (.tmp 64))], 0, false⟩,⟨some 66, none, .app 1 8 (.tmp 63) (.tmp 65), 0, false⟩,⟨some 12, none, .mv (.tmp 66), 0, false⟩])
 .skip)))
 (.regN [1, 2, 3, 8, 9, 10, 11, 12, 13] [
 ⟨some 50, none, .mv (.tmp 13), 0, false⟩,⟨some 51, none, .bini .add (.tmp 50) (.con (.val (.int .i64 1))), 0, false⟩,⟨some 13, none, .mv (.tmp 51), 0, false⟩])))
def t18L2 : AC := (.seq (.seq (.regN [1, 2, 3, 8, 9, 10, 14, 15] [
 ⟨some 107, none, .mv (.tmp 15), 0, false⟩,⟨some 108, none, .bini .geq (.tmp 107) (.con (.val (.int .i64 0))), 0, false⟩])
 (.cond (.tmp 108)
 .skip
 (.exit 4)))
 (.seq (.block 5
 (.regN [1, 2, 3, 8, 9, 10, 14, 15] [
 ⟨some 111, none, .mv (.tmp 8), 0, false⟩,⟨some 112, none, .fldA 1 (.tmp 14), 0, false⟩,⟨some 113, none, .ld1 (some 14) (.tmp 112), 0, false⟩,⟨some 114, none, .mv (.tmp 15), 0, false⟩,⟨some 115, none, .ixA 1 (.tmp 113) (.tmp 114), 0, false⟩,⟨some 116, none, .ld1 none (.tmp 115), 0, false⟩,⟨some 117, none, .buildS 1 [(.val (.int .i64 0))] [(0, 1, (.tmp 116))], 0, false⟩,⟨some 118, none, .app 1 8 (.tmp 111) (.tmp 117), 0, false⟩,⟨some 8, none, .mv (.tmp 118), 0, false⟩]))
 (.regN [1, 2, 3, 8, 9, 10, 14, 15] [
 ⟨some 109, none, .mv (.tmp 15), 0, false⟩,⟨some 110, none, .bini .sub (.tmp 109) (.con (.val (.int .i64 1))), 0, false⟩,⟨some 15, none, .mv (.tmp 110), 0, false⟩])))
def t18L3 : AC := (.seq (.seq (.regN [1, 2, 3, 8, 9, 10] [
 ⟨some 19, none, .mv (.tmp 8), 0, false⟩,⟨some 20, none, .len false (.tmp 19), 0, false⟩,⟨some 21, none, .bini .gtr (.tmp 20) (.con (.val (.int .i64 0))), 0, false⟩])
 (.cond (.tmp 21)
 .skip
 (.exit 0)))
 (.seq (.block 1
 (.seq (.regN [1, 2, 3, 8, 9, 10] [
 ⟨some 24, none, .mv (.tmp 8), 0, false⟩,⟨some 25, none, .mv (.tmp 8), 0, false⟩,⟨some 26, none, .len false (.tmp 25), 0, false⟩,⟨some 27, none, .bini .sub (.tmp 26) (.con (.val (.int .i64 1))), 0, false⟩,⟨some 28, none, .ixA 1 (.tmp 24) (.tmp 27), 0, false⟩,⟨some 29, none, .ld1 none (.tmp 28), 0, false⟩,⟨some 11, none, .mv (.tmp 29), 0, false⟩])
 (.seq (.regN [1, 2, 3, 8, 9, 10, 11] [
 ⟨some 30, none, .mv (.tmp 8), 0, false⟩,⟨some 31, none, .mv (.tmp 8), 0, false⟩,⟨some 32, none, .len false (.tmp 31), 0, false⟩,⟨some 33, none, .bini .sub (.tmp 32) (.con (.val (.int .i64 1))), 0, false⟩,⟨some 34, none, .slC 1 (.tmp 30) none (some (.tmp 33)), 0, false⟩,⟨some 8, none, .mv (.tmp 34), 0, false⟩])
 (.seq (.seq (.regN [1, 2, 3, 8, 9, 10, 11] [
 ⟨some 35, none, .mv (.tmp 11), 0, false⟩,⟨some 36, none, .fldA 0 (.tmp 3), 0, false⟩,⟨some 37, none, .ld1 (some 3) (.tmp 36), 0, false⟩,⟨some 38, none, .bini .lss (.tmp 35) (.tmp 37), 0, false⟩])
 (.cond (.tmp 38)
 (.seq (.regN [1, 2, 3, 8, 9, 10, 11] [
 ⟨some 39, none, .mv (.tmp 9), 0, false⟩,⟨some 40, none, .mv (.tmp 11), 0, false⟩,⟨some 41, none, .cvi .u8 (.tmp 40), 0, false⟩,⟨some 42, none, .buildS 1 [(.val (.int .u8 0))] [(0, 1, (.tmp 41))], 0, false⟩,⟨some 43, none, .b2s (.tmp 42), 0, false⟩,⟨some 44, none, .bins .add (.tmp 39) (.tmp 43), 0, false⟩,⟨some 9, none, .mv (.tmp 44), 0, false⟩])
 (.exit 1))
 .skip))
 (.seq (.regN [1, 2, 3, 8, 9, 10, 11] [
 ⟨some 12, none, .mv (.con .e0), 0, false⟩])
 (.seq (.seq (.regN [1, 2, 3, 8, 9, 10, 11, 12] [
 ⟨some 13, none, .mv (.con (.val (.int .i64 0))), 0, false⟩])
 (.block 2
 (.loop [1, 2, 3, 8, 9, 10, 11, 12, 13] t18L1)))
 (.seq (.seq (.regN [1, 2, 3, 8, 9, 10, 12] [
 ⟨some 67, none, .mv (.tmp 12), 0, false⟩,⟨some 68, none, .len false (.tmp 67), 0, false⟩,⟨some 69, none, .bini .eql (.tmp 68) (.con (.val (.int .i64 0))), 0, false⟩,⟨some 70, none, .mv (.tmp 69), 0, false⟩,⟨some 71, some (70, false), .mv (.tmp 1), 0, false⟩,⟨some 72, some (70, false), .len false (.tmp 71), 0, false⟩,⟨some 73, some (70, false), .bini .eql (.tmp 72) (.con (.val (.int .i64 0))), 0, false⟩,⟨some 74, none, .pick (.tmp 70) (.con (.val (.bool true))) (.tmp 73), 0, false⟩,⟨some 75, none, .mv (.tmp 74), 0, false⟩,⟨some 76, some (75, false), .mv (.tmp 2), 0, false⟩,⟨some 77, some (75, false), .bini .eql (.tmp 76) (.con (.val (.int .i64 0))), 0, false⟩,⟨some 78, none, .pick (.tmp 75) (.con (.val (.bool true))) (.tmp 77), 0, false⟩,⟨some 79, none, .mv (.tmp 78), 0, false⟩,⟨some 80, some (79, false), .mv (.tmp 8), 0, false⟩,⟨some 81, some (79, false), .len false (.tmp 80), 0, false⟩,⟨some 82, some (79, false), .bini .gtr (.tmp 81) (.con (.val (.int .i64 200))), 0, false⟩,⟨some 83, none, .pick (.tmp 79) (.con (.val (.bool true))) (.tmp 82), 0, false⟩])
 (.cond (.tmp 83)
 (.seq (.regN [] [
 ⟨some 6, none, .mv (.con (.val (.string ⟨#[]⟩))), 0, false⟩,⟨some 7, none, .mv (.con (.val (.bool false))), 0, false⟩])
 .ret)
 .skip))
 (.seq (.regN [1, 2, 3, 8, 9, 10, 12] [
 ⟨some 84, none, .mv (.tmp 2), 0, false⟩,⟨some 85, none, .bini .sub (.tmp 84) (.con (.val (.int .i64 1))), 0, false⟩,⟨some 2, none, .mv (.tmp 85), 0, false⟩])
 (.seq (.regD [1, 2, 3, 8, 9, 10, 12] 0 [
 ⟨some 86, none, .fldA 3 (.tmp 3), 0, false⟩,⟨some 87, none, .ld1 (some 3) (.tmp 86), 0, false⟩,⟨some 88, none, .mv (.tmp 12), 0, false⟩,⟨some 89, none, .mv (.tmp 1), 0, false⟩,⟨some 90, none, .mv (.tmp 10), 0, false⟩,⟨some 91, none, .mv (.tmp 1), 0, false⟩,⟨some 92, none, .len false (.tmp 91), 0, false⟩,⟨some 93, none, .bini .rem (.tmp 90) (.tmp 92), 0, false⟩,⟨some 94, none, .ixA 1 (.tmp 89) (.tmp 93), 0, false⟩,⟨some 95, none, .ld1 none (.tmp 94), 0, false⟩,⟨some 96, none, .mv (.tmp 12), 0, false⟩,⟨some 97, none, .len false (.tmp 96), 0, false⟩,⟨some 98, none, .call 25 [(.tmp 95), (.tmp 97)], 0, true⟩,⟨some 99, none, .ixA 1 (.tmp 88) (.tmp 98), 0, false⟩,⟨some 100, none, .ld1 none (.tmp 99), 0, false⟩,⟨some 101, none, .ixA 2 (.tmp 87) (.tmp 100), 0, false⟩,⟨some 102, none, .ldA none 2 (.tmp 101), 0, false⟩,⟨some 14, none, .allocR [(.val (.int .i64 0)), .e0], 0, false⟩,⟨none, none, .st (some 14) 2 (.tmp 14) (.tmp 102), 0, false⟩])
 (.seq (.regN [1, 2, 3, 8, 9, 10, 14] [
 ⟨some 103, none, .fldA 1 (.tmp 14), 0, false⟩,⟨some 104, none, .ld1 (some 14) (.tmp 103), 0, false⟩,⟨some 105, none, .len false (.tmp 104), 0, false⟩,⟨some 106, none, .bini .sub (.tmp 105) (.con (.val (.int .i64 1))), 0, false⟩,⟨some 15, none, .mv (.tmp 106), 0, false⟩])
 (.block 4
 (.loop [1, 2, 3, 8, 9, 10, 14, 15] t18L2))))))))))))
 (.regN [1, 2, 3, 8, 9, 10] [
 ⟨some 22, none, .mv (.tmp 10), 0, false⟩,⟨some 23, none, .bini .add (.tmp 22) (.con (.val (.int .i64 1))), 0, false⟩,⟨some 10, none, .mv (.tmp 23), 0, false⟩])))
def t18B : AC := (.seq (.regN [0, 1, 2] [
 ⟨some 3, none, .boxR 4 (.tmp 0), 0, false⟩,⟨some 6, none, .mv (.con (.val (.string ⟨#[]⟩))), 0, false⟩,⟨some 7, none, .mv (.con (.val (.bool false))), 0, false⟩])
 (.seq (.regN [1, 2, 3] [
 ⟨some 16, none, .fldA 0 (.tmp 3), 0, false⟩,⟨some 17, none, .ld1 (some 3) (.tmp 16), 0, false⟩,⟨some 18, none, .buildH 1 1 [(.val (.int .i64 0))] [(0, 1, (.tmp 17))], 0, false⟩,⟨some 8, none, .mv (.tmp 18), 0, false⟩])
 (.seq (.regN [1, 2, 3, 8] [
 ⟨some 9, none, .mv (.con (.val (.string ⟨#[]⟩))), 0, false⟩])
 (.seq (.seq (.regN [1, 2, 3, 8, 9] [
 ⟨some 10, none, .mv (.con (.val (.int .i64 0))), 0, false⟩])
 (.block 0
 (.loop [1, 2, 3, 8, 9, 10] t18L3)))
 (.seq (.regN [9] [
 ⟨some 119, none, .mv (.tmp 9), 0, false⟩,⟨some 6, none, .mv (.tmp 119), 0, false⟩,⟨some 7, none, .mv (.con (.val (.bool true))), 0, false⟩])
 .ret)))))
def t18 : AFn := ⟨3, t18B,
 [.tmp 6, .tmp 7], true⟩
/-- viewport/viewportkit.Pick  -/
def t25B : AC := (.seq (.regN [0, 1] [
 ⟨some 4, none, .mv (.con (.val (.int .i64 0))), 0, false⟩])
 (.seq (.seq (.regN [0, 1] [
 ⟨some 6, none, .mv (.tmp 1), 0, false⟩,⟨some 7, none, .bini .lss (.tmp 6) (.con (.val (.int .i64 1))), 0, false⟩])
 (.cond (.tmp 7)
 (.seq (.regN [] [
 ⟨some 4, none, .mv (.con (.val (.int .i64 0))), 0, false⟩])
 .ret)
 .skip))
 (.seq (.regN [0, 1] [
 ⟨some 8, none, .mv (.tmp 0), 0, false⟩,⟨some 9, none, .mv (.tmp 1), 0, false⟩,⟨some 10, none, .bini .rem (.tmp 8) (.tmp 9), 0, false⟩,⟨some 5, none, .mv (.tmp 10), 0, false⟩])
 (.seq (.seq (.regN [1, 5] [
 ⟨some 11, none, .mv (.tmp 5), 0, false⟩,⟨some 12, none, .bini .lss (.tmp 11) (.con (.val (.int .i64 0))), 0, false⟩])
 (.cond (.tmp 12)
 (.regN [1, 5] [
 ⟨some 13, none, .mv (.tmp 5), 0, false⟩,⟨some 14, none, .mv (.tmp 1), 0, false⟩,⟨some 15, none, .bini .add (.tmp 13) (.tmp 14), 0, false⟩,⟨some 5, none, .mv (.tmp 15), 0, false⟩])
 .skip))
 (.seq (.regN [5] [
 ⟨some 16, none, .mv (.tmp 5), 0, false⟩,⟨some 4, none, .mv (.tmp 16), 0, false⟩])
 .ret)))))
def t25 : AFn := ⟨2, t25B,
 [.tmp 4], true⟩
/-- viewport/viewportlaw12.FirstMore  -/
def t5L1 : AC := (.seq (.seq (.regN [2, 6, 7, 9, 10, 11] [
 ⟨some 68, none, .mv (.tmp 11), 0, false⟩,⟨some 69, none, .mv (.tmp 6), 0, false⟩,⟨some 70, none, .mv (.tmp 10), 0, false⟩,⟨some 71, none, .ixA 1 (.tmp 69) (.tmp 70), 0, false⟩,⟨some 72, none, .ld1 none (.tmp 71), 0, false⟩,⟨some 73, none, .len false (.tmp 72), 0, false⟩,⟨some 74, none, .bini .lss (.tmp 68) (.tmp 73), 0, false⟩])
 (.cond (.tmp 74)
 .skip
 (.exit 2)))
 (.seq (.block 3
 (.seq (.regD [2, 6, 7, 9, 10, 11] 0 [
 ⟨some 77, none, .mv (.tmp 7), 0, false⟩,⟨some 78, none, .mv (.tmp 10), 0, false⟩,⟨some 79, none, .ixA 1 (.tmp 77) (.tmp 78), 0, false⟩,⟨some 80, none, .ld1 none (.tmp 79), 0, false⟩,⟨some 81, none, .mv (.tmp 6), 0, false⟩,⟨some 82, none, .mv (.tmp 10), 0, false⟩,⟨some 83, none, .ixA 1 (.tmp 81) (.tmp 82), 0, false⟩,⟨some 84, none, .ld1 none (.tmp 83), 0, false⟩,⟨some 85, none, .mv (.tmp 11), 0, false⟩,⟨some 86, none, .ixA 1 (.tmp 84) (.tmp 85), 0, false⟩,⟨some 87, none, .ld1 none (.tmp 86), 0, false⟩,⟨some 88, none, .call 14 [(.tmp 80), (.tmp 87)], 0, true⟩,⟨some 89, none, .not (.tmp 88), 0, false⟩])
 (.cond (.tmp 89)
 (.seq (.regN [] [
 ⟨some 4, none, .mv (.con (.val (.bool false))), 0, false⟩])
 .ret)
 .skip)))
 (.regN [2, 6, 7, 9, 10, 11] [
 ⟨some 75, none, .mv (.tmp 11), 0, false⟩,⟨some 76, none, .bini .add (.tmp 75) (.con (.val (.int .i64 1))), 0, false⟩,⟨some 11, none, .mv (.tmp 76), 0, false⟩])))
def t5L2 : AC := (.seq (.seq (.regN [2, 6, 7, 9, 10] [
 ⟨some 62, none, .mv (.tmp 10), 0, false⟩,⟨some 63, none, .fldA 1 (.tmp 2), 0, false⟩,⟨some 64, none, .ld1 (some 2) (.tmp 63), 0, false⟩,⟨some 65, none, .bini .lss (.tmp 62) (.tmp 64), 0, false⟩])
 (.cond (.tmp 65)
 .skip
 (.exit 0)))
 (.seq (.block 1
 (.seq (.seq (.regN [2, 6, 7, 9, 10] [
 ⟨some 11, none, .mv (.con (.val (.int .i64 0))), 0, false⟩])
 (.block 2
 (.loop [2, 6, 7, 9, 10, 11] t5L1)))
 (.seq (.regD [2, 6, 7, 9, 10] 0 [
 ⟨some 90, none, .mv (.tmp 6), 0, false⟩,⟨some 91, none, .mv (.tmp 10), 0, false⟩,⟨some 92, none, .ixA 1 (.tmp 90) (.tmp 91), 0, false⟩,⟨some 93, none, .ld1 none (.tmp 92), 0, false⟩,⟨some 94, none, .buildS 1 [(.val (.string ⟨#[]⟩))] [(0, 1, (.con (.val (.string ⟨#[]⟩))))], 0, false⟩,⟨some 95, none, .call 12 [(.con (.val (.int .i64 1))), (.tmp 93), (.tmp 94)], 0, false⟩,⟨some 96, none, .mv (.tmp 9), 0, false⟩,⟨some 97, none, .mv (.tmp 10), 0, false⟩,⟨some 98, none, .ixA 1 (.tmp 96) (.tmp 97), 0, false⟩,⟨some 99, none, .ld1 none (.tmp 98), 0, false⟩,⟨some 100, none, .call 13 [(.tmp 95), (.tmp 99)], 0, true⟩,⟨some 101, none, .not (.tmp 100), 0, false⟩])
 (.cond (.tmp 101)
 (.seq (.regN [] [
 ⟨some 4, none, .mv (.con (.val (.bool false))), 0, false⟩])
 .ret)
 .skip))))
 (.regN [2, 6, 7, 9, 10] [
 ⟨some 66, none, .mv (.tmp 10), 0, false⟩,⟨some 67, none, .bini .add (.tmp 66) (.con (.val (.int .i64 1))), 0, false⟩,⟨some 10, none, .mv (.tmp 67), 0, false⟩])))
def t5B : AC := (.seq (.regN [0, 1] [
 ⟨some 2, none, .boxR 4 (.tmp 0), 0, false⟩,⟨some 3, none, .boxR 2 (.tmp 1), 0, false⟩,⟨some 4, none, .mv (.con (.val (.bool false))), 0, false⟩])
 (.seq (.seq (.regN [2, 3] [
 ⟨some 12, none, .call 10 [], 0, false⟩,⟨some 13, none, .not (.tmp 12), 0, false⟩])
 (.cond (.tmp 13)
 (.seq (.regN [] [
 ⟨some 4, none, .mv (.con (.val (.bool false))), 0, false⟩])
 .ret)
 .skip))
 (.seq (.regN [2, 3] [
 ⟨some 14, none, .ldA (some 2) 4 (.tmp 2), 0, false⟩,⟨some 15, none, .call 20 [(.tmp 14)], 0, false⟩,⟨some 5, none, .allocR [(.val (.int .i64 0)), (.val (.int .i64 0)), (.val (.int .i64 0)), .e0], 0, false⟩,⟨none, none, .st (some 5) 4 (.tmp 5) (.tmp 15), 0, false⟩])
 (.seq (.regN [2, 3, 5] [
 ⟨some 16, none, .fldA 3 (.tmp 5), 0, false⟩,⟨some 17, none, .ld1 (some 5) (.tmp 16), 0, false⟩,⟨some 18, none, .ldA (some 3) 2 (.tmp 3), 0, false⟩,⟨some 19, none, .buildS 1 [(.val (.int .i64 0)), .e0] [(0, 2, (.tmp 18))], 0, false⟩,⟨some 20, none, .app 2 32 (.tmp 17) (.tmp 19), 0, false⟩,⟨some 21, none, .fldA 3 (.tmp 5), 0, false⟩,⟨none, none, .st (some 5) 1 (.tmp 21) (.tmp 20), 0, false⟩])
 (.seq .frz
 (.seq (.seq (.regN [2, 5] [
 ⟨some 22, none, .ldA (some 5) 4 (.tmp 5), 0, false⟩,⟨some 23, none, .call 16 [(.tmp 22)], 0, false⟩,⟨some 24, none, .not (.tmp 23), 0, false⟩,⟨some 25, none, .mv (.tmp 24), 0, false⟩,⟨some 26, some (25, false), .ldA (some 2) 4 (.tmp 2), 0, false⟩,⟨some 27, some (25, false), .call 17 [(.tmp 26)], 0, false⟩,⟨some 28, some (25, false), .bini .neq (.tmp 27) (.con (.val (.int .i64 0))), 0, false⟩,⟨some 29, none, .pick (.tmp 25) (.con (.val (.bool true))) (.tmp 28), 0, false⟩,⟨some 30, none, .mv (.tmp 29), 0, false⟩,⟨some 31, some (30, false), .ldA (some 5) 4 (.tmp 5), 0, false⟩,⟨some 32, some (30, false), .call 17 [(.tmp 31)], 0, false⟩,⟨some 33, some (30, false), .bini .neq (.tmp 32) (.con (.val (.int .i64 0))), 0, false⟩,⟨some 34, none, .pick (.tmp 30) (.con (.val (.bool true))) (.tmp 33), 0, false⟩])
 (.cond (.tmp 34)
 (.seq (.regN [] [
 ⟨some 4, none, .mv (.con (.val (.bool true))), 0, false⟩])
 .ret)
 .skip))
 (.seq (.regD [2, 5] 0 [
 ⟨some 35, none, .ldA (some 2) 4 (.tmp 2), 0, false⟩,⟨some 36, none, .call 19 [(.tmp 35)], 0, true⟩,⟨some 37, none, .ldA (some 5) 4 (.tmp 5), 0, false⟩,⟨some 38, none, .call 19 [(.tmp 37)], 0, true⟩,⟨some 6, none, .mv (.tmp 36), 0, false⟩,⟨some 7, none, .mv (.tmp 38), 0, false⟩])
 (.seq (.regN [2, 6, 7] [
 ⟨some 39, none, .ldA (some 2) 4 (.tmp 2), 0, false⟩,⟨some 8, none, .allocR [(.val (.int .i64 0)), (.val (.int .i64 0)), (.val (.int .i64 0)), .e0], 0, false⟩,⟨none, none, .st (some 8) 4 (.tmp 8) (.tmp 39), 0, false⟩])
 (.seq (.regN [2, 6, 7, 8] [
 ⟨some 40, none, .fldA 2 (.tmp 8), 0, false⟩,⟨none, none, .st (some 8) 1 (.tmp 40) (.con (.val (.int .i64 1))), 0, false⟩])
 (.seq (.regN [2, 6, 7, 8] [
 ⟨some 41, none, .ldA (some 8) 4 (.tmp 8), 0, false⟩,⟨some 42, none, .call 19 [(.tmp 41)], 0, false⟩,⟨some 9, none, .mv (.tmp 42), 0, false⟩])
 (.seq (.seq (.regN [2, 6, 7, 9] [
 ⟨some 43, none, .mv (.tmp 6), 0, false⟩,⟨some 44, none, .len false (.tmp 43), 0, false⟩,⟨some 45, none, .fldA 1 (.tmp 2), 0, false⟩,⟨some 46, none, .ld1 (some 2) (.tmp 45), 0, false⟩,⟨some 47, none, .bini .neq (.tmp 44) (.tmp 46), 0, false⟩,⟨some 48, none, .mv (.tmp 47), 0, false⟩,⟨some 49, some (48, false), .mv (.tmp 7), 0, false⟩,⟨some 50, some (48, false), .len false (.tmp 49), 0, false⟩,⟨some 51, some (48, false), .fldA 1 (.tmp 2), 0, false⟩,⟨some 52, some (48, false), .ld1 (some 2) (.tmp 51), 0, false⟩,⟨some 53, some (48, false), .bini .neq (.tmp 50) (.tmp 52), 0, false⟩,⟨some 54, none, .pick (.tmp 48) (.con (.val (.bool true))) (.tmp 53), 0, false⟩,⟨some 55, none, .mv (.tmp 54), 0, false⟩,⟨some 56, some (55, false), .mv (.tmp 9), 0, false⟩,⟨some 57, some (55, false), .len false (.tmp 56), 0, false⟩,⟨some 58, some (55, false), .fldA 1 (.tmp 2), 0, false⟩,⟨some 59, some (55, false), .ld1 (some 2) (.tmp 58), 0, false⟩,⟨some 60, some (55, false), .bini .neq (.tmp 57) (.tmp 59), 0, false⟩,⟨some 61, none, .pick (.tmp 55) (.con (.val (.bool true))) (.tmp 60), 0, false⟩])
 (.cond (.tmp 61)
 (.seq (.regN [] [
 ⟨some 4, none, .mv (.con (.val (.bool false))), 0, false⟩])
 .ret)
 .skip))
 (.seq (.seq (.regN [2, 6, 7, 9] [
 ⟨some 10, none, .mv (.con (.val (.int .i64 0))), 0, false⟩])
 (.block 0
 (.loop [2, 6, 7, 9, 10] t5L2)))
 (.seq (.regN [] [
 ⟨some 4, none, .mv (.con (.val (.bool true))), 0, false⟩])
 .ret)))))))))))))
def t5 : AFn := ⟨2, t5B,
 [.tmp 4], true⟩
/-- viewport/viewportkit.OwnGrammar  -/
def t20L1 : AC := (.seq (.seq (.regN [1, 2, 3] [
 ⟨some 8, none, .mv (.tmp 3), 0, false⟩,⟨some 9, none, .fldA 3 (.tmp 1), 0, false⟩,⟨some 10, none, .ld1 (some 1) (.tmp 9), 0, false⟩,⟨some 11, none, .len false (.tmp 10), 0, false⟩,⟨some 12, none, .bini .lss (.tmp 8) (.tmp 11), 0, false⟩])
 (.cond (.tmp 12)
 .skip
 (.exit 0)))
 (.seq (.block 1
 (.regD [1, 2, 3] 0 [
 ⟨some 15, none, .fldA 3 (.tmp 1), 0, false⟩,⟨some 16, none, .ld1 (some 1) (.tmp 15), 0, false⟩,⟨some 17, none, .mv (.tmp 3), 0, false⟩,⟨some 18, none, .fldA 3 (.tmp 1), 0, false⟩,⟨some 19, none, .ld1 (some 1) (.tmp 18), 0, false⟩,⟨some 20, none, .mv (.tmp 3), 0, false⟩,⟨some 21, none, .ixA 2 (.tmp 19) (.tmp 20), 0, false⟩,⟨some 22, none, .fldA 1 (.tmp 21), 0, false⟩,⟨some 23, none, .ld1 none (.tmp 22), 0, false⟩,⟨some 24, none, .call 47 [(.tmp 23)], 0, true⟩,⟨some 25, none, .ixA 2 (.tmp 16) (.tmp 17), 0, false⟩,⟨some 26, none, .fldA 1 (.tmp 25), 0, false⟩,⟨none, none, .st none 1 (.tmp 26) (.tmp 24), 0, false⟩]))
 (.regN [1, 2, 3] [
 ⟨some 13, none, .mv (.tmp 3), 0, false⟩,⟨some 14, none, .bini .add (.tmp 13) (.con (.val (.int .i64 1))), 0, false⟩,⟨some 3, none, .mv (.tmp 14), 0, false⟩])))
def t20B : AC := (.seq (.regN [0] [
 ⟨some 1, none, .boxR 4 (.tmp 0), 0, false⟩,⟨some 2, none, .allocR [(.val (.int .i64 0)), (.val (.int .i64 0)), (.val (.int .i64 0)), .e0], 0, false⟩])
 (.seq (.regN [1, 2] [
 ⟨some 4, none, .fldA 3 (.tmp 1), 0, false⟩,⟨some 5, none, .ld1 (some 1) (.tmp 4), 0, false⟩,⟨some 6, none, .call 46 [(.tmp 5)], 0, false⟩,⟨some 7, none, .fldA 3 (.tmp 1), 0, false⟩,⟨none, none, .st (some 1) 1 (.tmp 7) (.tmp 6), 0, false⟩])
 (.seq (.seq (.regN [1, 2] [
 ⟨some 3, none, .mv (.con (.val (.int .i64 0))), 0, false⟩])
 (.block 0
 (.loop [1, 2, 3] t20L1)))
 (.seq (.regN [1, 2] [
 ⟨some 27, none, .ldA (some 1) 4 (.tmp 1), 0, false⟩,⟨none, none, .st (some 2) 4 (.tmp 2) (.tmp 27), 0, false⟩])
 .ret))))
def t20 : AFn := ⟨1, t20B,
 [.cell 2 4 true], false⟩
/-- viewport/viewportkit.Own[viewport/api.Prod]  -/
def t46B : AC := (.seq (.regN [0] [
 ⟨some 2, none, .mv (.con .e0), 0, false⟩])
 (.seq (.regN [0] [
 ⟨some 3, none, .buildS 0 [] [], 0, false⟩,⟨some 4, none, .mv (.tmp 0), 0, false⟩,⟨some 5, none, .app 2 32 (.tmp 3) (.tmp 4), 0, false⟩,⟨some 2, none, .mv (.tmp 5), 0, false⟩])
 .ret))
def t46 : AFn := ⟨1, t46B,
 [.tmp 2], false⟩
/-- viewport/viewportkit.Own[int]  -/
def t47B : AC := (.seq (.regN [0] [
 ⟨some 2, none, .mv (.con .e0), 0, false⟩])
 (.seq (.regN [0] [
 ⟨some 3, none, .buildS 0 [] [], 0, false⟩,⟨some 4, none, .mv (.tmp 0), 0, false⟩,⟨some 5, none, .app 1 8 (.tmp 3) (.tmp 4), 0, false⟩,⟨some 2, none, .mv (.tmp 5), 0, false⟩])
 .ret))
def t47 : AFn := ⟨1, t47B,
 [.tmp 2], true⟩
/-- viewport/viewportlaw12.FirstFixed  -/
def t6L1 : AC := (.seq (.seq (.regN [1, 3, 4, 5, 6, 7, 8] [
 ⟨some 37, none, .mv (.tmp 8), 0, false⟩,⟨some 38, none, .fldA 3 (.tmp 1), 0, false⟩,⟨some 39, none, .ld1 (some 1) (.tmp 38), 0, false⟩,⟨some 40, none, .len false (.tmp 39), 0, false⟩,⟨some 41, none, .bini .lss (.tmp 37) (.tmp 40), 0, false⟩])
 (.cond (.tmp 41)
 .skip
 (.exit 2)))
 (.seq (.block 3
 (.seq (.regN [1, 3, 4, 5, 6, 7, 8] [
 ⟨some 44, none, .fldA 3 (.tmp 1), 0, false⟩,⟨some 45, none, .ld1 (some 1) (.tmp 44), 0, false⟩,⟨some 46, none, .mv (.tmp 8), 0, false⟩,⟨some 47, none, .ixA 2 (.tmp 45) (.tmp 46), 0, false⟩,⟨some 48, none, .fldA 0 (.tmp 47), 0, false⟩,⟨some 49, none, .ld1 none (.tmp 48), 0, false⟩,⟨some 50, none, .mv (.tmp 6), 0, false⟩,⟨some 51, none, .bini .eql (.tmp 49) (.tmp 50), 0, false⟩])
 (.cond (.tmp 51)
 (.regD [1, 3, 4, 5, 6, 7, 8] 0 [
 ⟨some 52, none, .mv (.tmp 7), 0, false⟩,⟨some 53, none, .ldA (some 1) 4 (.tmp 1), 0, false⟩,⟨some 54, none, .mv (.tmp 3), 0, false⟩,⟨some 55, none, .fldA 3 (.tmp 1), 0, false⟩,⟨some 56, none, .ld1 (some 1) (.tmp 55), 0, false⟩,⟨some 57, none, .mv (.tmp 8), 0, false⟩,⟨some 58, none, .ixA 2 (.tmp 56) (.tmp 57), 0, false⟩,⟨some 59, none, .fldA 1 (.tmp 58), 0, false⟩,⟨some 60, none, .ld1 none (.tmp 59), 0, false⟩,⟨some 61, none, .call 23 [(.tmp 53), (.tmp 54), (.tmp 60)], 0, true⟩,⟨some 62, none, .call 15 [(.tmp 52), (.tmp 61)], 0, true⟩,⟨some 7, none, .mv (.tmp 62), 0, false⟩])
 .skip)))
 (.regN [1, 3, 4, 5, 6, 7, 8] [
 ⟨some 42, none, .mv (.tmp 8), 0, false⟩,⟨some 43, none, .bini .add (.tmp 42) (.con (.val (.int .i64 1))), 0, false⟩,⟨some 8, none, .mv (.tmp 43), 0, false⟩])))
def t6L2 : AC := (.seq (.seq (.regN [1, 3, 4, 5, 6, 9] [
 ⟨some 95, none, .mv (.tmp 9), 0, false⟩,⟨some 96, none, .mv (.tmp 3), 0, false⟩,⟨some 97, none, .mv (.tmp 6), 0, false⟩,⟨some 98, none, .ixA 1 (.tmp 96) (.tmp 97), 0, false⟩,⟨some 99, none, .ld1 none (.tmp 98), 0, false⟩,⟨some 100, none, .len false (.tmp 99), 0, false⟩,⟨some 101, none, .bini .lss (.tmp 95) (.tmp 100), 0, false⟩])
 (.cond (.tmp 101)
 .skip
 (.exit 4)))
 (.seq (.block 5
 (.seq (.regD [1, 3, 4, 5, 6, 9] 0 [
 ⟨some 104, none, .mv (.tmp 3), 0, false⟩,⟨some 105, none, .mv (.tmp 6), 0, false⟩,⟨some 106, none, .ixA 1 (.tmp 104) (.tmp 105), 0, false⟩,⟨some 107, none, .ld1 none (.tmp 106), 0, false⟩,⟨some 108, none, .mv (.tmp 9), 0, false⟩,⟨some 109, none, .ixA 1 (.tmp 107) (.tmp 108), 0, false⟩,⟨some 110, none, .ld1 none (.tmp 109), 0, false⟩,⟨some 111, none, .len true (.tmp 110), 0, false⟩,⟨some 112, none, .fldA 2 (.tmp 1), 0, false⟩,⟨some 113, none, .ld1 (some 1) (.tmp 112), 0, false⟩,⟨some 114, none, .bini .gtr (.tmp 111) (.tmp 113), 0, false⟩,⟨some 115, none, .mv (.tmp 114), 0, false⟩,⟨some 116, some (115, false), .mv (.tmp 9), 0, false⟩,⟨some 117, some (115, false), .bini .gtr (.tmp 116) (.con (.val (.int .i64 0))), 0, false⟩,⟨some 118, some (115, false), .mv (.tmp 117), 0, false⟩,⟨some 119, some (118, true), .mv (.tmp 3), 0, false⟩,⟨some 120, some (118, true), .mv (.tmp 6), 0, false⟩,⟨some 121, some (118, true), .ixA 1 (.tmp 119) (.tmp 120), 0, false⟩,⟨some 122, some (118, true), .ld1 none (.tmp 121), 0, false⟩,⟨some 123, some (118, true), .mv (.tmp 9), 0, false⟩,⟨some 124, some (118, true), .bini .sub (.tmp 123) (.con (.val (.int .i64 1))), 0, false⟩,⟨some 125, some (118, true), .ixA 1 (.tmp 122) (.tmp 124), 0, false⟩,⟨some 126, some (118, true), .ld1 none (.tmp 125), 0, false⟩,⟨some 127, some (118, true), .mv (.tmp 3), 0, false⟩,⟨some 128, some (118, true), .mv (.tmp 6), 0, false⟩,⟨some 129, some (118, true), .ixA 1 (.tmp 127) (.tmp 128), 0, false⟩,⟨some 130, some (118, true), .ld1 none (.tmp 129), 0, false⟩,⟨some 131, some (118, true), .mv (.tmp 9), 0, false⟩,⟨some 132, some (118, true), .ixA 1 (.tmp 130) (.tmp 131), 0, false⟩,⟨some 133, some (118, true), .ld1 none (.tmp 132), 0, false⟩,⟨some 134, some (118, true), .bins .geq (.tmp 126) (.tmp 133), 0, false⟩,⟨some 135, some (115, false), .pick (.tmp 118) (.tmp 134) (.con (.val (.bool false))), 0, false⟩,⟨some 136, none, .pick (.tmp 115) (.con (.val (.bool true))) (.tmp 135), 0, false⟩])
 (.cond (.tmp 136)
 (.seq (.regN [] [
 ⟨some 2, none, .mv (.con (.val (.bool false))), 0, false⟩])
 .ret)
 .skip)))
 (.regN [1, 3, 4, 5, 6, 9] [
 ⟨some 102, none, .mv (.tmp 9), 0, false⟩,⟨some 103, none, .bini .add (.tmp 102) (.con (.val (.int .i64 1))), 0, false⟩,⟨some 9, none, .mv (.tmp 103), 0, false⟩])))
def t6L3 : AC := (.seq (.seq (.regN [1, 3, 4, 5, 6] [
 ⟨some 31, none, .mv (.tmp 6), 0, false⟩,⟨some 32, none, .fldA 1 (.tmp 1), 0, false⟩,⟨some 33, none, .ld1 (some 1) (.tmp 32), 0, false⟩,⟨some 34, none, .bini .lss (.tmp 31) (.tmp 33), 0, false⟩])
 (.cond (.tmp 34)
 .skip
 (.exit 0)))
 (.seq (.block 1
 (.seq (.regN [1, 3, 4, 5, 6] [
 ⟨some 7, none, .mv (.con .e0), 0, false⟩])
 (.seq (.seq (.regN [1, 3, 4, 5, 6, 7] [
 ⟨some 8, none, .mv (.con (.val (.int .i64 0))), 0, false⟩])
 (.block 2
 (.loop [1, 3, 4, 5, 6, 7, 8] t6L1)))
 (.seq (.seq (.regD [1, 3, 4, 5, 6, 7] 0 [
 ⟨some 63, none, .mv (.tmp 7), 0, false⟩,⟨some 64, none, .mv (.tmp 3), 0, false⟩,⟨some 65, none, .mv (.tmp 6), 0, false⟩,⟨some 66, none, .ixA 1 (.tmp 64) (.tmp 65), 0, false⟩,⟨some 67, none, .ld1 none (.tmp 66), 0, false⟩,⟨some 68, none, .call 13 [(.tmp 63), (.tmp 67)], 0, false⟩,⟨some 69, none, .not (.tmp 68), 0, false⟩,⟨some 70, none, .mv (.tmp 69), 0, false⟩,⟨some 71, some (70, false), .mv (.tmp 3), 0, false⟩,⟨some 72, some (70, false), .mv (.tmp 6), 0, false⟩,⟨some 73, some (70, false), .ixA 1 (.tmp 71) (.tmp 72), 0, false⟩,⟨some 74, some (70, false), .ld1 none (.tmp 73), 0, false⟩,⟨some 75, some (70, false), .call 14 [(.tmp 74), (.con (.val (.string ⟨#[]⟩)))], 0, false⟩,⟨some 76, some (70, false), .mv (.tmp 4), 0, false⟩,⟨some 77, some (70, false), .mv (.tmp 6), 0, false⟩,⟨some 78, some (70, false), .ixA 1 (.tmp 76) (.tmp 77), 0, false⟩,⟨some 79, some (70, false), .ld1 none (.tmp 78), 0, false⟩,⟨some 80, some (70, false), .eqb true (.tmp 75) (.tmp 79), 0, false⟩,⟨some 81, none, .pick (.tmp 70) (.con (.val (.bool true))) (.tmp 80), 0, false⟩,⟨some 82, none, .mv (.tmp 81), 0, false⟩,⟨some 83, some (82, false), .mv (.tmp 3), 0, false⟩,⟨some 84, some (82, false), .mv (.tmp 6), 0, false⟩,⟨some 85, some (82, false), .ixA 1 (.tmp 83) (.tmp 84), 0, false⟩,⟨some 86, some (82, false), .ld1 none (.tmp 85), 0, false⟩,⟨some 87, some (82, false), .len false (.tmp 86), 0, false⟩,⟨some 88, some (82, false), .bini .gtr (.tmp 87) (.con (.val (.int .i64 0))), 0, false⟩,⟨some 89, some (82, false), .mv (.tmp 5), 0, false⟩,⟨some 90, some (82, false), .mv (.tmp 6), 0, false⟩,⟨some 91, some (82, false), .ixA 1 (.tmp 89) (.tmp 90), 0, false⟩,⟨some 92, some (82, false), .ld1 none (.tmp 91), 0, false⟩,⟨some 93, some (82, false), .eqb true (.tmp 88) (.tmp 92), 0, false⟩,⟨some 94, none, .pick (.tmp 82) (.con (.val (.bool true))) (.tmp 93), 0, false⟩])
 (.cond (.tmp 94)
 (.seq (.regN [] [
 ⟨some 2, none, .mv (.con (.val (.bool false))), 0, false⟩])
 .ret)
 .skip))
 (.seq (.regN [1, 3, 4, 5, 6] [
 ⟨some 9, none, .mv (.con (.val (.int .i64 0))), 0, false⟩])
 (.block 4
 (.loop [1, 3, 4, 5, 6, 9] t6L2)))))))
 (.regN [1, 3, 4, 5, 6] [
 ⟨some 35, none, .mv (.tmp 6), 0, false⟩,⟨some 36, none, .bini .add (.tmp 35) (.con (.val (.int .i64 1))), 0, false⟩,⟨some 6, none, .mv (.tmp 36), 0, false⟩])))
def t6B : AC := (.seq (.regN [0] [
 ⟨some 1, none, .boxR 4 (.tmp 0), 0, false⟩,⟨some 2, none, .mv (.con (.val (.bool false))), 0, false⟩])
 (.seq (.seq (.regN [1] [
 ⟨some 10, none, .call 10 [], 0, false⟩,⟨some 11, none, .not (.tmp 10), 0, false⟩])
 (.cond (.tmp 11)
 (.seq (.regN [] [
 ⟨some 2, none, .mv (.con (.val (.bool false))), 0, false⟩])
 .ret)
 .skip))
 (.seq (.seq (.regN [1] [
 ⟨some 12, none, .ldA (some 1) 4 (.tmp 1), 0, false⟩,⟨some 13, none, .call 16 [(.tmp 12)], 0, false⟩,⟨some 14, none, .not (.tmp 13), 0, false⟩,⟨some 15, none, .mv (.tmp 14), 0, false⟩,⟨some 16, some (15, false), .ldA (some 1) 4 (.tmp 1), 0, false⟩,⟨some 17, some (15, false), .call 17 [(.tmp 16)], 0, false⟩,⟨some 18, some (15, false), .bini .neq (.tmp 17) (.con (.val (.int .i64 0))), 0, false⟩,⟨some 19, none, .pick (.tmp 15) (.con (.val (.bool true))) (.tmp 18), 0, false⟩])
 (.cond (.tmp 19)
 (.seq (.regN [] [
 ⟨some 2, none, .mv (.con (.val (.bool true))), 0, false⟩])
 .ret)
 .skip))
 (.seq (.regN [1] [
 ⟨some 20, none, .ldA (some 1) 4 (.tmp 1), 0, false⟩,⟨some 21, none, .call 19 [(.tmp 20)], 0, false⟩,⟨some 3, none, .mv (.tmp 21), 0, false⟩])
 (.seq (.seq (.regN [1, 3] [
 ⟨some 22, none, .mv (.tmp 3), 0, false⟩,⟨some 23, none, .len false (.tmp 22), 0, false⟩,⟨some 24, none, .fldA 1 (.tmp 1), 0, false⟩,⟨some 25, none, .ld1 (some 1) (.tmp 24), 0, false⟩,⟨some 26, none, .bini .neq (.tmp 23) (.tmp 25), 0, false⟩])
 (.cond (.tmp 26)
 (.seq (.regN [] [
 ⟨some 2, none, .mv (.con (.val (.bool false))), 0, false⟩])
 .ret)
 .skip))
 (.seq (.regD [1, 3] 0 [
 ⟨some 27, none, .ldA (some 1) 4 (.tmp 1), 0, false⟩,⟨some 28, none, .call 21 [(.tmp 27)], 0, true⟩,⟨some 29, none, .ldA (some 1) 4 (.tmp 1), 0, false⟩,⟨some 30, none, .call 22 [(.tmp 29)], 0, true⟩,⟨some 4, none, .mv (.tmp 28), 0, false⟩,⟨some 5, none, .mv (.tmp 30), 0, false⟩])
 (.seq (.seq (.regN [1, 3, 4, 5] [
 ⟨some 6, none, .mv (.con (.val (.int .i64 0))), 0, false⟩])
 (.block 0
 (.loop [1, 3, 4, 5, 6] t6L3)))
 (.seq (.regN [] [
 ⟨some 2, none, .mv (.con (.val (.bool true))), 0, false⟩])
 .ret))))))))
def t6 : AFn := ⟨1, t6B,
 [.tmp 2], true⟩
/-- viewport/viewportref11.Nullable  -/
def t21B : AC := (.seq (.regN [0] [
 ⟨some 1, none, .boxR 4 (.tmp 0), 0, false⟩,⟨some 2, none, .mv (.con .e0), 0, false⟩])
 (.seq (.regN [1] [
 ⟨some 3, none, .ldA (some 1) 4 (.tmp 1), 0, false⟩,⟨some 4, none, .call 48 [(.tmp 3), (.con (.val (.bool false)))], 0, false⟩,⟨some 2, none, .mv (.tmp 4), 0, false⟩])
 .ret))
def t21 : AFn := ⟨1, t21B,
 [.tmp 2], true⟩
/-- viewport/viewportref11.derive  -/
def t48L1 : AC := (.seq (.seq (.regN [1, 2, 5, 6, 7, 8, 9, 10] [
 ⟨some 37, none, .mv (.tmp 10), 0, false⟩,⟨some 38, none, .fldA 1 (.tmp 8), 0, false⟩,⟨some 39, none, .ld1 (some 8) (.tmp 38), 0, false⟩,⟨some 40, none, .len false (.tmp 39), 0, false⟩,⟨some 41, none, .bini .lss (.tmp 37) (.tmp 40), 0, false⟩,⟨some 42, none, .mv (.tmp 41), 0, false⟩,⟨some 43, some (42, true), .mv (.tmp 9), 0, false⟩,⟨some 44, none, .pick (.tmp 42) (.tmp 43) (.con (.val (.bool false))), 0, false⟩])
 (.cond (.tmp 44)
 .skip
 (.exit 4)))
 (.seq (.block 5
 (.seq (.regN [1, 2, 5, 6, 7, 8, 10] [
 ⟨some 47, none, .fldA 1 (.tmp 8), 0, false⟩,⟨some 48, none, .ld1 (some 8) (.tmp 47), 0, false⟩,⟨some 49, none, .mv (.tmp 10), 0, false⟩,⟨some 50, none, .ixA 1 (.tmp 48) (.tmp 49), 0, false⟩,⟨some 51, none, .ld1 none (.tmp 50), 0, false⟩,⟨some 11, none, .mv (.tmp 51), 0, false⟩])
 (.regN [1, 2, 5, 6, 7, 8, 10, 11] [
 ⟨some 52, none, .mv (.tmp 11), 0, false⟩,⟨some 53, none, .fldA 0 (.tmp 2), 0, false⟩,⟨some 54, none, .ld1 (some 2) (.tmp 53), 0, false⟩,⟨some 55, none, .bini .lss (.tmp 52) (.tmp 54), 0, false⟩,⟨some 56, none, .mv (.tmp 55), 0, false⟩,⟨some 57, some (56, true), .mv (.tmp 1), 0, false⟩,⟨some 58, none, .pick (.tmp 56) (.tmp 57) (.con (.val (.bool false))), 0, false⟩,⟨some 59, none, .mv (.tmp 58), 0, false⟩,⟨some 60, some (59, false), .mv (.tmp 11), 0, false⟩,⟨some 61, some (59, false), .fldA 0 (.tmp 2), 0, false⟩,⟨some 62, some (59, false), .ld1 (some 2) (.tmp 61), 0, false⟩,⟨some 63, some (59, false), .bini .geq (.tmp 60) (.tmp 62), 0, false⟩,⟨some 64, some (59, false), .mv (.tmp 63), 0, false⟩,⟨some 65, some (64, true), .mv (.tmp 5), 0, false⟩,⟨some 66, some (64, true), .mv (.tmp 11), 0, false⟩,⟨some 67, some (64, true), .fldA 0 (.tmp 2), 0, false⟩,⟨some 68, some (64, true), .ld1 (some 2) (.tmp 67), 0, false⟩,⟨some 69, some (64, true), .bini .sub (.tmp 66) (.tmp 68), 0, false⟩,⟨some 70, some (64, true), .ixA 1 (.tmp 65) (.tmp 69), 0, false⟩,⟨some 71, some (64, true), .ld1 none (.tmp 70), 0, false⟩,⟨some 72, some (59, false), .pick (.tmp 64) (.tmp 71) (.con (.val (.bool false))), 0, false⟩,⟨some 73, none, .pick (.tmp 59) (.con (.val (.bool true))) (.tmp 72), 0, false⟩,⟨some 9, none, .mv (.tmp 73), 0, false⟩])))
 (.regN [1, 2, 5, 6, 7, 8, 9, 10] [
 ⟨some 45, none, .mv (.tmp 10), 0, false⟩,⟨some 46, none, .bini .add (.tmp 45) (.con (.val (.int .i64 1))), 0, false⟩,⟨some 10, none, .mv (.tmp 46), 0, false⟩])))
def t48L2 : AC := (.seq (.seq (.regN [1, 2, 5, 6, 7] [
 ⟨some 19, none, .mv (.tmp 7), 0, false⟩,⟨some 20, none, .fldA 3 (.tmp 2), 0, false⟩,⟨some 21, none, .ld1 (some 2) (.tmp 20), 0, false⟩,⟨some 22, none, .len false (.tmp 21), 0, false⟩,⟨some 23, none, .bini .lss (.tmp 19) (.tmp 22), 0, false⟩])
 (.cond (.tmp 23)
 .skip
 (.exit 2)))
 (.seq (.block 3
 (.seq (.regN [1, 2, 5, 6, 7] [
 ⟨some 26, none, .fldA 3 (.tmp 2), 0, false⟩,⟨some 27, none, .ld1 (some 2) (.tmp 26), 0, false⟩,⟨some 28, none, .mv (.tmp 7), 0, false⟩,⟨some 29, none, .ixA 2 (.tmp 27) (.tmp 28), 0, false⟩,⟨some 30, none, .ldA none 2 (.tmp 29), 0, false⟩,⟨some 8, none, .allocR [(.val (.int .i64 0)), .e0], 0, false⟩,⟨none, none, .st (some 8) 2 (.tmp 8) (.tmp 30), 0, false⟩])
 (.seq (.regN [1, 2, 5, 6, 7, 8] [
 ⟨some 31, none, .mv (.tmp 5), 0, false⟩,⟨some 32, none, .fldA 0 (.tmp 8), 0, false⟩,⟨some 33, none, .ld1 (some 8) (.tmp 32), 0, false⟩,⟨some 34, none, .ixA 1 (.tmp 31) (.tmp 33), 0, false⟩,⟨some 35, none, .ld1 none (.tmp 34), 0, false⟩,⟨some 36, none, .not (.tmp 35), 0, false⟩,⟨some 9, none, .mv (.tmp 36), 0, false⟩])
 (.seq (.seq (.regN [1, 2, 5, 6, 7, 8, 9] [
 ⟨some 10, none, .mv (.con (.val (.int .i64 0))), 0, false⟩])
 (.block 4
 (.loop [1, 2, 5, 6, 7, 8, 9, 10] t48L1)))
 (.seq (.regN [1, 2, 5, 6, 7, 8, 9] [
 ⟨some 74, none, .mv (.tmp 9), 0, false⟩])
 (.cond (.tmp 74)
 (.regN [1, 2, 5, 7, 8] [
 ⟨some 75, none, .mv (.tmp 5), 0, false⟩,⟨some 76, none, .fldA 0 (.tmp 8), 0, false⟩,⟨some 77, none, .ld1 (some 8) (.tmp 76), 0, false⟩,⟨some 78, none, .ixA 1 (.tmp 75) (.tmp 77), 0, false⟩,⟨none, none, .st none 1 (.tmp 78) (.con (.val (.bool true))), 0, false⟩,⟨some 6, none, .mv (.con (.val (.bool true))), 0, false⟩])
 .skip))))))
 (.regN [1, 2, 5, 6, 7] [
 ⟨some 24, none, .mv (.tmp 7), 0, false⟩,⟨some 25, none, .bini .add (.tmp 24) (.con (.val (.int .i64 1))), 0, false⟩,⟨some 7, none, .mv (.tmp 25), 0, false⟩])))
def t48L3 : AC := (.seq (.seq (.regN [1, 2, 5, 6] [
 ⟨some 18, none, .mv (.tmp 6), 0, false⟩])
 (.cond (.tmp 18)
 .skip
 (.exit 0)))
 (.block 1
 (.seq (.regN [1, 2, 5] [
 ⟨some 6, none, .mv (.con (.val (.bool false))), 0, false⟩])
 (.seq (.regN [1, 2, 5, 6] [
 ⟨some 7, none, .mv (.con (.val (.int .i64 0))), 0, false⟩])
 (.block 2
 (.loop [1, 2, 5, 6, 7] t48L2))))))
def t48B : AC := (.seq (.regN [0, 1] [
 ⟨some 2, none, .boxR 4 (.tmp 0), 0, false⟩,⟨some 4, none, .mv (.con .e0), 0, false⟩])
 (.seq (.seq (.regN [1, 2] [
 ⟨some 12, none, .ldA (some 2) 4 (.tmp 2), 0, false⟩,⟨some 13, none, .call 17 [(.tmp 12)], 0, false⟩,⟨some 14, none, .bini .neq (.tmp 13) (.con (.val (.int .i64 0))), 0, false⟩])
 (.cond (.tmp 14)
 (.seq (.regN [] [
 ⟨some 4, none, .mv (.con .e0), 0, false⟩])
 .ret)
 .skip))
 (.seq (.regN [1, 2] [
 ⟨some 15, none, .fldA 1 (.tmp 2), 0, false⟩,⟨some 16, none, .ld1 (some 2) (.tmp 15), 0, false⟩,⟨some 17, none, .mks 1 1 [(.val (.bool false))] (.tmp 16), 0, false⟩,⟨some 5, none, .mv (.tmp 17), 0, false⟩])
 (.seq (.seq (.regN [1, 2, 5] [
 ⟨some 6, none, .mv (.con (.val (.bool true))), 0, false⟩])
 (.block 0
 (.loop [1, 2, 5, 6] t48L3)))
 (.seq (.regN [5] [
 ⟨some 79, none, .mv (.tmp 5), 0, false⟩,⟨some 4, none, .mv (.tmp 79), 0, false⟩])
 .ret)))))
def t48 : AFn := ⟨2, t48B,
 [.tmp 4], true⟩
/-- viewport/viewportref11.Productive  -/
def t22B : AC := (.seq (.regN [0] [
 ⟨some 1, none, .boxR 4 (.tmp 0), 0, false⟩,⟨some 2, none, .mv (.con .e0), 0, false⟩])
 (.seq (.regN [1] [
 ⟨some 3, none, .ldA (some 1) 4 (.tmp 1), 0, false⟩,⟨some 4, none, .call 48 [(.tmp 3), (.con (.val (.bool true)))], 0, false⟩,⟨some 2, none, .mv (.tmp 4), 0, false⟩])
 .ret))
def t22 : AFn := ⟨1, t22B,
 [.tmp 2], true⟩
/-- viewport/first.Of  -/
def t23B : AC := (.seq (.regN [0, 1, 2] [
 ⟨some 3, none, .boxH 4 (.tmp 0), 0, false⟩,⟨some 6, none, .mv (.con .e0), 0, false⟩])
 (.seq (.seq (.regN [1, 2, 3] [
 ⟨some 7, none, .ldA none 4 (.tmp 3), 0, false⟩,⟨some 8, none, .call 44 [(.tmp 7)], 0, false⟩,⟨some 9, none, .bini .neq (.tmp 8) (.con (.val (.int .i64 0))), 0, false⟩,⟨some 10, none, .mv (.tmp 9), 0, false⟩,⟨some 11, some (10, false), .mv (.tmp 1), 0, false⟩,⟨some 12, some (10, false), .len false (.tmp 11), 0, false⟩,⟨some 13, some (10, false), .fldA 1 (.tmp 3), 0, false⟩,⟨some 14, some (10, false), .ld1 none (.tmp 13), 0, false⟩,⟨some 15, some (10, false), .bini .neq (.tmp 12) (.tmp 14), 0, false⟩,⟨some 16, none, .pick (.tmp 10) (.con (.val (.bool true))) (.tmp 15), 0, false⟩,⟨some 17, none, .mv (.tmp 16), 0, false⟩,⟨some 18, some (17, false), .mv (.tmp 2), 0, false⟩,⟨some 19, some (17, false), .mkf 50 [(.tmp 3)], 0, false⟩,⟨some 20, some (17, false), .call 49 [(.tmp 18), (.tmp 19)], 0, false⟩,⟨some 21, none, .pick (.tmp 17) (.con (.val (.bool true))) (.tmp 20), 0, false⟩])
 (.cond (.tmp 21)
 (.seq (.regN [] [
 ⟨some 6, none, .mv (.con .e0), 0, false⟩])
 .ret)
 .skip))
 (.seq (.regN [1, 2, 3] [
 ⟨some 22, none, .ldA none 4 (.tmp 3), 0, false⟩,⟨some 23, none, .mv (.tmp 1), 0, false⟩,⟨some 24, none, .mv (.tmp 2), 0, false⟩,⟨some 25, none, .call 45 [(.tmp 22), (.tmp 23), (.tmp 24)], 0, false⟩,⟨some 6, none, .mv (.tmp 25), 0, false⟩])
 .ret)))
def t23 : AFn := ⟨3, t23B,
 [.tmp 6], true⟩
/-- viewport/first.Of$1  -/
def t50B : AC := (.seq (.regN [0, 1] [
 ⟨some 3, none, .mv (.con (.val (.bool false))), 0, false⟩])
 (.seq (.regN [0, 1] [
 ⟨some 4, none, .mv (.tmp 0), 0, false⟩,⟨some 5, none, .bini .lss (.tmp 4) (.con (.val (.int .i64 0))), 0, false⟩,⟨some 6, none, .mv (.tmp 5), 0, false⟩,⟨some 7, some (6, false), .mv (.tmp 0), 0, false⟩,⟨some 8, some (6, false), .fldA 0 (.tmp 1), 0, false⟩,⟨some 9, some (6, false), .ld1 none (.tmp 8), 0, false⟩,⟨some 10, some (6, false), .fldA 1 (.tmp 1), 0, false⟩,⟨some 11, some (6, false), .ld1 none (.tmp 10), 0, false⟩,⟨some 12, some (6, false), .bini .add (.tmp 9) (.tmp 11), 0, false⟩,⟨some 13, some (6, false), .bini .geq (.tmp 7) (.tmp 12), 0, false⟩,⟨some 14, none, .pick (.tmp 6) (.con (.val (.bool true))) (.tmp 13), 0, false⟩,⟨some 3, none, .mv (.tmp 14), 0, false⟩])
 .ret))
def t50 : AFn := ⟨2, t50B,
 [.tmp 3], true⟩
/-- viewport/viewportlaw12.FirstRows  -/
def t7L1 : AC := (.seq (.seq (.regN [0, 1, 5, 6, 7, 8, 9, 10, 11] [
 ⟨some 40, none, .mv (.tmp 11), 0, false⟩,⟨some 41, none, .mv (.tmp 1), 0, false⟩,⟨some 42, none, .bini .lss (.tmp 40) (.tmp 41), 0, false⟩])
 (.cond (.tmp 42)
 .skip
 (.exit 0)))
 (.seq (.block 1
 (.seq (.regN [0, 1, 5, 6, 7, 8, 9, 10, 11] [
 ⟨some 45, none, .mv (.tmp 9), 0, false⟩,⟨some 46, none, .mv (.tmp 10), 0, false⟩,⟨some 47, none, .bini .add (.tmp 45) (.tmp 46), 0, false⟩,⟨some 9, none, .mv (.tmp 47), 0, false⟩])
 (.regN [0, 1, 5, 6, 7, 8, 9, 10, 11] [
 ⟨some 48, none, .mv (.tmp 10), 0, false⟩,⟨some 49, none, .mv (.tmp 0), 0, false⟩,⟨some 50, none, .bini .mul (.tmp 48) (.tmp 49), 0, false⟩,⟨some 10, none, .mv (.tmp 50), 0, false⟩])))
 (.regN [0, 1, 5, 6, 7, 8, 9, 10, 11] [
 ⟨some 43, none, .mv (.tmp 11), 0, false⟩,⟨some 44, none, .bini .add (.tmp 43) (.con (.val (.int .i64 1))), 0, false⟩,⟨some 11, none, .mv (.tmp 44), 0, false⟩])))
def t7L2 : AC := (.seq (.seq (.regN [0, 1, 5, 6, 7, 12, 13, 14] [
 ⟨some 106, none, .mv (.tmp 14), 0, false⟩,⟨some 107, none, .mv (.tmp 13), 0, false⟩,⟨some 108, none, .len true (.tmp 107), 0, false⟩,⟨some 109, none, .bini .lss (.tmp 106) (.tmp 108), 0, false⟩])
 (.cond (.tmp 109)
 .skip
 (.exit 4)))
 (.seq (.block 5
 (.seq (.regN [0, 1, 5, 6, 7, 12, 13, 14] [
 ⟨some 112, none, .mv (.tmp 13), 0, false⟩,⟨some 113, none, .mv (.tmp 14), 0, false⟩,⟨some 114, none, .ixS (.tmp 112) (.tmp 113), 0, false⟩,⟨some 115, none, .cvi .i64 (.tmp 114), 0, false⟩,⟨some 116, none, .mv (.tmp 0), 0, false⟩,⟨some 117, none, .bini .geq (.tmp 115) (.tmp 116), 0, false⟩,⟨some 118, none, .mv (.tmp 117), 0, false⟩,⟨some 119, some (118, true), .mv (.tmp 13), 0, false⟩,⟨some 120, some (118, true), .mv (.tmp 14), 0, false⟩,⟨some 121, some (118, true), .ixS (.tmp 119) (.tmp 120), 0, false⟩,⟨some 122, some (118, true), .bini .neq (.tmp 121) (.con (.val (.int .u8 255))), 0, false⟩,⟨some 123, some (118, true), .mv (.tmp 122), 0, false⟩,⟨some 124, some (123, false), .mv (.tmp 14), 0, false⟩,⟨some 125, some (123, false), .mv (.tmp 13), 0, false⟩,⟨some 126, some (123, false), .len true (.tmp 125), 0, false⟩,⟨some 127, some (123, false), .bini .sub (.tmp 126) (.con (.val (.int .i64 1))), 0, false⟩,⟨some 128, some (123, false), .bini .lss (.tmp 124) (.tmp 127), 0, false⟩,⟨some 129, some (118, true), .pick (.tmp 123) (.con (.val (.bool true))) (.tmp 128), 0, false⟩,⟨some 130, none, .pick (.tmp 118) (.tmp 129) (.con (.val (.bool false))), 0, false⟩])
 (.cond (.tmp 130)
 (.seq (.regN [6] [
 ⟨none, none, .st none 1 (.tmp 6) (.con (.val (.bool false))), 0, false⟩])
 .ret)
 .skip)))
 (.regN [0, 1, 5, 6, 7, 12, 13, 14] [
 ⟨some 110, none, .mv (.tmp 14), 0, false⟩,⟨some 111, none, .bini .add (.tmp 110) (.con (.val (.int .i64 1))), 0, false⟩,⟨some 14, none, .mv (.tmp 111), 0, false⟩])))
def t7L3 : AC := (.seq (.seq (.regN [0, 1, 5, 6, 7, 12] [
 ⟨some 61, none, .mv (.tmp 12), 0, false⟩,⟨some 62, none, .ld1 none (.tmp 7), 0, false⟩,⟨some 63, none, .len false (.tmp 62), 0, false⟩,⟨some 64, none, .bini .lss (.tmp 61) (.tmp 63), 0, false⟩])
 (.cond (.tmp 64)
 .skip
 (.exit 2)))
 (.seq (.block 3
 (.seq (.regN [0, 1, 5, 6, 7, 12] [
 ⟨some 67, none, .ld1 none (.tmp 7), 0, false⟩,⟨some 68, none, .mv (.tmp 12), 0, false⟩,⟨some 69, none, .ixA 1 (.tmp 67) (.tmp 68), 0, false⟩,⟨some 70, none, .ld1 none (.tmp 69), 0, false⟩,⟨some 13, none, .mv (.tmp 70), 0, false⟩])
 (.seq (.seq (.regN [0, 1, 5, 6, 7, 12, 13] [
 ⟨some 71, none, .mv (.tmp 12), 0, false⟩,⟨some 72, none, .bini .gtr (.tmp 71) (.con (.val (.int .i64 0))), 0, false⟩,⟨some 73, none, .mv (.tmp 72), 0, false⟩,⟨some 74, some (73, true), .ld1 none (.tmp 7), 0, false⟩,⟨some 75, some (73, true), .mv (.tmp 12), 0, false⟩,⟨some 76, some (73, true), .bini .sub (.tmp 75) (.con (.val (.int .i64 1))), 0, false⟩,⟨some 77, some (73, true), .ixA 1 (.tmp 74) (.tmp 76), 0, false⟩,⟨some 78, some (73, true), .ld1 none (.tmp 77), 0, false⟩,⟨some 79, some (73, true), .mv (.tmp 13), 0, false⟩,⟨some 80, some (73, true), .bins .geq (.tmp 78) (.tmp 79), 0, false⟩,⟨some 81, none, .pick (.tmp 73) (.tmp 80) (.con (.val (.bool false))), 0, false⟩,⟨some 82, none, .mv (.tmp 81), 0, false⟩,⟨some 83, some (82, false), .mv (.tmp 13), 0, false⟩,⟨some 84, some (82, false), .len true (.tmp 83), 0, false⟩,⟨some 85, some (82, false), .mv (.tmp 1), 0, false⟩,⟨some 86, some (82, false), .bini .gtr (.tmp 84) (.tmp 85), 0, false⟩,⟨some 87, none, .pick (.tmp 82) (.con (.val (.bool true))) (.tmp 86), 0, false⟩,⟨some 88, none, .mv (.tmp 87), 0, false⟩,⟨some 89, some (88, false), .mv (.tmp 13), 0, false⟩,⟨some 90, some (88, false), .bins .eql (.tmp 89) (.con (.val (.string ⟨#[]⟩))), 0, false⟩,⟨some 91, none, .pick (.tmp 88) (.con (.val (.bool true))) (.tmp 90), 0, false⟩,⟨some 92, none, .mv (.tmp 91), 0, false⟩,⟨some 93, some (92, false), .mv (.tmp 13), 0, false⟩,⟨some 94, some (92, false), .len true (.tmp 93), 0, false⟩,⟨some 95, some (92, false), .mv (.tmp 1), 0, false⟩,⟨some 96, some (92, false), .bini .lss (.tmp 94) (.tmp 95), 0, false⟩,⟨some 97, some (92, false), .mv (.tmp 96), 0, false⟩,⟨some 98, some (97, true), .mv (.tmp 13), 0, false⟩,⟨some 99, some (97, true), .mv (.tmp 13), 0, false⟩,⟨some 100, some (97, true), .len true (.tmp 99), 0, false⟩,⟨some 101, some (97, true), .bini .sub (.tmp 100) (.con (.val (.int .i64 1))), 0, false⟩,⟨some 102, some (97, true), .ixS (.tmp 98) (.tmp 101), 0, false⟩,⟨some 103, some (97, true), .bini .neq (.tmp 102) (.con (.val (.int .u8 255))), 0, false⟩,⟨some 104, some (92, false), .pick (.tmp 97) (.tmp 103) (.con (.val (.bool false))), 0, false⟩,⟨some 105, none, .pick (.tmp 92) (.con (.val (.bool true))) (.tmp 104), 0, false⟩])
 (.cond (.tmp 105)
 (.seq (.regN [6] [
 ⟨none, none, .st none 1 (.tmp 6) (.con (.val (.bool false))), 0, false⟩])
 .ret)
 .skip))
 (.seq (.regN [0, 1, 5, 6, 7, 12, 13] [
 ⟨some 14, none, .mv (.con (.val (.int .i64 0))), 0, false⟩])
 (.block 4
 (.loop [0, 1, 5, 6, 7, 12, 13, 14] t7L2))))))
 (.regN [0, 1, 5, 6, 7, 12] [
 ⟨some 65, none, .mv (.tmp 12), 0, false⟩,⟨some 66, none, .bini .add (.tmp 65) (.con (.val (.int .i64 1))), 0, false⟩,⟨some 12, none, .mv (.tmp 66), 0, false⟩])))
def t7B : AC := (.seq (.regN [0, 1, 2] [
 ⟨some 5, none, .boxH 1 (.tmp 2), 0, false⟩,⟨some 6, none, .allocH [(.val (.bool false))], 0, false⟩])
 (.seq (.seq (.regN [0, 1, 5, 6] [
 ⟨some 18, none, .call 10 [], 0, false⟩,⟨some 19, none, .not (.tmp 18), 0, false⟩])
 (.cond (.tmp 19)
 (.seq (.regN [6] [
 ⟨none, none, .st none 1 (.tmp 6) (.con (.val (.bool false))), 0, false⟩])
 .ret)
 .skip))
 (.seq (.seq (.regN [0, 1, 5, 6] [
 ⟨some 20, none, .mv (.tmp 0), 0, false⟩,⟨some 21, none, .bini .lss (.tmp 20) (.con (.val (.int .i64 0))), 0, false⟩,⟨some 22, none, .mv (.tmp 21), 0, false⟩,⟨some 23, some (22, false), .mv (.tmp 0), 0, false⟩,⟨some 24, some (22, false), .bini .gtr (.tmp 23) (.con (.val (.int .i64 4))), 0, false⟩,⟨some 25, none, .pick (.tmp 22) (.con (.val (.bool true))) (.tmp 24), 0, false⟩,⟨some 26, none, .mv (.tmp 25), 0, false⟩,⟨some 27, some (26, false), .mv (.tmp 1), 0, false⟩,⟨some 28, some (26, false), .bini .lss (.tmp 27) (.con (.val (.int .i64 1))), 0, false⟩,⟨some 29, none, .pick (.tmp 26) (.con (.val (.bool true))) (.tmp 28), 0, false⟩,⟨some 30, none, .mv (.tmp 29), 0, false⟩,⟨some 31, some (30, false), .mv (.tmp 1), 0, false⟩,⟨some 32, some (30, false), .bini .gtr (.tmp 31) (.con (.val (.int .i64 3))), 0, false⟩,⟨some 33, none, .pick (.tmp 30) (.con (.val (.bool true))) (.tmp 32), 0, false⟩])
 (.cond (.tmp 33)
 (.seq (.regN [6] [
 ⟨none, none, .st none 1 (.tmp 6) (.con (.val (.bool true))), 0, false⟩])
 .ret)
 .skip))
 (.seq (.regN [0, 1, 5, 6] [
 ⟨some 35, none, .mv (.tmp 0), 0, false⟩,⟨some 36, none, .mv (.tmp 1), 0, false⟩,⟨some 37, none, .call 24 [(.tmp 35), (.tmp 36)], 0, false⟩,⟨some 34, none, .mv (.tmp 37), 0, false⟩,⟨some 38, none, .ext (.tmp 34) 0, 0, false⟩,⟨some 39, none, .ext (.tmp 34) 1, 0, false⟩,⟨some 7, none, .allocH [.e0], 0, false⟩,⟨none, none, .st none 1 (.tmp 7) (.tmp 38), 0, false⟩,⟨some 8, none, .mv (.tmp 39), 0, false⟩])
 (.seq (.regN [0, 1, 5, 6, 7, 8] [
 ⟨some 9, none, .mv (.con (.val (.int .i64 0))), 0, false⟩,⟨some 10, none, .mv (.con (.val (.int .i64 1))), 0, false⟩])
 (.seq (.seq (.regN [0, 1, 5, 6, 7, 8, 9, 10] [
 ⟨some 11, none, .mv (.con (.val (.int .i64 0))), 0, false⟩])
 (.block 0
 (.loop [0, 1, 5, 6, 7, 8, 9, 10, 11] t7L1)))
 (.seq (.seq (.regN [0, 1, 5, 6, 7, 8, 9, 10] [
 ⟨some 51, none, .mv (.tmp 8), 0, false⟩,⟨some 52, none, .not (.tmp 51), 0, false⟩,⟨some 53, none, .mv (.tmp 52), 0, false⟩,⟨some 54, some (53, false), .ld1 none (.tmp 7), 0, false⟩,⟨some 55, some (53, false), .len false (.tmp 54), 0, false⟩,⟨some 56, some (53, false), .mv (.tmp 9), 0, false⟩,⟨some 57, some (53, false), .mv (.tmp 10), 0, false⟩,⟨some 58, some (53, false), .bini .add (.tmp 56) (.tmp 57), 0, false⟩,⟨some 59, some (53, false), .bini .neq (.tmp 55) (.tmp 58), 0, false⟩,⟨some 60, none, .pick (.tmp 53) (.con (.val (.bool true))) (.tmp 59), 0, false⟩])
 (.cond (.tmp 60)
 (.seq (.regN [6] [
 ⟨none, none, .st none 1 (.tmp 6) (.con (.val (.bool false))), 0, false⟩])
 .ret)
 .skip))
 (.seq (.seq (.regN [0, 1, 5, 6, 7] [
 ⟨some 12, none, .mv (.con (.val (.int .i64 0))), 0, false⟩])
 (.block 2
 (.loop [0, 1, 5, 6, 7, 12] t7L3)))
 (.seq (.regN [0, 1, 5, 6, 7] [
 ⟨some 131, none, .ld1 none (.tmp 5), 0, false⟩,⟨some 132, none, .ld1 none (.tmp 7), 0, false⟩,⟨some 133, none, .len false (.tmp 132), 0, false⟩,⟨some 134, none, .call 25 [(.tmp 131), (.tmp 133)], 0, false⟩,⟨none, none, .st none 1 (.tmp 5) (.tmp 134), 0, false⟩])
 (.seq (.regN [0, 1, 5, 6, 7] [
 ⟨some 15, none, .allocH [(.val (.int .i64 0))], 0, false⟩,⟨none, none, .st none 1 (.tmp 15) (.con (.val (.int .i64 0))), 0, false⟩])
 (.seq (.regN [0, 1, 5, 6, 7, 15] [
 ⟨some 135, none, .mv (.tmp 0), 0, false⟩,⟨some 136, none, .mv (.tmp 1), 0, false⟩,⟨some 137, none, .call 26 [(.tmp 135), (.tmp 136)], 0, false⟩,⟨some 16, none, .mv (.tmp 137), 0, false⟩])
 (.seq (.seq (.regN [5, 6, 7, 15, 16] [
 ⟨some 138, none, .mv (.tmp 16), 0, false⟩,⟨some 139, none, .eqf false (.tmp 138) (.con (.val .nilFunc)), 0, false⟩])
 (.cond (.tmp 139)
 (.seq (.regN [6] [
 ⟨none, none, .st none 1 (.tmp 6) (.con (.val (.bool false))), 0, false⟩])
 .ret)
 .skip))
 (.seq (.seq (.regN [5, 6, 7, 15, 16] [
 ⟨some 140, none, .mv (.tmp 16), 0, false⟩])
 (.block 6
 (.rangeF [5, 6, 7, 15, 140] rowsIt (.tmp 140) [141]
 (.regN [5, 6, 7, 15, 141] [
 ⟨some 17, none, .mv (.tmp 141), 0, false⟩])
 (.block 7
 (.seq (.seq (.regN [5, 6, 7, 15, 17] [
 ⟨some 142, none, .ld1 none (.tmp 15), 0, false⟩,⟨some 143, none, .ld1 none (.tmp 5), 0, false⟩,⟨some 144, none, .bini .eql (.tmp 142) (.tmp 143), 0, false⟩])
 (.cond (.tmp 144)
 (.exit 6)
 .skip))
 (.seq (.seq (.regN [6, 7, 15, 17] [
 ⟨some 145, none, .mv (.tmp 17), 0, false⟩,⟨some 146, none, .ld1 none (.tmp 7), 0, false⟩,⟨some 147, none, .ld1 none (.tmp 15), 0, false⟩,⟨some 148, none, .ixA 1 (.tmp 146) (.tmp 147), 0, false⟩,⟨some 149, none, .ld1 none (.tmp 148), 0, false⟩,⟨some 150, none, .bins .neq (.tmp 145) (.tmp 149), 0, false⟩])
 (.cond (.tmp 150)
 (.seq (.regN [6] [
 ⟨none, none, .st none 1 (.tmp 6) (.con (.val (.bool false))), 0, false⟩])
 .ret)
 .skip))
 (.regN [15] [
 ⟨some 151, none, .ld1 none (.tmp 15), 0, false⟩,⟨some 152, none, .bini .add (.tmp 151) (.con (.val (.int .i64 1))), 0, false⟩,⟨none, none, .st none 1 (.tmp 15) (.tmp 152), 0, false⟩])))))))
 (.seq (.regN [5, 6, 15] [
 ⟨some 153, none, .ld1 none (.tmp 15), 0, false⟩,⟨some 154, none, .ld1 none (.tmp 5), 0, false⟩,⟨some 155, none, .bini .eql (.tmp 153) (.tmp 154), 0, false⟩,⟨none, none, .st none 1 (.tmp 6) (.tmp 155), 0, false⟩])
 .ret))))))))))))))
def t7 : AFn := ⟨3, t7B,
 [.cell 6 1 false], true⟩
/-- viewport/viewportlaw12.rows  -/
def t24B : AC := (.seq (.regN [0, 1] [
 ⟨some 4, none, .allocH [.e0], 0, false⟩,⟨some 5, none, .allocH [(.val (.bool false))], 0, false⟩])
 (.seq (.regN [0, 1, 4, 5] [
 ⟨some 9, none, .mv (.tmp 0), 0, false⟩,⟨some 10, none, .mv (.tmp 1), 0, false⟩,⟨some 11, none, .call 26 [(.tmp 9), (.tmp 10)], 0, false⟩,⟨some 6, none, .mv (.tmp 11), 0, false⟩])
 (.seq (.seq (.regN [4, 5, 6] [
 ⟨some 12, none, .mv (.tmp 6), 0, false⟩,⟨some 13, none, .eqf false (.tmp 12) (.con (.val .nilFunc)), 0, false⟩])
 (.cond (.tmp 13)
 (.seq (.regN [4, 5] [
 ⟨none, none, .st none 1 (.tmp 4) (.con .e0), 0, false⟩,⟨none, none, .st none 1 (.tmp 5) (.con (.val (.bool false))), 0, false⟩])
 .ret)
 .skip))
 (.seq (.regN [4, 5, 6] [
 ⟨some 7, none, .allocH [.e0], 0, false⟩])
 (.seq (.seq (.regN [4, 5, 6, 7] [
 ⟨some 14, none, .mv (.tmp 6), 0, false⟩])
 (.block 0
 (.rangeF [4, 5, 7, 14] rowsIt (.tmp 14) [15]
 (.regN [4, 5, 7, 15] [
 ⟨some 8, none, .mv (.tmp 15), 0, false⟩])
 (.block 1
 (.seq (.seq (.regN [4, 5, 7, 8] [
 ⟨some 16, none, .ld1 none (.tmp 7), 0, false⟩,⟨some 17, none, .len false (.tmp 16), 0, false⟩,⟨some 18, none, .bini .gtr (.tmp 17) (.con (.val (.int .i64 700))), 0, false⟩])
 (.cond (.tmp 18)
 (.seq (.regN [4, 5] [
 ⟨none, none, .st none 1 (.tmp 4) (.con .e0), 0, false⟩,⟨none, none, .st none 1 (.tmp 5) (.con (.val (.bool false))), 0, false⟩])
 .ret)
 .skip))
 (.regN [7, 8] [
 ⟨some 19, none, .ld1 none (.tmp 7), 0, false⟩,⟨some 20, none, .mv (.tmp 8), 0, false⟩,⟨some 21, none, .buildS 1 [(.val (.string ⟨#[]⟩))] [(0, 1, (.tmp 20))], 0, false⟩,⟨some 22, none, .app 1 16 (.tmp 19) (.tmp 21), 0, false⟩,⟨none, none, .st none 1 (.tmp 7) (.tmp 22), 0, false⟩]))))))
 (.seq (.regN [4, 5, 7] [
 ⟨some 23, none, .ld1 none (.tmp 7), 0, false⟩,⟨none, none, .st none 1 (.tmp 4) (.tmp 23), 0, false⟩,⟨none, none, .st none 1 (.tmp 5) (.con (.val (.bool true))), 0, false⟩])
 .ret))))))
def t24 : AFn := ⟨2, t24B,
 [.cell 4 1 false, .cell 5 1 false], true⟩
/-- viewport/first.Rows  -/
def t26B : AC := (.seq (.regN [0, 1] [
 ⟨some 2, none, .boxH 1 (.tmp 0), 0, false⟩,⟨some 3, none, .boxH 1 (.tmp 1), 0, false⟩,⟨some 4, none, .mv (.con (.val .nilFunc)), 0, false⟩])
 (.seq (.regN [2, 3] [
 ⟨some 5, none, .mkf 51 [(.tmp 2), (.tmp 3)], 0, false⟩,⟨some 4, none, .mv (.tmp 5), 0, false⟩])
 .ret))
def t26 : AFn := ⟨2, t26B,
 [.tmp 4], false⟩
/-- viewport/first.Rows$1  -/
def t51B : AC := (.seq (.seq (.regN [0, 1, 2] [
 kx 4 (.ld1 none (ux 1)),kx 5 (.bini .lss (ux 4) (.con (.val (.int .i64 0)))),kx 6 (.mv (ux 5)),⟨some 7, some (6, false), .ld1 none (ux 1), 0, false⟩,⟨some 8, some (6, false), .bini .gtr (ux 7) (.con (.val (.int .i64 8))), 0, false⟩,kx 9 (.pick (ux 6) (.con (.val (.bool true))) (ux 8)),kx 10 (.mv (ux 9)),⟨some 11, some (10, false), .ld1 none (ux 2), 0, false⟩,⟨some 12, some (10, false), .bini .lss (ux 11) (.con (.val (.int .i64 1))), 0, false⟩,kx 13 (.pick (ux 10) (.con (.val (.bool true))) (ux 12)),kx 14 (.mv (ux 13)),⟨some 15, some (14, false), .ld1 none (ux 2), 0, false⟩,⟨some 16, some (14, false), .bini .gtr (ux 15) (.con (.val (.int .i64 3))), 0, false⟩,kx 17 (.pick (ux 14) (.con (.val (.bool true))) (ux 16))])
 (.cond (ux 17)
 .ret
 .skip))
 (.regN [0, 1, 2] [
 kx 18 (.ld1 none (ux 1)),kx 19 (.ld1 none (ux 2)),kx 20 (.mv (ux 0)),kx 21 (.call 52 [(.con (.val (.string ⟨#[]⟩))), (ux 18), (ux 19), (ux 20)])]))
def t51 : AFn := ⟨3, t51B,
 [], true⟩
/-- viewport/first.each  -/
def t52L1 : AC := (.seq (.regN [0, 1, 2, 3, 17, 18] [
 kx 19 (.bini .lss (ux 18) (ux 17))])
 (.seq (.cond (ux 19)
 .skip
 (.exit 0))
 (.seq (.block 1
 (.seq (.regN [0, 1, 2, 3, 17, 18] [
 kx 20 (.mv (ux 18)),kx 9 (.mv (ux 20))])
 (.seq (.regN [0, 1, 2, 3, 9, 17, 18] [
 kx 21 (.mv (ux 0)),kx 22 (.mv (ux 9)),kx 23 (.cvi .u8 (ux 22)),kx 24 (.buildS 1 [(.val (.int .u8 0))] [(0, 1, (ux 23))]),kx 25 (.b2s (ux 24)),kx 26 (.bins .add (ux 21) (ux 25)),kx 27 (.mv (ux 1)),kx 28 (.mv (ux 2)),kx 29 (.mv (ux 3)),kx 30 (.call 52 [(ux 26), (ux 27), (ux 28), (ux 29)]),kx 31 (.not (ux 30))])
 (.cond (ux 31)
 (.seq (.regN [] [
 kx 8 (.mv (.con (.val (.bool false))))])
 .ret)
 .skip))))
 (.regN [0, 1, 2, 3, 17, 18] [
 kx 32 (.bini .add (ux 18) (.con (.val (.int .i64 1)))),kx 18 (.mv (ux 32))]))))
def t52B : AC := (.seq (.regN [0, 1, 2, 3] [
 kx 8 (.mv (.con (.val (.bool false))))])
 (.seq (.seq (.regN [0, 1, 2, 3] [
 kx 10 (.mv (ux 0)),kx 11 (.len true (ux 10)),kx 12 (.mv (ux 2)),kx 13 (.bini .eql (ux 11) (ux 12))])
 (.cond (ux 13)
 (.seq (.regN [0, 3] [
 kx 14 (.mv (ux 3)),kx 15 (.mv (ux 0)),kx 16 (.callv (ux 14) [(ux 15)]),kx 8 (.mv (ux 16))])
 .ret)
 .skip))
 (.seq (.seq (.regN [0, 1, 2, 3] [
 kx 17 (.mv (ux 1)),kx 18 (.mv (.con (.val (.int .i64 0))))])
 (.block 0
 (.loop [0, 1, 2, 3, 17, 18] t52L1)))
 (.seq (.regN [0, 3] [
 kx 33 (.mv (ux 3)),kx 34 (.mv (ux 0)),kx 35 (.buildS 1 [(.val (.int .u8 0))] [(0, 1, (.con (.val (.int .u8 255))))]),kx 36 (.b2s (ux 35)),kx 37 (.bins .add (ux 34) (ux 36)),kx 38 (.callv (ux 33) [(ux 37)]),kx 8 (.mv (ux 38))])
 .ret))))
def t52 : AFn := ⟨4, t52B,
 [.tmp 8], true⟩
/-- viewport/viewportlaw12.FirstNames  -/
def t8B : AC := (.seq (.regN [] [
 kx 0 (.mv (.con (.val (.bool false))))])
 (.seq (.seq (.regN [] [
 kx 7 (.call 10 []),kx 8 (.not (ux 7))])
 (.cond (ux 8)
 (.seq (.regN [] [
 kx 0 (.mv (.con (.val (.bool false))))])
 .ret)
 .skip))
 (.seq (.regN [] [
 kx 10 (.call 24 [(.con (.val (.int .i64 2))), (.con (.val (.int .i64 2)))]),kx 9 (.mv (ux 10)),kx 11 (.ext (ux 9) 0),kx 12 (.ext (ux 9) 1),kx 1 (.mv (ux 11)),kx 2 (.mv (ux 12))])
 (.seq (.regN [1, 2] [
 kx 14 (.call 24 [(.con (.val (.int .i64 0))), (.con (.val (.int .i64 1)))]),kx 13 (.mv (ux 14)),kx 15 (.ext (ux 13) 0),kx 16 (.ext (ux 13) 1),kx 3 (.mv (ux 15)),kx 4 (.mv (ux 16))])
 (.seq (.regN [1, 2, 3, 4] [
 kx 18 (.call 24 [(.con (.val (.int .i64 9))), (.con (.val (.int .i64 1)))]),kx 17 (.mv (ux 18)),kx 19 (.ext (ux 17) 0),kx 20 (.ext (ux 17) 1),kx 5 (.mv (ux 19)),kx 6 (.mv (ux 20))])
 (.seq (.regN [1, 2, 3, 4, 5, 6] [
 kx 21 (.mv (ux 2)),kx 22 (.mv (ux 21)),⟨some 23, some (22, true), .mv (ux 1), 0, false⟩,⟨some 24, some (22, true), .buildS 7 [(.val (.string ⟨#[]⟩)), (.val (.string ⟨#[]⟩)), (.val (.string ⟨#[]⟩)), (.val (.string ⟨#[]⟩)), (.val (.string ⟨#[]⟩)), (.val (.string ⟨#[]⟩)), (.val (.string ⟨#[]⟩))] [(0, 1, (.con (.val (.string ⟨#[0, 0]⟩)))), (1, 1, (.con (.val (.string ⟨#[0, 1]⟩)))), (2, 1, (.con (.val (.string ⟨#[0, 255]⟩)))), (3, 1, (.con (.val (.string ⟨#[1, 0]⟩)))), (4, 1, (.con (.val (.string ⟨#[1, 1]⟩)))), (5, 1, (.con (.val (.string ⟨#[1, 255]⟩)))), (6, 1, (.con (.val (.string ⟨#[255]⟩))))], 0, false⟩,⟨some 25, some (22, true), .call 13 [(ux 23), (ux 24)], 0, false⟩,kx 26 (.pick (ux 22) (ux 25) (.con (.val (.bool false)))),kx 27 (.mv (ux 26)),⟨some 28, some (27, true), .mv (ux 4), 0, false⟩,kx 29 (.pick (ux 27) (ux 28) (.con (.val (.bool false)))),kx 30 (.mv (ux 29)),⟨some 31, some (30, true), .mv (ux 3), 0, false⟩,⟨some 32, some (30, true), .buildS 1 [(.val (.string ⟨#[]⟩))] [(0, 1, (.con (.val (.string ⟨#[255]⟩))))], 0, false⟩,⟨some 33, some (30, true), .call 13 [(ux 31), (ux 32)], 0, false⟩,kx 34 (.pick (ux 30) (ux 33) (.con (.val (.bool false)))),kx 35 (.mv (ux 34)),⟨some 36, some (35, true), .mv (ux 6), 0, false⟩,kx 37 (.pick (ux 35) (ux 36) (.con (.val (.bool false)))),kx 38 (.mv (ux 37)),⟨some 39, some (38, true), .mv (ux 5), 0, false⟩,⟨some 40, some (38, true), .len false (ux 39), 0, false⟩,⟨some 41, some (38, true), .bini .eql (ux 40) (.con (.val (.int .i64 0))), 0, false⟩,kx 42 (.pick (ux 38) (ux 41) (.con (.val (.bool false)))),kx 43 (.mv (ux 42)),⟨some 44, some (43, true), .buildS 3 [(.val (.string ⟨#[]⟩)), (.val (.string ⟨#[]⟩)), (.val (.string ⟨#[]⟩))] [(0, 1, (.con (.val (.string ⟨#[97]⟩)))), (1, 1, (.con (.val (.string ⟨#[97, 98]⟩)))), (2, 1, (.con (.val (.string ⟨#[255]⟩))))], 0, false⟩,⟨some 45, some (43, true), .buildS 2 [(.val (.string ⟨#[]⟩)), (.val (.string ⟨#[]⟩))] [(0, 1, (.con (.val (.string ⟨#[]⟩)))), (1, 1, (.con (.val (.string ⟨#[120, 121]⟩))))], 0, false⟩,⟨some 46, some (43, true), .call 12 [(.con (.val (.int .i64 2))), (ux 44), (ux 45)], 0, false⟩,⟨some 47, some (43, true), .buildS 4 [(.val (.string ⟨#[]⟩)), (.val (.string ⟨#[]⟩)), (.val (.string ⟨#[]⟩)), (.val (.string ⟨#[]⟩))] [(0, 1, (.con (.val (.string ⟨#[97]⟩)))), (1, 1, (.con (.val (.string ⟨#[97, 98]⟩)))), (2, 1, (.con (.val (.string ⟨#[97, 120]⟩)))), (3, 1, (.con (.val (.string ⟨#[255]⟩))))], 0, false⟩,⟨some 48, some (43, true), .call 13 [(ux 46), (ux 47)], 0, false⟩,kx 49 (.pick (ux 43) (ux 48) (.con (.val (.bool false)))),kx 50 (.mv (ux 49)),⟨some 51, some (50, true), .buildS 1 [(.val (.string ⟨#[]⟩))] [(0, 1, (.con (.val (.string ⟨#[97]⟩))))], 0, false⟩,⟨some 52, some (50, true), .call 12 [(.con (.val (.int .i64 1))), (ux 51), (.con .e0)], 0, false⟩,⟨some 53, some (50, true), .len false (ux 52), 0, false⟩,⟨some 54, some (50, true), .bini .eql (ux 53) (.con (.val (.int .i64 0))), 0, false⟩,kx 55 (.pick (ux 50) (ux 54) (.con (.val (.bool false)))),kx 56 (.mv (ux 55)),⟨some 57, some (56, true), .buildS 1 [(.val (.string ⟨#[]⟩))] [(0, 1, (.con (.val (.string ⟨#[97]⟩))))], 0, false⟩,⟨some 58, some (56, true), .buildS 1 [(.val (.string ⟨#[]⟩))] [(0, 1, (.con (.val (.string ⟨#[98]⟩))))], 0, false⟩,⟨some 59, some (56, true), .call 12 [(.con (.val (.int .i64 0))), (ux 57), (ux 58)], 0, false⟩,⟨some 60, some (56, true), .buildS 1 [(.val (.string ⟨#[]⟩))] [(0, 1, (.con (.val (.string ⟨#[]⟩))))], 0, false⟩,⟨some 61, some (56, true), .call 13 [(ux 59), (ux 60)], 0, false⟩,kx 62 (.pick (ux 56) (ux 61) (.con (.val (.bool false)))),kx 63 (.mv (ux 62)),⟨some 64, some (63, true), .buildS 1 [(.val (.string ⟨#[]⟩))] [(0, 1, (.con (.val (.string ⟨#[98]⟩))))], 0, false⟩,⟨some 65, some (63, true), .buildS 2 [(.val (.string ⟨#[]⟩)), (.val (.string ⟨#[]⟩))] [(0, 1, (.con (.val (.string ⟨#[97]⟩)))), (1, 1, (.con (.val (.string ⟨#[98]⟩))))], 0, false⟩,⟨some 66, some (63, true), .call 15 [(ux 64), (ux 65)], 0, false⟩,⟨some 67, some (63, true), .buildS 2 [(.val (.string ⟨#[]⟩)), (.val (.string ⟨#[]⟩))] [(0, 1, (.con (.val (.string ⟨#[97]⟩)))), (1, 1, (.con (.val (.string ⟨#[98]⟩))))], 0, false⟩,⟨some 68, some (63, true), .call 13 [(ux 66), (ux 67)], 0, false⟩,kx 69 (.pick (ux 63) (ux 68) (.con (.val (.bool false)))),kx 70 (.mv (ux 69)),⟨some 71, some (70, true), .buildS 2 [(.val (.string ⟨#[]⟩)), (.val (.string ⟨#[]⟩))] [(0, 1, (.con (.val (.string ⟨#[97]⟩)))), (1, 1, (.con (.val (.string ⟨#[98]⟩))))], 0, false⟩,⟨some 72, some (70, true), .call 14 [(ux 71), (.con (.val (.string ⟨#[98]⟩)))], 0, false⟩,kx 73 (.pick (ux 70) (ux 72) (.con (.val (.bool false)))),kx 74 (.mv (ux 73)),⟨some 75, some (74, true), .call 14 [(.con .e0), (.con (.val (.string ⟨#[]⟩)))], 0, false⟩,⟨some 76, some (74, true), .not (ux 75), 0, false⟩,kx 77 (.pick (ux 74) (ux 76) (.con (.val (.bool false)))),kx 78 (.mv (ux 77)),⟨some 79, some (78, true), .call 27 [], 0, false⟩,⟨some 80, some (78, true), .buildS 2 [(.val (.string ⟨#[]⟩)), (.val (.string ⟨#[]⟩))] [(0, 1, (.con (.val (.string ⟨#[]⟩)))), (1, 1, (.con (.val (.string ⟨#[0]⟩))))], 0, false⟩,⟨some 81, some (78, true), .buildS 1 [.e0] [(0, 1, (ux 80))], 0, false⟩,⟨some 82, some (78, true), .buildS 2 [(.val (.int .i64 0)), (.val (.int .i64 0))] [(0, 1, (.con (.val (.int .i64 0)))), (1, 1, (.con (.val (.int .i64 1))))], 0, false⟩,⟨some 83, some (78, true), .call 23 [(ux 79), (ux 81), (ux 82)], 0, false⟩,⟨some 84, some (78, true), .buildS 2 [(.val (.string ⟨#[]⟩)), (.val (.string ⟨#[]⟩))] [(0, 1, (.con (.val (.string ⟨#[0]⟩)))), (1, 1, (.con (.val (.string ⟨#[0, 0]⟩))))], 0, false⟩,⟨some 85, some (78, true), .call 13 [(ux 83), (ux 84)], 0, false⟩,kx 86 (.pick (ux 78) (ux 85) (.con (.val (.bool false)))),kx 87 (.mv (ux 86)),⟨some 88, some (87, true), .call 27 [], 0, false⟩,⟨some 89, some (87, true), .call 23 [(ux 88), (.con .e0), (.con .e0)], 0, false⟩,⟨some 90, some (87, true), .len false (ux 89), 0, false⟩,⟨some 91, some (87, true), .bini .eql (ux 90) (.con (.val (.int .i64 0))), 0, false⟩,kx 92 (.pick (ux 87) (ux 91) (.con (.val (.bool false)))),kx 93 (.mv (ux 92)),⟨some 94, some (93, true), .build [(.val (.int .i64 0)), (.val (.int .i64 0)), (.val (.int .i64 0)), .e0] [], 0, false⟩,⟨some 95, some (93, true), .call 19 [(ux 94)], 0, false⟩,⟨some 96, some (93, true), .len false (ux 95), 0, false⟩,⟨some 97, some (93, true), .bini .eql (ux 96) (.con (.val (.int .i64 0))), 0, false⟩,kx 98 (.pick (ux 93) (ux 97) (.con (.val (.bool false)))),kx 0 (.mv (ux 98))])
 .ret))))))
def t8 : AFn := ⟨0, t8B,
 [.tmp 0], true⟩
/-- viewport/viewportlaw12.FirstCalls  -/
def t9L1 : AC := (.seq (.seq (.regN [1, 2, 3, 4, 5, 6, 7, 15] [
 ⟨some 63, none, .mv (.tmp 15), 0, false⟩,⟨some 64, none, .mv (.tmp 3), 0, false⟩,⟨some 65, none, .len false (.tmp 64), 0, false⟩,⟨some 66, none, .bini .lss (.tmp 63) (.tmp 65), 0, false⟩])
 (.cond (.tmp 66)
 .skip
 (.exit 0)))
 (.seq (.block 1
 (.seq (.regN [1, 2, 3, 4, 5, 6, 7, 15] [
 ⟨some 69, none, .mv (.tmp 3), 0, false⟩,⟨some 70, none, .mv (.tmp 15), 0, false⟩,⟨some 71, none, .ixA 1 (.tmp 69) (.tmp 70), 0, false⟩,⟨some 72, none, .ld1 none (.tmp 71), 0, false⟩,⟨some 73, none, .call 28 [(.tmp 72), (.con (.val (.int .i64 6)))], 0, false⟩,⟨some 74, none, .not (.tmp 73), 0, false⟩])
 (.cond (.tmp 74)
 (.seq (.regN [] [
 ⟨some 14, none, .mv (.con (.val (.bool true))), 0, false⟩])
 .ret)
 .skip)))
 (.regN [1, 2, 3, 4, 5, 6, 7, 15] [
 ⟨some 67, none, .mv (.tmp 15), 0, false⟩,⟨some 68, none, .bini .add (.tmp 67) (.con (.val (.int .i64 1))), 0, false⟩,⟨some 15, none, .mv (.tmp 68), 0, false⟩])))
def t9B : AC := (.seq (.regN [0, 1, 2, 3, 4, 5, 6] [
 ⟨some 7, none, .boxR 4 (.tmp 0), 0, false⟩,⟨some 14, none, .mv (.con (.val (.bool false))), 0, false⟩])
 (.seq (.seq (.regN [1, 2, 3, 4, 5, 6, 7] [
 ⟨some 20, none, .call 10 [], 0, false⟩,⟨some 21, none, .not (.tmp 20), 0, false⟩])
 (.cond (.tmp 21)
 (.seq (.regN [] [
 ⟨some 14, none, .mv (.con (.val (.bool false))), 0, false⟩])
 .ret)
 .skip))
 (.seq (.seq (.regN [1, 2, 3, 4, 5, 6, 7] [
 ⟨some 22, none, .ldA (some 7) 4 (.tmp 7), 0, false⟩,⟨some 23, none, .call 16 [(.tmp 22)], 0, false⟩,⟨some 24, none, .not (.tmp 23), 0, false⟩,⟨some 25, none, .mv (.tmp 24), 0, false⟩,⟨some 26, some (25, false), .mv (.tmp 1), 0, false⟩,⟨some 27, some (25, false), .call 28 [(.tmp 26), (.con (.val (.int .i64 20)))], 0, false⟩,⟨some 28, some (25, false), .not (.tmp 27), 0, false⟩,⟨some 29, none, .pick (.tmp 25) (.con (.val (.bool true))) (.tmp 28), 0, false⟩,⟨some 30, none, .mv (.tmp 29), 0, false⟩,⟨some 31, some (30, false), .mv (.tmp 2), 0, false⟩,⟨some 32, some (30, false), .call 28 [(.tmp 31), (.con (.val (.int .i64 20)))], 0, false⟩,⟨some 33, some (30, false), .not (.tmp 32), 0, false⟩,⟨some 34, none, .pick (.tmp 30) (.con (.val (.bool true))) (.tmp 33), 0, false⟩,⟨some 35, none, .mv (.tmp 34), 0, false⟩,⟨some 36, some (35, false), .mv (.tmp 3), 0, false⟩,⟨some 37, some (35, false), .len false (.tmp 36), 0, false⟩,⟨some 38, some (35, false), .bini .gtr (.tmp 37) (.con (.val (.int .i64 20))), 0, false⟩,⟨some 39, none, .pick (.tmp 35) (.con (.val (.bool true))) (.tmp 38), 0, false⟩,⟨some 40, none, .mv (.tmp 39), 0, false⟩,⟨some 41, some (40, false), .mv (.tmp 4), 0, false⟩,⟨some 42, some (40, false), .len false (.tmp 41), 0, false⟩,⟨some 43, some (40, false), .bini .gtr (.tmp 42) (.con (.val (.int .i64 5))), 0, false⟩,⟨some 44, none, .pick (.tmp 40) (.con (.val (.bool true))) (.tmp 43), 0, false⟩,⟨some 45, none, .mv (.tmp 44), 0, false⟩,⟨some 46, some (45, false), .mv (.tmp 5), 0, false⟩,⟨some 47, some (45, false), .bini .gtr (.tmp 46) (.con (.val (.int .i64 8))), 0, false⟩,⟨some 48, some (45, false), .mv (.tmp 47), 0, false⟩,⟨some 49, some (48, true), .mv (.tmp 5), 0, false⟩,⟨some 50, some (48, true), .bini .lss (.tmp 49) (.con (.val (.int .i64 20))), 0, false⟩,⟨some 51, some (45, false), .pick (.tmp 48) (.tmp 50) (.con (.val (.bool false))), 0, false⟩,⟨some 52, none, .pick (.tmp 45) (.con (.val (.bool true))) (.tmp 51), 0, false⟩,⟨some 53, none, .mv (.tmp 52), 0, false⟩,⟨some 54, some (53, false), .mv (.tmp 5), 0, false⟩,⟨some 55, some (53, false), .mv (.tmp 5), 0, false⟩,⟨some 56, some (53, false), .bini .mul (.tmp 54) (.tmp 55), 0, false⟩,⟨some 57, some (53, false), .bini .gtr (.tmp 56) (.con (.val (.int .i64 20))), 0, false⟩,⟨some 58, some (53, false), .mv (.tmp 57), 0, false⟩,⟨some 59, some (58, true), .mv (.tmp 6), 0, false⟩,⟨some 60, some (58, true), .bini .eql (.tmp 59) (.con (.val (.int .i64 3))), 0, false⟩,⟨some 61, some (53, false), .pick (.tmp 58) (.tmp 60) (.con (.val (.bool false))), 0, false⟩,⟨some 62, none, .pick (.tmp 53) (.con (.val (.bool true))) (.tmp 61), 0, false⟩])
 (.cond (.tmp 62)
 (.seq (.regN [] [
 ⟨some 14, none, .mv (.con (.val (.bool true))), 0, false⟩])
 .ret)
 .skip))
 (.seq (.seq (.regN [1, 2, 3, 4, 5, 6, 7] [
 ⟨some 15, none, .mv (.con (.val (.int .i64 0))), 0, false⟩])
 (.block 0
 (.loop [1, 2, 3, 4, 5, 6, 7, 15] t9L1)))
 (.seq (.regN [1, 2, 3, 4, 5, 6, 7] [
 ⟨some 76, none, .mv (.tmp 5), 0, false⟩,⟨some 77, none, .mv (.tmp 6), 0, false⟩,⟨some 78, none, .call 24 [(.tmp 76), (.tmp 77)], 0, false⟩,⟨some 75, none, .mv (.tmp 78), 0, false⟩,⟨some 79, none, .ext (.tmp 75) 0, 0, false⟩,⟨some 80, none, .ext (.tmp 75) 1, 0, false⟩,⟨some 16, none, .mv (.tmp 79), 0, false⟩,⟨some 17, none, .mv (.tmp 80), 0, false⟩])
 (.seq (.regN [1, 2, 3, 4, 5, 6, 7, 16, 17] [
 ⟨some 81, none, .mv (.tmp 1), 0, false⟩,⟨some 82, none, .mv (.tmp 2), 0, false⟩,⟨some 83, none, .call 15 [(.tmp 81), (.tmp 82)], 0, false⟩,⟨some 18, none, .mv (.tmp 83), 0, false⟩])
 (.seq (.regN [1, 2, 3, 4, 5, 6, 7, 16, 17, 18] [
 ⟨some 19, none, .mv (.con (.val (.string ⟨#[]⟩))), 0, false⟩])
 (.seq (.seq (.regN [1, 2, 3, 4, 5, 6, 7, 16, 17, 18, 19] [
 ⟨some 84, none, .mv (.tmp 2), 0, false⟩,⟨some 85, none, .len false (.tmp 84), 0, false⟩,⟨some 86, none, .bini .gtr (.tmp 85) (.con (.val (.int .i64 0))), 0, false⟩])
 (.cond (.tmp 86)
 (.regN [1, 2, 3, 4, 5, 6, 7, 16, 17, 18] [
 ⟨some 87, none, .mv (.tmp 2), 0, false⟩,⟨some 88, none, .ixA 1 (.tmp 87) (.con (.val (.int .i64 0))), 0, false⟩,⟨some 89, none, .ld1 none (.tmp 88), 0, false⟩,⟨some 19, none, .mv (.tmp 89), 0, false⟩])
 .skip))
 (.seq (.regD [1, 2, 3, 4, 5, 6, 7, 16, 17, 18, 19] 0 [
 ⟨some 90, none, .mv (.tmp 17), 0, false⟩,⟨some 91, none, .mv (.tmp 90), 0, false⟩,⟨some 92, some (91, true), .mv (.tmp 16), 0, false⟩,⟨some 93, some (91, true), .mv (.tmp 5), 0, false⟩,⟨some 94, some (91, true), .mv (.tmp 6), 0, false⟩,⟨some 95, some (91, true), .call 29 [(.tmp 93), (.tmp 94)], 0, true⟩,⟨some 96, some (91, true), .call 13 [(.tmp 92), (.tmp 95)], 0, true⟩,⟨some 97, none, .pick (.tmp 91) (.tmp 96) (.con (.val (.bool false))), 0, false⟩,⟨some 98, none, .mv (.tmp 97), 0, false⟩,⟨some 99, some (98, true), .mv (.tmp 6), 0, false⟩,⟨some 100, some (98, true), .mv (.tmp 1), 0, false⟩,⟨some 101, some (98, true), .mv (.tmp 2), 0, false⟩,⟨some 102, some (98, true), .call 12 [(.tmp 99), (.tmp 100), (.tmp 101)], 0, true⟩,⟨some 103, some (98, true), .mv (.tmp 6), 0, false⟩,⟨some 104, some (98, true), .mv (.tmp 1), 0, false⟩,⟨some 105, some (98, true), .mv (.tmp 2), 0, false⟩,⟨some 106, some (98, true), .call 30 [(.tmp 103), (.tmp 104), (.tmp 105)], 0, true⟩,⟨some 107, some (98, true), .call 13 [(.tmp 102), (.tmp 106)], 0, true⟩,⟨some 108, none, .pick (.tmp 98) (.tmp 107) (.con (.val (.bool false))), 0, false⟩,⟨some 109, none, .mv (.tmp 108), 0, false⟩,⟨some 110, some (109, true), .mv (.tmp 18), 0, false⟩,⟨some 111, some (109, true), .mv (.tmp 1), 0, false⟩,⟨some 112, some (109, true), .mv (.tmp 2), 0, false⟩,⟨some 113, some (109, true), .call 31 [(.tmp 111), (.tmp 112)], 0, true⟩,⟨some 114, some (109, true), .call 13 [(.tmp 110), (.tmp 113)], 0, true⟩,⟨some 115, none, .pick (.tmp 109) (.tmp 114) (.con (.val (.bool false))), 0, false⟩,⟨some 116, none, .mv (.tmp 115), 0, false⟩,⟨some 117, some (116, true), .mv (.tmp 18), 0, false⟩,⟨some 118, some (116, true), .mv (.tmp 19), 0, false⟩,⟨some 119, some (116, true), .call 14 [(.tmp 117), (.tmp 118)], 0, true⟩,⟨some 120, some (116, true), .mv (.tmp 18), 0, false⟩,⟨some 121, some (116, true), .mv (.tmp 19), 0, false⟩,⟨some 122, some (116, true), .call 32 [(.tmp 120), (.tmp 121)], 0, true⟩,⟨some 123, some (116, true), .eqb false (.tmp 119) (.tmp 122), 0, false⟩,⟨some 124, none, .pick (.tmp 116) (.tmp 123) (.con (.val (.bool false))), 0, false⟩,⟨some 125, none, .mv (.tmp 124), 0, false⟩,⟨some 126, some (125, true), .ldA (some 7) 4 (.tmp 7), 0, false⟩,⟨some 127, some (125, true), .mv (.tmp 3), 0, false⟩,⟨some 128, some (125, true), .mv (.tmp 4), 0, false⟩,⟨some 129, some (125, true), .call 23 [(.tmp 126), (.tmp 127), (.tmp 128)], 0, true⟩,⟨some 130, some (125, true), .ldA (some 7) 4 (.tmp 7), 0, false⟩,⟨some 131, some (125, true), .mv (.tmp 3), 0, false⟩,⟨some 132, some (125, true), .mv (.tmp 4), 0, false⟩,⟨some 133, some (125, true), .call 33 [(.tmp 130), (.tmp 131), (.tmp 132)], 0, true⟩,⟨some 134, some (125, true), .call 13 [(.tmp 129), (.tmp 133)], 0, true⟩,⟨some 135, none, .pick (.tmp 125) (.tmp 134) (.con (.val (.bool false))), 0, false⟩,⟨some 136, none, .mv (.tmp 135), 0, false⟩,⟨some 137, some (136, true), .ldA (some 7) 4 (.tmp 7), 0, false⟩,⟨some 138, some (136, true), .call 19 [(.tmp 137)], 0, true⟩,⟨some 139, some (136, true), .ldA (some 7) 4 (.tmp 7), 0, false⟩,⟨some 140, some (136, true), .call 35 [(.tmp 139)], 0, true⟩,⟨some 141, some (136, true), .call 34 [(.tmp 138), (.tmp 140)], 0, true⟩,⟨some 142, none, .pick (.tmp 136) (.tmp 141) (.con (.val (.bool false))), 0, false⟩,⟨some 14, none, .mv (.tmp 142), 0, false⟩])
 .ret)))))))))
def t9 : AFn := ⟨7, t9B,
 [.tmp 14], true⟩
/-- viewport/viewportref12.Rows  -/
def t29L1 : AC := (.seq (.seq (.regN [0, 1, 5, 6, 7, 8, 9, 10] [
 ⟨some 47, none, .mv (.tmp 10), 0, false⟩,⟨some 48, none, .mv (.tmp 0), 0, false⟩,⟨some 49, none, .bini .lss (.tmp 47) (.tmp 48), 0, false⟩])
 (.cond (.tmp 49)
 .skip
 (.exit 4)))
 (.seq (.block 5
 (.regD [0, 1, 5, 6, 7, 8, 9, 10] 0 [
 ⟨some 52, none, .mv (.tmp 8), 0, false⟩,⟨some 53, none, .mv (.tmp 5), 0, false⟩,⟨some 54, none, .mv (.tmp 9), 0, false⟩,⟨some 55, none, .ixA 1 (.tmp 53) (.tmp 54), 0, false⟩,⟨some 56, none, .ld1 none (.tmp 55), 0, false⟩,⟨some 57, none, .mv (.tmp 10), 0, false⟩,⟨some 58, none, .cvi .u8 (.tmp 57), 0, false⟩,⟨some 59, none, .buildS 1 [(.val (.int .u8 0))] [(0, 1, (.tmp 58))], 0, false⟩,⟨some 60, none, .b2s (.tmp 59), 0, false⟩,⟨some 61, none, .bins .add (.tmp 56) (.tmp 60), 0, false⟩,⟨some 62, none, .buildS 1 [(.val (.string ⟨#[]⟩))] [(0, 1, (.tmp 61))], 0, false⟩,⟨some 63, none, .app 1 16 (.tmp 52) (.tmp 62), 0, false⟩,⟨some 8, none, .mv (.tmp 63), 0, false⟩]))
 (.regN [0, 1, 5, 6, 7, 8, 9, 10] [
 ⟨some 50, none, .mv (.tmp 10), 0, false⟩,⟨some 51, none, .bini .add (.tmp 50) (.con (.val (.int .i64 1))), 0, false⟩,⟨some 10, none, .mv (.tmp 51), 0, false⟩])))
def t29L2 : AC := (.seq (.seq (.regN [0, 1, 5, 6, 7, 8, 9] [
 ⟨some 31, none, .mv (.tmp 9), 0, false⟩,⟨some 32, none, .mv (.tmp 5), 0, false⟩,⟨some 33, none, .len false (.tmp 32), 0, false⟩,⟨some 34, none, .bini .lss (.tmp 31) (.tmp 33), 0, false⟩])
 (.cond (.tmp 34)
 .skip
 (.exit 2)))
 (.seq (.block 3
 (.seq (.regD [0, 1, 5, 6, 7, 8, 9] 0 [
 ⟨some 37, none, .mv (.tmp 6), 0, false⟩,⟨some 38, none, .mv (.tmp 5), 0, false⟩,⟨some 39, none, .mv (.tmp 9), 0, false⟩,⟨some 40, none, .ixA 1 (.tmp 38) (.tmp 39), 0, false⟩,⟨some 41, none, .ld1 none (.tmp 40), 0, false⟩,⟨some 42, none, .buildS 1 [(.val (.int .u8 0))] [(0, 1, (.con (.val (.int .u8 255))))], 0, false⟩,⟨some 43, none, .b2s (.tmp 42), 0, false⟩,⟨some 44, none, .bins .add (.tmp 41) (.tmp 43), 0, false⟩,⟨some 45, none, .buildS 1 [(.val (.string ⟨#[]⟩))] [(0, 1, (.tmp 44))], 0, false⟩,⟨some 46, none, .app 1 16 (.tmp 37) (.tmp 45), 0, false⟩,⟨some 6, none, .mv (.tmp 46), 0, false⟩])
 (.seq (.regN [0, 1, 5, 6, 7, 8, 9] [
 ⟨some 10, none, .mv (.con (.val (.int .i64 0))), 0, false⟩])
 (.block 4
 (.loop [0, 1, 5, 6, 7, 8, 9, 10] t29L1)))))
 (.regN [0, 1, 5, 6, 7, 8, 9] [
 ⟨some 35, none, .mv (.tmp 9), 0, false⟩,⟨some 36, none, .bini .add (.tmp 35) (.con (.val (.int .i64 1))), 0, false⟩,⟨some 9, none, .mv (.tmp 36), 0, false⟩])))
def t29L3 : AC := (.seq (.seq (.regN [0, 1, 5, 6, 7] [
 ⟨some 26, none, .mv (.tmp 7), 0, false⟩,⟨some 27, none, .mv (.tmp 1), 0, false⟩,⟨some 28, none, .bini .lss (.tmp 26) (.tmp 27), 0, false⟩])
 (.cond (.tmp 28)
 .skip
 (.exit 0)))
 (.seq (.block 1
 (.seq (.regN [0, 1, 5, 6, 7] [
 ⟨some 8, none, .mv (.con .e0), 0, false⟩])
 (.seq (.seq (.regN [0, 1, 5, 6, 7, 8] [
 ⟨some 9, none, .mv (.con (.val (.int .i64 0))), 0, false⟩])
 (.block 2
 (.loop [0, 1, 5, 6, 7, 8, 9] t29L2)))
 (.regN [0, 1, 6, 7, 8] [
 ⟨some 64, none, .mv (.tmp 8), 0, false⟩,⟨some 5, none, .mv (.tmp 64), 0, false⟩]))))
 (.regN [0, 1, 5, 6, 7] [
 ⟨some 29, none, .mv (.tmp 7), 0, false⟩,⟨some 30, none, .bini .add (.tmp 29) (.con (.val (.int .i64 1))), 0, false⟩,⟨some 7, none, .mv (.tmp 30), 0, false⟩])))
def t29B : AC := (.seq (.regN [0, 1] [
 ⟨some 4, none, .mv (.con .e0), 0, false⟩])
 (.seq (.seq (.regN [0, 1] [
 ⟨some 11, none, .mv (.tmp 0), 0, false⟩,⟨some 12, none, .bini .lss (.tmp 11) (.con (.val (.int .i64 0))), 0, false⟩,⟨some 13, none, .mv (.tmp 12), 0, false⟩,⟨some 14, some (13, false), .mv (.tmp 0), 0, false⟩,⟨some 15, some (13, false), .bini .gtr (.tmp 14) (.con (.val (.int .i64 8))), 0, false⟩,⟨some 16, none, .pick (.tmp 13) (.con (.val (.bool true))) (.tmp 15), 0, false⟩,⟨some 17, none, .mv (.tmp 16), 0, false⟩,⟨some 18, some (17, false), .mv (.tmp 1), 0, false⟩,⟨some 19, some (17, false), .bini .lss (.tmp 18) (.con (.val (.int .i64 1))), 0, false⟩,⟨some 20, none, .pick (.tmp 17) (.con (.val (.bool true))) (.tmp 19), 0, false⟩,⟨some 21, none, .mv (.tmp 20), 0, false⟩,⟨some 22, some (21, false), .mv (.tmp 1), 0, false⟩,⟨some 23, some (21, false), .bini .gtr (.tmp 22) (.con (.val (.int .i64 3))), 0, false⟩,⟨some 24, none, .pick (.tmp 21) (.con (.val (.bool true))) (.tmp 23), 0, false⟩])
 (.cond (.tmp 24)
 (.seq (.regN [] [
 ⟨some 4, none, .mv (.con .e0), 0, false⟩])
 .ret)
 .skip))
 (.seq (.regN [0, 1] [
 ⟨some 25, none, .buildS 1 [(.val (.string ⟨#[]⟩))] [(0, 1, (.con (.val (.string ⟨#[]⟩))))], 0, false⟩,⟨some 5, none, .mv (.tmp 25), 0, false⟩])
 (.seq (.regN [0, 1, 5] [
 ⟨some 6, none, .mv (.con .e0), 0, false⟩])
 (.seq (.seq (.regN [0, 1, 5, 6] [
 ⟨some 7, none, .mv (.con (.val (.int .i64 0))), 0, false⟩])
 (.block 0
 (.loop [0, 1, 5, 6, 7] t29L3)))
 (.seq (.regN [5, 6] [
 ⟨some 65, none, .mv (.tmp 6), 0, false⟩,⟨some 66, none, .mv (.tmp 5), 0, false⟩,⟨some 67, none, .app 1 16 (.tmp 65) (.tmp 66), 0, false⟩,⟨some 68, none, .call 53 [(.tmp 67)], 0, false⟩,⟨some 4, none, .mv (.tmp 68), 0, false⟩])
 .ret))))))
def t29 : AFn := ⟨2, t29B,
 [.tmp 4], true⟩
/-- viewport/viewportref12.sorted  -/
def t53L1 : AC := (.seq (.seq (.regN [3, 4, 5] [
 ⟨some 22, none, .mv (.tmp 3), 0, false⟩,⟨some 23, none, .len false (.tmp 22), 0, false⟩,⟨some 24, none, .bini .gtr (.tmp 23) (.con (.val (.int .i64 0))), 0, false⟩,⟨some 25, none, .mv (.tmp 24), 0, false⟩,⟨some 26, some (25, true), .mv (.tmp 4), 0, false⟩,⟨some 27, some (25, true), .len false (.tmp 26), 0, false⟩,⟨some 28, some (25, true), .bini .gtr (.tmp 27) (.con (.val (.int .i64 0))), 0, false⟩,⟨some 29, none, .pick (.tmp 25) (.tmp 28) (.con (.val (.bool false))), 0, false⟩])
 (.cond (.tmp 29)
 .skip
 (.exit 0)))
 (.block 1
 (.seq (.regD [3, 4, 5] 0 [
 ⟨some 30, none, .mv (.tmp 3), 0, false⟩,⟨some 31, none, .ixA 1 (.tmp 30) (.con (.val (.int .i64 0))), 0, false⟩,⟨some 32, none, .ld1 none (.tmp 31), 0, false⟩,⟨some 33, none, .mv (.tmp 4), 0, false⟩,⟨some 34, none, .ixA 1 (.tmp 33) (.con (.val (.int .i64 0))), 0, false⟩,⟨some 35, none, .ld1 none (.tmp 34), 0, false⟩,⟨some 36, none, .bins .leq (.tmp 32) (.tmp 35), 0, false⟩])
 (.cond (.tmp 36)
 (.regD [3, 4, 5] 0 [
 ⟨some 37, none, .mv (.tmp 5), 0, false⟩,⟨some 38, none, .mv (.tmp 3), 0, false⟩,⟨some 39, none, .ixA 1 (.tmp 38) (.con (.val (.int .i64 0))), 0, false⟩,⟨some 40, none, .ld1 none (.tmp 39), 0, false⟩,⟨some 41, none, .buildS 1 [(.val (.string ⟨#[]⟩))] [(0, 1, (.tmp 40))], 0, false⟩,⟨some 42, none, .app 1 16 (.tmp 37) (.tmp 41), 0, false⟩,⟨some 43, none, .mv (.tmp 3), 0, false⟩,⟨some 44, none, .slC 1 (.tmp 43) (some (.con (.val (.int .i64 1)))) none, 0, false⟩,⟨some 5, none, .mv (.tmp 42), 0, false⟩,⟨some 3, none, .mv (.tmp 44), 0, false⟩])
 (.regD [3, 4, 5] 0 [
 ⟨some 45, none, .mv (.tmp 5), 0, false⟩,⟨some 46, none, .mv (.tmp 4), 0, false⟩,⟨some 47, none, .ixA 1 (.tmp 46) (.con (.val (.int .i64 0))), 0, false⟩,⟨some 48, none, .ld1 none (.tmp 47), 0, false⟩,⟨some 49, none, .buildS 1 [(.val (.string ⟨#[]⟩))] [(0, 1, (.tmp 48))], 0, false⟩,⟨some 50, none, .app 1 16 (.tmp 45) (.tmp 49), 0, false⟩,⟨some 51, none, .mv (.tmp 4), 0, false⟩,⟨some 52, none, .slC 1 (.tmp 51) (some (.con (.val (.int .i64 1)))) none, 0, false⟩,⟨some 5, none, .mv (.tmp 50), 0, false⟩,⟨some 4, none, .mv (.tmp 52), 0, false⟩])))))
def t53B : AC := (.seq (.regN [0] [
 ⟨some 2, none, .mv (.con .e0), 0, false⟩])
 (.seq (.seq (.regN [0] [
 ⟨some 6, none, .mv (.tmp 0), 0, false⟩,⟨some 7, none, .len false (.tmp 6), 0, false⟩,⟨some 8, none, .bini .lss (.tmp 7) (.con (.val (.int .i64 2))), 0, false⟩])
 (.cond (.tmp 8)
 (.seq (.regN [0] [
 ⟨some 9, none, .mv (.tmp 0), 0, false⟩,⟨some 2, none, .mv (.tmp 9), 0, false⟩])
 .ret)
 .skip))
 (.seq (.regD [0] 0 [
 ⟨some 10, none, .mv (.tmp 0), 0, false⟩,⟨some 11, none, .mv (.tmp 0), 0, false⟩,⟨some 12, none, .len false (.tmp 11), 0, false⟩,⟨some 13, none, .bini .quo (.tmp 12) (.con (.val (.int .i64 2))), 0, false⟩,⟨some 14, none, .slC 1 (.tmp 10) none (some (.tmp 13)), 0, false⟩,⟨some 15, none, .call 53 [(.tmp 14)], 0, true⟩,⟨some 16, none, .mv (.tmp 0), 0, false⟩,⟨some 17, none, .mv (.tmp 0), 0, false⟩,⟨some 18, none, .len false (.tmp 17), 0, false⟩,⟨some 19, none, .bini .quo (.tmp 18) (.con (.val (.int .i64 2))), 0, false⟩,⟨some 20, none, .slC 1 (.tmp 16) (some (.tmp 19)) none, 0, false⟩,⟨some 21, none, .call 53 [(.tmp 20)], 0, true⟩,⟨some 3, none, .mv (.tmp 15), 0, false⟩,⟨some 4, none, .mv (.tmp 21), 0, false⟩])
 (.seq (.regN [3, 4] [
 ⟨some 5, none, .mv (.con .e0), 0, false⟩])
 (.seq (.block 0
 (.loop [3, 4, 5] t53L1))
 (.seq (.regN [3, 4, 5] [
 ⟨some 53, none, .mv (.tmp 5), 0, false⟩,⟨some 54, none, .mv (.tmp 3), 0, false⟩,⟨some 55, none, .app 1 16 (.tmp 53) (.tmp 54), 0, false⟩,⟨some 56, none, .mv (.tmp 4), 0, false⟩,⟨some 57, none, .app 1 16 (.tmp 55) (.tmp 56), 0, false⟩,⟨some 2, none, .mv (.tmp 57), 0, false⟩])
 .ret))))))
def t53 : AFn := ⟨1, t53B,
 [.tmp 2], true⟩
/-- viewport/viewportref12.Cat  -/
def t30L1 : AC := (.seq (.seq (.regN [0, 1, 2, 7, 8, 9, 10, 11] [
 ⟨some 64, none, .mv (.tmp 11), 0, false⟩,⟨some 65, none, .mv (.tmp 2), 0, false⟩,⟨some 66, none, .len false (.tmp 65), 0, false⟩,⟨some 67, none, .bini .lss (.tmp 64) (.tmp 66), 0, false⟩,⟨some 68, none, .mv (.tmp 67), 0, false⟩,⟨some 69, some (68, true), .mv (.tmp 10), 0, false⟩,⟨some 70, some (68, true), .not (.tmp 69), 0, false⟩,⟨some 71, none, .pick (.tmp 68) (.tmp 70) (.con (.val (.bool false))), 0, false⟩])
 (.cond (.tmp 71)
 .skip
 (.exit 2)))
 (.seq (.block 3
 (.regD [0, 1, 2, 7, 8, 9, 10, 11] 0 [
 ⟨some 74, none, .mv (.tmp 8), 0, false⟩,⟨some 75, none, .mv (.tmp 7), 0, false⟩,⟨some 76, none, .mv (.tmp 0), 0, false⟩,⟨some 77, none, .mv (.tmp 1), 0, false⟩,⟨some 78, none, .mv (.tmp 9), 0, false⟩,⟨some 79, none, .ixA 1 (.tmp 77) (.tmp 78), 0, false⟩,⟨some 80, none, .ld1 none (.tmp 79), 0, false⟩,⟨some 81, none, .mv (.tmp 2), 0, false⟩,⟨some 82, none, .mv (.tmp 11), 0, false⟩,⟨some 83, none, .ixA 1 (.tmp 81) (.tmp 82), 0, false⟩,⟨some 84, none, .ld1 none (.tmp 83), 0, false⟩,⟨some 85, none, .call 55 [(.tmp 76), (.tmp 80), (.tmp 84)], 0, true⟩,⟨some 86, none, .call 54 [(.tmp 74), (.tmp 75), (.tmp 85)], 0, true⟩,⟨some 8, none, .mv (.tmp 86), 0, false⟩]))
 (.regN [0, 1, 2, 7, 8, 9, 10, 11] [
 ⟨some 72, none, .mv (.tmp 11), 0, false⟩,⟨some 73, none, .bini .add (.tmp 72) (.con (.val (.int .i64 1))), 0, false⟩,⟨some 11, none, .mv (.tmp 73), 0, false⟩])))
def t30L2 : AC := (.seq (.seq (.regN [0, 1, 2, 7, 8, 9] [
 ⟨some 15, none, .mv (.tmp 9), 0, false⟩,⟨some 16, none, .mv (.tmp 1), 0, false⟩,⟨some 17, none, .len false (.tmp 16), 0, false⟩,⟨some 18, none, .bini .lss (.tmp 15) (.tmp 17), 0, false⟩,⟨some 19, none, .mv (.tmp 18), 0, false⟩,⟨some 20, some (19, true), .mv (.tmp 2), 0, false⟩,⟨some 21, some (19, true), .len false (.tmp 20), 0, false⟩,⟨some 22, some (19, true), .bini .gtr (.tmp 21) (.con (.val (.int .i64 0))), 0, false⟩,⟨some 23, none, .pick (.tmp 19) (.tmp 22) (.con (.val (.bool false))), 0, false⟩])
 (.cond (.tmp 23)
 .skip
 (.exit 0)))
 (.seq (.block 1
 (.seq (.regD [0, 1, 2, 7, 8, 9] 0 [
 ⟨some 26, none, .mv (.tmp 1), 0, false⟩,⟨some 27, none, .mv (.tmp 9), 0, false⟩,⟨some 28, none, .ixA 1 (.tmp 26) (.tmp 27), 0, false⟩,⟨some 29, none, .ld1 none (.tmp 28), 0, false⟩,⟨some 30, none, .len true (.tmp 29), 0, false⟩,⟨some 31, none, .mv (.tmp 0), 0, false⟩,⟨some 32, none, .bini .geq (.tmp 30) (.tmp 31), 0, false⟩,⟨some 33, none, .mv (.tmp 32), 0, false⟩,⟨some 34, some (33, false), .mv (.tmp 1), 0, false⟩,⟨some 35, some (33, false), .mv (.tmp 9), 0, false⟩,⟨some 36, some (33, false), .ixA 1 (.tmp 34) (.tmp 35), 0, false⟩,⟨some 37, some (33, false), .ld1 none (.tmp 36), 0, false⟩,⟨some 38, some (33, false), .bins .neq (.tmp 37) (.con (.val (.string ⟨#[]⟩))), 0, false⟩,⟨some 39, some (33, false), .mv (.tmp 38), 0, false⟩,⟨some 40, some (39, true), .mv (.tmp 1), 0, false⟩,⟨some 41, some (39, true), .mv (.tmp 9), 0, false⟩,⟨some 42, some (39, true), .ixA 1 (.tmp 40) (.tmp 41), 0, false⟩,⟨some 43, some (39, true), .ld1 none (.tmp 42), 0, false⟩,⟨some 44, some (39, true), .mv (.tmp 1), 0, false⟩,⟨some 45, some (39, true), .mv (.tmp 9), 0, false⟩,⟨some 46, some (39, true), .ixA 1 (.tmp 44) (.tmp 45), 0, false⟩,⟨some 47, some (39, true), .ld1 none (.tmp 46), 0, false⟩,⟨some 48, some (39, true), .len true (.tmp 47), 0, false⟩,⟨some 49, some (39, true), .bini .sub (.tmp 48) (.con (.val (.int .i64 1))), 0, false⟩,⟨some 50, some (39, true), .ixS (.tmp 43) (.tmp 49), 0, false⟩,⟨some 51, some (39, true), .bini .eql (.tmp 50) (.con (.val (.int .u8 255))), 0, false⟩,⟨some 52, some (33, false), .pick (.tmp 39) (.tmp 51) (.con (.val (.bool false))), 0, false⟩,⟨some 53, none, .pick (.tmp 33) (.con (.val (.bool true))) (.tmp 52), 0, false⟩,⟨some 10, none, .mv (.tmp 53), 0, false⟩])
 (.seq (.seq (.regN [0, 1, 2, 7, 8, 9, 10] [
 ⟨some 54, none, .mv (.tmp 10), 0, false⟩])
 (.cond (.tmp 54)
 (.regN [0, 1, 2, 7, 8, 9, 10] [
 ⟨some 55, none, .mv (.tmp 8), 0, false⟩,⟨some 56, none, .mv (.tmp 7), 0, false⟩,⟨some 57, none, .mv (.tmp 0), 0, false⟩,⟨some 58, none, .mv (.tmp 1), 0, false⟩,⟨some 59, none, .mv (.tmp 9), 0, false⟩,⟨some 60, none, .ixA 1 (.tmp 58) (.tmp 59), 0, false⟩,⟨some 61, none, .ld1 none (.tmp 60), 0, false⟩,⟨some 62, none, .call 55 [(.tmp 57), (.tmp 61), (.con (.val (.string ⟨#[]⟩)))], 0, false⟩,⟨some 63, none, .call 54 [(.tmp 55), (.tmp 56), (.tmp 62)], 0, false⟩,⟨some 8, none, .mv (.tmp 63), 0, false⟩])
 .skip))
 (.seq (.regN [0, 1, 2, 7, 8, 9, 10] [
 ⟨some 11, none, .mv (.con (.val (.int .i64 0))), 0, false⟩])
 (.block 2
 (.loop [0, 1, 2, 7, 8, 9, 10, 11] t30L1))))))
 (.regN [0, 1, 2, 7, 8, 9] [
 ⟨some 24, none, .mv (.tmp 9), 0, false⟩,⟨some 25, none, .bini .add (.tmp 24) (.con (.val (.int .i64 1))), 0, false⟩,⟨some 9, none, .mv (.tmp 25), 0, false⟩])))
def t30B : AC := (.seq (.regN [0, 1, 2] [
 ⟨some 6, none, .mv (.con .e0), 0, false⟩])
 (.seq (.regN [0, 1, 2] [
 ⟨some 12, none, .mv (.tmp 0), 0, false⟩,⟨some 13, none, .mm true [(.con (.val (.int .i64 0))), (.tmp 12)], 0, false⟩,⟨some 0, none, .mv (.tmp 13), 0, false⟩])
 (.seq (.regN [0, 1, 2] [
 ⟨some 14, none, .mkm, 0, false⟩,⟨some 7, none, .mv (.tmp 14), 0, false⟩])
 (.seq (.regN [0, 1, 2, 7] [
 ⟨some 8, none, .mv (.con .e0), 0, false⟩])
 (.seq (.seq (.regN [0, 1, 2, 7, 8] [
 ⟨some 9, none, .mv (.con (.val (.int .i64 0))), 0, false⟩])
 (.block 0
 (.loop [0, 1, 2, 7, 8, 9] t30L2)))
 (.seq .frz
 (.seq (.regN [8] [
 ⟨some 87, none, .mv (.tmp 8), 0, false⟩,⟨some 88, none, .call 53 [(.tmp 87)], 0, false⟩,⟨some 6, none, .mv (.tmp 88), 0, false⟩])
 .ret)))))))
def t30 : AFn := ⟨3, t30B,
 [.tmp 6], true⟩
/-- viewport/viewportref12.joined  -/
def t55B : AC := (.seq (.regN [0, 1, 2] [
 ⟨some 6, none, .mv (.con (.val (.string ⟨#[]⟩))), 0, false⟩])
 (.seq (.seq (.regN [0, 1, 2] [
 ⟨some 7, none, .mv (.tmp 1), 0, false⟩,⟨some 8, none, .len true (.tmp 7), 0, false⟩,⟨some 9, none, .mv (.tmp 0), 0, false⟩,⟨some 10, none, .bini .lss (.tmp 8) (.tmp 9), 0, false⟩,⟨some 11, none, .mv (.tmp 10), 0, false⟩,⟨some 12, some (11, true), .mv (.tmp 1), 0, false⟩,⟨some 13, some (11, true), .bins .eql (.tmp 12) (.con (.val (.string ⟨#[]⟩))), 0, false⟩,⟨some 14, some (11, true), .mv (.tmp 13), 0, false⟩,⟨some 15, some (14, false), .mv (.tmp 1), 0, false⟩,⟨some 16, some (14, false), .mv (.tmp 1), 0, false⟩,⟨some 17, some (14, false), .len true (.tmp 16), 0, false⟩,⟨some 18, some (14, false), .bini .sub (.tmp 17) (.con (.val (.int .i64 1))), 0, false⟩,⟨some 19, some (14, false), .ixS (.tmp 15) (.tmp 18), 0, false⟩,⟨some 20, some (14, false), .bini .neq (.tmp 19) (.con (.val (.int .u8 255))), 0, false⟩,⟨some 21, some (11, true), .pick (.tmp 14) (.con (.val (.bool true))) (.tmp 20), 0, false⟩,⟨some 22, none, .pick (.tmp 11) (.tmp 21) (.con (.val (.bool false))), 0, false⟩])
 (.cond (.tmp 22)
 (.regN [0, 1, 2] [
 ⟨some 23, none, .mv (.tmp 1), 0, false⟩,⟨some 24, none, .mv (.tmp 2), 0, false⟩,⟨some 25, none, .bins .add (.tmp 23) (.tmp 24), 0, false⟩,⟨some 1, none, .mv (.tmp 25), 0, false⟩])
 .skip))
 (.seq (.seq (.regN [0, 1] [
 ⟨some 26, none, .mv (.tmp 1), 0, false⟩,⟨some 27, none, .len true (.tmp 26), 0, false⟩,⟨some 28, none, .mv (.tmp 0), 0, false⟩,⟨some 29, none, .bini .gtr (.tmp 27) (.tmp 28), 0, false⟩])
 (.cond (.tmp 29)
 (.regN [0, 1] [
 ⟨some 30, none, .mv (.tmp 1), 0, false⟩,⟨some 31, none, .mv (.tmp 0), 0, false⟩,⟨some 32, none, .slS (.tmp 30) none (some (.tmp 31)), 0, false⟩,⟨some 1, none, .mv (.tmp 32), 0, false⟩])
 .skip))
 (.seq (.regN [1] [
 ⟨some 33, none, .mv (.tmp 1), 0, false⟩,⟨some 6, none, .mv (.tmp 33), 0, false⟩])
 .ret))))
def t55 : AFn := ⟨3, t55B,
 [.tmp 6], true⟩
/-- viewport/viewportref12.add  -/
def t54B : AC := (.seq (.regN [0, 1, 2] [
 ⟨some 6, none, .mv (.con .e0), 0, false⟩])
 (.seq (.seq (.regN [0, 1, 2] [
 ⟨some 7, none, .mv (.tmp 1), 0, false⟩,⟨some 8, none, .mv (.tmp 2), 0, false⟩,⟨some 9, none, .mlk false [2] (.val (.bool false)) false (.tmp 7) (.tmp 8), 0, false⟩])
 (.cond (.tmp 9)
 (.seq (.regN [0] [
 ⟨some 10, none, .mv (.tmp 0), 0, false⟩,⟨some 6, none, .mv (.tmp 10), 0, false⟩])
 .ret)
 .skip))
 (.seq (.regN [0, 1, 2] [
 ⟨some 11, none, .mv (.tmp 1), 0, false⟩,⟨some 12, none, .mv (.tmp 2), 0, false⟩,⟨none, none, .mup false [2] (.tmp 11) (.tmp 12) (.con (.val (.bool true))), 0, false⟩])
 (.seq (.regN [0, 2] [
 ⟨some 13, none, .mv (.tmp 0), 0, false⟩,⟨some 14, none, .mv (.tmp 2), 0, false⟩,⟨some 15, none, .buildS 1 [(.val (.string ⟨#[]⟩))] [(0, 1, (.tmp 14))], 0, false⟩,⟨some 16, none, .app 1 16 (.tmp 13) (.tmp 15), 0, false⟩,⟨some 6, none, .mv (.tmp 16), 0, false⟩])
 .ret))))
def t54 : AFn := ⟨3, t54B,
 [.tmp 6], false⟩
end Go.Proofs.Ytpaocofhpdmjpaa
