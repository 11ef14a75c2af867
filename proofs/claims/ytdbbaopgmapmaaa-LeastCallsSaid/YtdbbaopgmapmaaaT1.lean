/- The functions of a program, compiled: printed by wip/hm/tools/Gen.lean. -/
import Derived.Test.YtdbbaopgmapmaaaHmG10
import Derived.Test.YtdbbaopgmapmaaaRows
namespace Go.Proofs.Ytdbbaopgmapmaaa
open Go Go.Hm
def kx (d : Nat) (o : AOp) : AI := ⟨some d, none, o, 0, false⟩
def ux (n : Nat) : AO := .tmp n
def ks257 : List Nat := List.replicate 257 1
def zi257 : List AV := List.replicate 257 (.val (.int .i64 0))
/-- viewport/viewportlaw05.LeastCalls  -/
def t8B : AC := (.seq (.regN [0, 1, 2] [
 ⟨some 3, none, .boxR 2 (.tmp 0), 0, false⟩,⟨some 4, none, .boxR 2 (.tmp 1), 0, false⟩,⟨some 6, none, .mv (.con (.val (.bool false))), 0, false⟩])
 (.seq (.seq (.regN [2, 3, 4] [
 ⟨some 19, none, .call 9 [], 0, false⟩,⟨some 20, none, .not (.tmp 19), 0, false⟩])
 (.cond (.tmp 20)
 (.seq (.regN [] [
 ⟨some 6, none, .mv (.con (.val (.bool false))), 0, false⟩])
 .ret)
 .skip))
 (.seq (.seq (.regN [2, 3, 4] [
 ⟨some 21, none, .ldA (some 3) 2 (.tmp 3), 0, false⟩,⟨some 22, none, .call 10 [(.tmp 21), (.con (.val (.int .i64 16)))], 0, false⟩,⟨some 23, none, .not (.tmp 22), 0, false⟩,⟨some 24, none, .mv (.tmp 23), 0, false⟩,⟨some 25, some (24, false), .ldA (some 4) 2 (.tmp 4), 0, false⟩,⟨some 26, some (24, false), .call 10 [(.tmp 25), (.con (.val (.int .i64 16)))], 0, false⟩,⟨some 27, some (24, false), .not (.tmp 26), 0, false⟩,⟨some 28, none, .pick (.tmp 24) (.con (.val (.bool true))) (.tmp 27), 0, false⟩])
 (.cond (.tmp 28)
 (.seq (.regN [] [
 ⟨some 6, none, .mv (.con (.val (.bool true))), 0, false⟩])
 .ret)
 .skip))
 (.seq (.regN [2, 3, 4] [
 ⟨some 30, none, .ldA (some 3) 2 (.tmp 3), 0, false⟩,⟨some 31, none, .call 12 [(.tmp 30)], 0, false⟩,⟨some 29, none, .mv (.tmp 31), 0, false⟩,⟨some 32, none, .ext (.tmp 29) 0, 0, false⟩,⟨some 33, none, .ext (.tmp 29) 1, 0, false⟩,⟨some 7, none, .allocR [.e0, .e0], 0, false⟩,⟨none, none, .st (some 7) 2 (.tmp 7) (.tmp 32), 0, false⟩,⟨some 8, none, .mv (.tmp 33), 0, false⟩])
 (.seq (.regN [2, 3, 4, 7, 8] [
 ⟨some 35, none, .ldA (some 3) 2 (.tmp 3), 0, false⟩,⟨some 36, none, .call 22 [(.tmp 35)], 0, false⟩,⟨some 34, none, .mv (.tmp 36), 0, false⟩,⟨some 37, none, .ext (.tmp 34) 0, 0, false⟩,⟨some 38, none, .ext (.tmp 34) 1, 0, false⟩,⟨some 9, none, .allocR [.e0, .e0], 0, false⟩,⟨none, none, .st (some 9) 2 (.tmp 9) (.tmp 37), 0, false⟩,⟨some 10, none, .mv (.tmp 38), 0, false⟩])
 (.seq (.regN [2, 3, 4, 7, 8, 9, 10] [
 ⟨some 40, none, .ldA (some 3) 2 (.tmp 3), 0, false⟩,⟨some 41, none, .ldA (some 4) 2 (.tmp 4), 0, false⟩,⟨some 42, none, .call 19 [(.tmp 40), (.tmp 41)], 0, false⟩,⟨some 39, none, .mv (.tmp 42), 0, false⟩,⟨some 43, none, .ext (.tmp 39) 0, 0, false⟩,⟨some 44, none, .ext (.tmp 39) 1, 0, false⟩,⟨some 11, none, .mv (.tmp 43), 0, false⟩,⟨some 12, none, .mv (.tmp 44), 0, false⟩])
 (.seq (.regN [2, 3, 4, 7, 8, 9, 10, 11, 12] [
 ⟨some 46, none, .ldA (some 3) 2 (.tmp 3), 0, false⟩,⟨some 47, none, .ldA (some 4) 2 (.tmp 4), 0, false⟩,⟨some 48, none, .call 23 [(.tmp 46), (.tmp 47)], 0, false⟩,⟨some 45, none, .mv (.tmp 48), 0, false⟩,⟨some 49, none, .ext (.tmp 45) 0, 0, false⟩,⟨some 50, none, .ext (.tmp 45) 1, 0, false⟩,⟨some 13, none, .mv (.tmp 49), 0, false⟩,⟨some 14, none, .mv (.tmp 50), 0, false⟩])
 (.seq (.regN [2, 3, 4, 7, 8, 9, 10, 11, 12, 13, 14] [
 ⟨some 52, none, .ldA (some 3) 2 (.tmp 3), 0, false⟩,⟨some 53, none, .mv (.tmp 2), 0, false⟩,⟨some 54, none, .call 14 [(.tmp 52), (.tmp 53)], 0, false⟩,⟨some 51, none, .mv (.tmp 54), 0, false⟩,⟨some 55, none, .ext (.tmp 51) 0, 0, false⟩,⟨some 56, none, .ext (.tmp 51) 1, 0, false⟩,⟨some 15, none, .mv (.tmp 55), 0, false⟩,⟨some 16, none, .mv (.tmp 56), 0, false⟩])
 (.seq (.regN [2, 3, 4, 7, 8, 9, 10, 11, 12, 13, 14, 15, 16] [
 ⟨some 58, none, .ldA (some 3) 2 (.tmp 3), 0, false⟩,⟨some 59, none, .mv (.tmp 2), 0, false⟩,⟨some 60, none, .call 24 [(.tmp 58), (.tmp 59)], 0, false⟩,⟨some 57, none, .mv (.tmp 60), 0, false⟩,⟨some 61, none, .ext (.tmp 57) 0, 0, false⟩,⟨some 62, none, .ext (.tmp 57) 1, 0, false⟩,⟨some 17, none, .mv (.tmp 61), 0, false⟩,⟨some 18, none, .mv (.tmp 62), 0, false⟩])
 (.seq (.regD [3, 4, 7, 8, 9, 10, 11, 12, 13, 14, 15, 16, 17, 18] 0 [
 ⟨some 63, none, .ldA (some 7) 2 (.tmp 7), 0, false⟩,⟨some 64, none, .ldA (some 9) 2 (.tmp 9), 0, false⟩,⟨some 65, none, .call 16 [(.tmp 63), (.tmp 64)], 0, true⟩,⟨some 66, none, .mv (.tmp 65), 0, false⟩,⟨some 67, some (66, true), .mv (.tmp 8), 0, false⟩,⟨some 68, some (66, true), .mv (.tmp 10), 0, false⟩,⟨some 69, some (66, true), .bini .eql (.tmp 67) (.tmp 68), 0, false⟩,⟨some 70, none, .pick (.tmp 66) (.tmp 69) (.con (.val (.bool false))), 0, false⟩,⟨some 71, none, .mv (.tmp 70), 0, false⟩,⟨some 72, some (71, true), .mv (.tmp 11), 0, false⟩,⟨some 73, some (71, true), .mv (.tmp 13), 0, false⟩,⟨some 74, some (71, true), .bins .eql (.tmp 72) (.tmp 73), 0, false⟩,⟨some 75, none, .pick (.tmp 71) (.tmp 74) (.con (.val (.bool false))), 0, false⟩,⟨some 76, none, .mv (.tmp 75), 0, false⟩,⟨some 77, some (76, true), .mv (.tmp 12), 0, false⟩,⟨some 78, some (76, true), .mv (.tmp 14), 0, false⟩,⟨some 79, some (76, true), .eqb false (.tmp 77) (.tmp 78), 0, false⟩,⟨some 80, none, .pick (.tmp 76) (.tmp 79) (.con (.val (.bool false))), 0, false⟩,⟨some 81, none, .mv (.tmp 80), 0, false⟩,⟨some 82, some (81, true), .mv (.tmp 15), 0, false⟩,⟨some 83, some (81, true), .mv (.tmp 17), 0, false⟩,⟨some 84, some (81, true), .bins .eql (.tmp 82) (.tmp 83), 0, false⟩,⟨some 85, none, .pick (.tmp 81) (.tmp 84) (.con (.val (.bool false))), 0, false⟩,⟨some 86, none, .mv (.tmp 85), 0, false⟩,⟨some 87, some (86, true), .mv (.tmp 16), 0, false⟩,⟨some 88, some (86, true), .mv (.tmp 18), 0, false⟩,⟨some 89, some (86, true), .eqb false (.tmp 87) (.tmp 88), 0, false⟩,⟨some 90, none, .pick (.tmp 86) (.tmp 89) (.con (.val (.bool false))), 0, false⟩,⟨some 91, none, .mv (.tmp 90), 0, false⟩,⟨some 92, some (91, true), .ldA (some 3) 2 (.tmp 3), 0, false⟩,⟨some 93, some (91, true), .call 13 [(.tmp 92)], 0, true⟩,⟨some 94, some (91, true), .ldA (some 3) 2 (.tmp 3), 0, false⟩,⟨some 95, some (91, true), .call 25 [(.tmp 94)], 0, true⟩,⟨some 96, some (91, true), .call 21 [(.tmp 93), (.tmp 95)], 0, true⟩,⟨some 97, none, .pick (.tmp 91) (.tmp 96) (.con (.val (.bool false))), 0, false⟩,⟨some 98, none, .mv (.tmp 97), 0, false⟩,⟨some 99, some (98, true), .ldA (some 3) 2 (.tmp 3), 0, false⟩,⟨some 100, some (98, true), .ldA (some 4) 2 (.tmp 4), 0, false⟩,⟨some 101, some (98, true), .call 17 [(.tmp 99), (.tmp 100)], 0, true⟩,⟨some 102, some (98, true), .ldA (some 3) 2 (.tmp 3), 0, false⟩,⟨some 103, some (98, true), .ldA (some 4) 2 (.tmp 4), 0, false⟩,⟨some 104, some (98, true), .call 26 [(.tmp 102), (.tmp 103)], 0, true⟩,⟨some 105, some (98, true), .eqb false (.tmp 101) (.tmp 104), 0, false⟩,⟨some 106, none, .pick (.tmp 98) (.tmp 105) (.con (.val (.bool false))), 0, false⟩,⟨some 6, none, .mv (.tmp 106), 0, false⟩])
 .ret))))))))))
def t8 : AFn := ⟨3, t8B,
 [.tmp 6], true⟩
/-- viewport/viewportlaw05.lives  -/
def t9B : AC := (.seq (.regN [] [
 kx 0 (.mv (.con (.val (.bool false))))])
 (.seq (.regN [] [
 kx 8 (.call 20 [(.con (.val (.string ⟨#[40, 97, 124, 98, 41, 42]⟩)))]),kx 9 (.call 12 [(ux 8)]),kx 7 (.mv (ux 9)),kx 10 (.ext (ux 7) 0),kx 11 (.ext (ux 7) 1),kx 1 (.allocR [.e0, .e0]),⟨none, none, .st (some 1) 2 (ux 1) (ux 10), 0, false⟩,kx 2 (.mv (ux 11))])
 (.seq (.regN [1, 2] [
 kx 13 (.call 20 [(.con (.val (.string ⟨#[91, 97, 98, 93, 42]⟩)))]),kx 14 (.call 12 [(ux 13)]),kx 12 (.mv (ux 14)),kx 15 (.ext (ux 12) 0),kx 16 (.ext (ux 12) 1),kx 3 (.allocR [.e0, .e0]),⟨none, none, .st (some 3) 2 (ux 3) (ux 15), 0, false⟩,kx 4 (.mv (ux 16))])
 (.seq (.regN [1, 2, 3, 4] [
 kx 18 (.call 20 [(.con (.val (.string ⟨#[97, 42]⟩)))]),kx 19 (.call 20 [(.con (.val (.string ⟨#[97, 43]⟩)))]),kx 20 (.call 19 [(ux 18), (ux 19)]),kx 17 (.mv (ux 20)),kx 21 (.ext (ux 17) 0),kx 22 (.ext (ux 17) 1),kx 5 (.mv (ux 21)),kx 6 (.mv (ux 22))])
 (.seq (.regN [1, 2, 3, 4, 5, 6] [
 kx 23 (.mv (ux 2)),kx 24 (.bini .eql (ux 23) (.con (.val (.int .i64 0)))),kx 25 (.mv (ux 24)),⟨some 26, some (25, true), .mv (ux 4), 0, false⟩,⟨some 27, some (25, true), .bini .eql (ux 26) (.con (.val (.int .i64 0))), 0, false⟩,kx 28 (.pick (ux 25) (ux 27) (.con (.val (.bool false)))),kx 29 (.mv (ux 28)),⟨some 30, some (29, true), .ldA (some 1) 2 (ux 1), 0, false⟩,⟨some 31, some (29, true), .ldA (some 3) 2 (ux 3), 0, false⟩,⟨some 32, some (29, true), .call 16 [(ux 30), (ux 31)], 0, false⟩,kx 33 (.pick (ux 29) (ux 32) (.con (.val (.bool false)))),kx 34 (.mv (ux 33)),⟨some 35, some (34, true), .fldA 1 (ux 1), 0, false⟩,⟨some 36, some (34, true), .ld1 (some 1) (ux 35), 0, false⟩,⟨some 37, some (34, true), .len false (ux 36), 0, false⟩,⟨some 38, some (34, true), .bini .eql (ux 37) (.con (.val (.int .i64 1))), 0, false⟩,kx 39 (.pick (ux 34) (ux 38) (.con (.val (.bool false)))),kx 40 (.mv (ux 39)),⟨some 41, some (40, true), .mv (ux 6), 0, false⟩,kx 42 (.pick (ux 40) (ux 41) (.con (.val (.bool false)))),kx 43 (.mv (ux 42)),⟨some 44, some (43, true), .mv (ux 5), 0, false⟩,⟨some 45, some (43, true), .bins .eql (ux 44) (.con (.val (.string ⟨#[]⟩))), 0, false⟩,kx 46 (.pick (ux 43) (ux 45) (.con (.val (.bool false)))),kx 0 (.mv (ux 46))])
 .ret)))))
def t9 : AFn := ⟨0, t9B,
 [.tmp 0], true⟩
/-- viewport/viewportlaw05.table  -/
def t20B : AC := (.seq (.regN [0] [
 kx 2 (.allocR [.e0, .e0])])
 (.seq (.regN [0, 2] [
 kx 11 (.mv (ux 0)),kx 12 (.call 36 [(ux 11)]),kx 10 (.mv (ux 12)),kx 13 (.ext (ux 10) 0),kx 14 (.ext (ux 10) 1),kx 15 (.ext (ux 10) 2),kx 3 (.mv (ux 13)),kx 4 (.mv (ux 14)),kx 5 (.mv (ux 15))])
 (.seq (.regN [2, 3] [
 kx 17 (.mv (ux 3)),kx 18 (.buildS 1 [.e0] [(0, 1, (ux 17))]),kx 19 (.call 37 [(ux 18)]),kx 16 (.mv (ux 19)),kx 20 (.ext (ux 16) 0),kx 21 (.ext (ux 16) 1),kx 6 (.allocR [.e0, .e0, .e0]),⟨none, none, .st (some 6) 3 (ux 6) (ux 20), 0, false⟩,kx 7 (.mv (ux 21))])
 (.seq (.regN [2, 6] [
 kx 23 (.ldA (some 6) 3 (ux 6)),kx 24 (.call 38 [(ux 23), (.con (.val (.int .i64 99)))]),kx 22 (.mv (ux 24)),kx 25 (.ext (ux 22) 0),kx 26 (.ext (ux 22) 1),kx 8 (.allocR [.e0, .e0]),⟨none, none, .st (some 8) 2 (ux 8) (ux 25), 0, false⟩,kx 9 (.mv (ux 26))])
 (.seq (.regN [2, 8] [
 kx 27 (.ldA (some 8) 2 (ux 8)),⟨none, none, .st (some 2) 2 (ux 2) (ux 27), 0, false⟩])
 .ret)))))
def t20 : AFn := ⟨1, t20B,
 [.cell 2 2 true], true⟩
/-- viewport/viewportref02.Read  -/
def t36B : AC := (.seq (.regN [0] [
 kx 2 (.mv (.con .e0)),kx 3 (.mv (.con (.val (.int .i64 0)))),kx 4 (.mv (.con (.val (.int .i64 0))))])
 (.seq (.seq (.regN [0] [
 kx 6 (.mv (ux 0)),kx 7 (.len true (ux 6)),kx 8 (.bini .gtr (ux 7) (.con (.val (.int .i64 256))))])
 (.cond (ux 8)
 (.seq (.regN [] [
 kx 2 (.mv (.con .e0)),kx 3 (.mv (.con (.val (.int .i64 0)))),kx 4 (.mv (.con (.val (.int .i64 3))))])
 .ret)
 .skip))
 (.seq (.regN [0] [
 kx 9 (.mv (ux 0)),kx 10 (.build [(.val (.string ⟨#[]⟩)), (.val (.int .i64 0)), .e0, (.val (.int .i64 0))] [(0, 1, (ux 9))]),kx 11 (.boxH 4 (ux 10)),kx 5 (.mv (ux 11))])
 (.seq (.regN [0, 5, 11] [
 kx 12 (.mv (ux 5)),kx 13 (.call 48 [(ux 12)])])
 (.seq (.seq (.regN [0, 5, 11] [
 kx 14 (.mv (ux 5)),kx 15 (.call 49 [(ux 14)])])
 (.cond (ux 15)
 (.regN [0, 5, 11] [
 kx 16 (.mv (ux 5)),kx 17 (.mv (ux 5)),kx 18 (.nilc (ux 17)),kx 19 (.fldA 1 (ux 18)),kx 20 (.ld1 none (ux 19)),kx 21 (.call 50 [(ux 16), (ux 20), (.con (.val (.int .i64 7)))])])
 .skip))
 (.seq (.seq (.regN [0, 5, 11] [
 kx 22 (.mv (ux 5)),kx 23 (.nilc (ux 22)),kx 24 (.fldA 3 (ux 23)),kx 25 (.ld1 none (ux 24)),kx 26 (.bini .neq (ux 25) (.con (.val (.int .i64 0))))])
 (.cond (ux 26)
 (.seq (.regD [5, 11] 0 [
 kx 27 (.mv (ux 5)),kx 28 (.nilc (ux 27)),kx 29 (.fldA 1 (ux 28)),kx 30 (.ld1 none (ux 29)),kx 31 (.mv (ux 5)),kx 32 (.nilc (ux 31)),kx 33 (.fldA 3 (ux 32)),kx 34 (.ld1 none (ux 33)),kx 2 (.mv (.con .e0)),kx 3 (.mv (ux 30)),kx 4 (.mv (ux 34))])
 .ret)
 .skip))
 (.seq (.regN [0, 5, 11] [
 kx 35 (.mv (ux 5)),kx 36 (.nilc (ux 35)),kx 37 (.fldA 2 (ux 36)),kx 38 (.ld1 none (ux 37)),kx 39 (.mv (ux 0)),kx 40 (.len true (ux 39)),kx 2 (.mv (ux 38)),kx 3 (.mv (ux 40)),kx 4 (.mv (.con (.val (.int .i64 0))))])
 .ret)))))))
def t36 : AFn := ⟨1, t36B,
 [.tmp 2, .tmp 3, .tmp 4], true⟩
/-- (*viewport/viewportref02.reader).alt  -/
def t48L1 : AC := (.seq (.seq (.regD [0, 3] 0 [
 kx 7 (.mv (ux 0)),⟨some 8, none, .call 49 [(ux 7)], 0, true⟩,kx 9 (.mv (ux 8)),⟨some 10, some (9, true), .mv (ux 0), 0, false⟩,⟨some 11, some (9, true), .nilc (ux 10), 0, false⟩,⟨some 12, some (9, true), .fldA 0 (ux 11), 0, false⟩,⟨some 13, some (9, true), .ld1 none (ux 12), 0, false⟩,⟨some 14, some (9, true), .mv (ux 0), 0, false⟩,⟨some 15, some (9, true), .nilc (ux 14), 0, false⟩,⟨some 16, some (9, true), .fldA 1 (ux 15), 0, false⟩,⟨some 17, some (9, true), .ld1 none (ux 16), 0, false⟩,⟨some 18, some (9, true), .ixS (ux 13) (ux 17), 0, false⟩,⟨some 19, some (9, true), .bini .eql (ux 18) (.con (.val (.int .u8 124))), 0, false⟩,kx 20 (.pick (ux 9) (ux 19) (.con (.val (.bool false))))])
 (.cond (ux 20)
 .skip
 (.exit 0)))
 (.block 1
 (.seq (.regN [0, 3] [
 kx 21 (.mv (ux 0)),kx 22 (.nilc (ux 21)),kx 23 (.fldA 1 (ux 22)),kx 24 (.ld1 none (ux 23)),kx 25 (.bini .add (ux 24) (.con (.val (.int .i64 1)))),kx 26 (.nilc (ux 21)),kx 27 (.fldA 1 (ux 26)),⟨none, none, .st none 1 (ux 27) (ux 25), 0, false⟩])
 (.regN [0, 3] [
 kx 28 (.mv (ux 3)),kx 29 (.mv (ux 0)),kx 30 (.call 60 [(ux 29)]),kx 31 (.buildS 1 [(.val (.int .i64 0))] [(0, 1, (ux 30))]),kx 32 (.app 1 8 (ux 28) (ux 31)),kx 3 (.mv (ux 32))]))))
def t48B : AC := (.seq (.regN [0] [
 kx 2 (.mv (.con (.val (.int .i64 0))))])
 (.seq (.regN [0] [
 kx 4 (.mv (ux 0)),kx 5 (.call 60 [(ux 4)]),kx 6 (.buildH 1 1 [(.val (.int .i64 0))] [(0, 1, (ux 5))]),kx 3 (.mv (ux 6))])
 (.seq (.block 0
 (.loop [0, 3] t48L1))
 (.seq (.seq (.regN [0, 3] [
 kx 33 (.mv (ux 3)),kx 34 (.len false (ux 33)),kx 35 (.bini .eql (ux 34) (.con (.val (.int .i64 1))))])
 (.cond (ux 35)
 (.seq (.regN [3] [
 kx 36 (.mv (ux 3)),kx 37 (.ixA 1 (ux 36) (.con (.val (.int .i64 0)))),kx 38 (.ld1 none (ux 37)),kx 2 (.mv (ux 38))])
 .ret)
 .skip))
 (.seq (.regN [0, 3] [
 kx 39 (.mv (ux 0)),kx 40 (.build [(.val (.int .u64 0)), (.val (.int .u64 0)), (.val (.int .u64 0)), (.val (.int .u64 0))] []),kx 41 (.mv (ux 3)),kx 42 (.call 61 [(ux 39), (.con (.val (.int .i64 4))), (ux 40), (ux 41)]),kx 2 (.mv (ux 42))])
 .ret)))))
def t48 : AFn := ⟨1, t48B,
 [.tmp 2], false⟩
/-- (*viewport/viewportref02.reader).cat  -/
def t60L1 : AC := (.seq (.seq (.regD [0, 3] 0 [
 kx 4 (.mv (ux 0)),⟨some 5, none, .call 49 [(ux 4)], 0, true⟩,kx 6 (.mv (ux 5)),⟨some 7, some (6, true), .mv (ux 0), 0, false⟩,⟨some 8, some (6, true), .nilc (ux 7), 0, false⟩,⟨some 9, some (6, true), .fldA 0 (ux 8), 0, false⟩,⟨some 10, some (6, true), .ld1 none (ux 9), 0, false⟩,⟨some 11, some (6, true), .mv (ux 0), 0, false⟩,⟨some 12, some (6, true), .nilc (ux 11), 0, false⟩,⟨some 13, some (6, true), .fldA 1 (ux 12), 0, false⟩,⟨some 14, some (6, true), .ld1 none (ux 13), 0, false⟩,⟨some 15, some (6, true), .ixS (ux 10) (ux 14), 0, false⟩,⟨some 16, some (6, true), .bini .neq (ux 15) (.con (.val (.int .u8 124))), 0, false⟩,kx 17 (.pick (ux 6) (ux 16) (.con (.val (.bool false)))),kx 18 (.mv (ux 17)),⟨some 19, some (18, true), .mv (ux 0), 0, false⟩,⟨some 20, some (18, true), .nilc (ux 19), 0, false⟩,⟨some 21, some (18, true), .fldA 0 (ux 20), 0, false⟩,⟨some 22, some (18, true), .ld1 none (ux 21), 0, false⟩,⟨some 23, some (18, true), .mv (ux 0), 0, false⟩,⟨some 24, some (18, true), .nilc (ux 23), 0, false⟩,⟨some 25, some (18, true), .fldA 1 (ux 24), 0, false⟩,⟨some 26, some (18, true), .ld1 none (ux 25), 0, false⟩,⟨some 27, some (18, true), .ixS (ux 22) (ux 26), 0, false⟩,⟨some 28, some (18, true), .bini .neq (ux 27) (.con (.val (.int .u8 41))), 0, false⟩,kx 29 (.pick (ux 18) (ux 28) (.con (.val (.bool false))))])
 (.cond (ux 29)
 .skip
 (.exit 0)))
 (.block 1
 (.regN [0, 3] [
 kx 30 (.mv (ux 3)),kx 31 (.mv (ux 0)),kx 32 (.call 66 [(ux 31)]),kx 33 (.buildS 1 [(.val (.int .i64 0))] [(0, 1, (ux 32))]),kx 34 (.app 1 8 (ux 30) (ux 33)),kx 3 (.mv (ux 34))])))
def t60B : AC := (.seq (.regN [0] [
 kx 2 (.mv (.con (.val (.int .i64 0))))])
 (.seq (.regN [0] [
 kx 3 (.mv (.con .e0))])
 (.seq (.block 0
 (.loop [0, 3] t60L1))
 (.seq (.seq (.regN [0, 3] [
 kx 35 (.mv (ux 3)),kx 36 (.len false (ux 35))])
 (.block 2
 (.seq (.regN [0, 3, 36] [
 kx 38 (.bini .eql (ux 36) (.con (.val (.int .i64 0)))),kx 37 (.mv (ux 38))])
 (.cond (ux 37)
 (.seq (.regN [0] [
 kx 39 (.mv (ux 0)),kx 40 (.build [(.val (.int .u64 0)), (.val (.int .u64 0)), (.val (.int .u64 0)), (.val (.int .u64 0))] []),kx 41 (.call 61 [(ux 39), (.con (.val (.int .i64 1))), (ux 40), (.con .e0)]),kx 2 (.mv (ux 41))])
 .ret)
 (.seq (.regN [0, 3, 36] [
 kx 43 (.bini .eql (ux 36) (.con (.val (.int .i64 1)))),kx 42 (.mv (ux 43))])
 (.cond (ux 42)
 (.seq (.regN [3] [
 kx 44 (.mv (ux 3)),kx 45 (.ixA 1 (ux 44) (.con (.val (.int .i64 0)))),kx 46 (.ld1 none (ux 45)),kx 2 (.mv (ux 46))])
 .ret)
 .skip))))))
 (.seq (.regN [0, 3] [
 kx 47 (.mv (ux 0)),kx 48 (.build [(.val (.int .u64 0)), (.val (.int .u64 0)), (.val (.int .u64 0)), (.val (.int .u64 0))] []),kx 49 (.mv (ux 3)),kx 50 (.call 61 [(ux 47), (.con (.val (.int .i64 3))), (ux 48), (ux 49)]),kx 2 (.mv (ux 50))])
 .ret)))))
def t60 : AFn := ⟨1, t60B,
 [.tmp 2], false⟩
/-- (*viewport/viewportref02.reader).more  -/
def t49B : AC := (.seq (.regN [0] [
 kx 2 (.mv (.con (.val (.bool false))))])
 (.seq (.regD [0] 0 [
 kx 3 (.mv (ux 0)),kx 4 (.nilc (ux 3)),kx 5 (.fldA 3 (ux 4)),kx 6 (.ld1 none (ux 5)),kx 7 (.bini .eql (ux 6) (.con (.val (.int .i64 0)))),kx 8 (.mv (ux 7)),⟨some 9, some (8, true), .mv (ux 0), 0, false⟩,⟨some 10, some (8, true), .nilc (ux 9), 0, false⟩,⟨some 11, some (8, true), .fldA 1 (ux 10), 0, false⟩,⟨some 12, some (8, true), .ld1 none (ux 11), 0, false⟩,⟨some 13, some (8, true), .mv (ux 0), 0, false⟩,⟨some 14, some (8, true), .nilc (ux 13), 0, false⟩,⟨some 15, some (8, true), .fldA 0 (ux 14), 0, false⟩,⟨some 16, some (8, true), .ld1 none (ux 15), 0, false⟩,⟨some 17, some (8, true), .len true (ux 16), 0, false⟩,⟨some 18, some (8, true), .bini .lss (ux 12) (ux 17), 0, false⟩,kx 19 (.pick (ux 8) (ux 18) (.con (.val (.bool false)))),kx 2 (.mv (ux 19))])
 .ret))
def t49 : AFn := ⟨1, t49B,
 [.tmp 2], true⟩
/-- (*viewport/viewportref02.reader).item  -/
def t66L1 : AC := (.seq (.seq (.regN [0, 3] [
 kx 7 (.mv (ux 0)),kx 8 (.call 49 [(ux 7)])])
 (.cond (ux 8)
 .skip
 (.exit 0)))
 (.block 1
 (.seq (.regN [0, 3] [
 kx 4 (.mv (.con (.val (.int .i64 0))))])
 (.seq (.seq (.regD [0, 3, 4] 0 [
 kx 9 (.mv (ux 0)),kx 10 (.nilc (ux 9)),kx 11 (.fldA 0 (ux 10)),kx 12 (.ld1 none (ux 11)),kx 13 (.mv (ux 0)),kx 14 (.nilc (ux 13)),kx 15 (.fldA 1 (ux 14)),kx 16 (.ld1 none (ux 15)),kx 17 (.ixS (ux 12) (ux 16))])
 (.block 2
 (.seq (.regN [0, 3, 4, 17] [
 kx 19 (.bini .eql (ux 17) (.con (.val (.int .u8 42)))),kx 18 (.mv (ux 19))])
 (.cond (ux 18)
 (.regN [0, 3] [
 kx 4 (.mv (.con (.val (.int .i64 5))))])
 (.seq (.regN [0, 3, 4, 17] [
 kx 21 (.bini .eql (ux 17) (.con (.val (.int .u8 43)))),kx 20 (.mv (ux 21))])
 (.cond (ux 20)
 (.regN [0, 3] [
 kx 4 (.mv (.con (.val (.int .i64 6))))])
 (.seq (.regN [0, 3, 4, 17] [
 kx 23 (.bini .eql (ux 17) (.con (.val (.int .u8 63)))),kx 22 (.mv (ux 23))])
 (.cond (ux 22)
 (.regN [0, 3] [
 kx 4 (.mv (.con (.val (.int .i64 7))))])
 .skip))))))))
 (.seq (.seq (.regN [0, 3, 4] [
 kx 24 (.mv (ux 4)),kx 25 (.bini .eql (ux 24) (.con (.val (.int .i64 0))))])
 (.cond (ux 25)
 (.seq (.regN [3] [
 kx 26 (.mv (ux 3)),kx 2 (.mv (ux 26))])
 .ret)
 .skip))
 (.seq (.regN [0, 3, 4] [
 kx 27 (.mv (ux 0)),kx 28 (.nilc (ux 27)),kx 29 (.fldA 1 (ux 28)),kx 30 (.ld1 none (ux 29)),kx 31 (.bini .add (ux 30) (.con (.val (.int .i64 1)))),kx 32 (.nilc (ux 27)),kx 33 (.fldA 1 (ux 32)),⟨none, none, .st none 1 (ux 33) (ux 31), 0, false⟩])
 (.regN [0, 3, 4] [
 kx 34 (.mv (ux 0)),kx 35 (.mv (ux 4)),kx 36 (.build [(.val (.int .u64 0)), (.val (.int .u64 0)), (.val (.int .u64 0)), (.val (.int .u64 0))] []),kx 37 (.mv (ux 3)),kx 38 (.buildS 1 [(.val (.int .i64 0))] [(0, 1, (ux 37))]),kx 39 (.call 61 [(ux 34), (ux 35), (ux 36), (ux 38)]),kx 3 (.mv (ux 39))])))))))
def t66B : AC := (.seq (.regN [0] [
 kx 2 (.mv (.con (.val (.int .i64 0))))])
 (.seq (.regN [0] [
 kx 5 (.mv (ux 0)),kx 6 (.call 67 [(ux 5)]),kx 3 (.mv (ux 6))])
 (.seq (.block 0
 (.loop [0, 3] t66L1))
 (.seq (.regN [3] [
 kx 40 (.mv (ux 3)),kx 2 (.mv (ux 40))])
 .ret))))
def t66 : AFn := ⟨1, t66B,
 [.tmp 2], false⟩
/-- (*viewport/viewportref02.reader).thing  -/
def t67B : AC := (.seq (.regN [0] [
 kx 2 (.mv (.con (.val (.int .i64 0))))])
 (.seq (.regD [0] 0 [
 kx 7 (.mv (ux 0)),kx 8 (.nilc (ux 7)),kx 9 (.fldA 0 (ux 8)),kx 10 (.ld1 none (ux 9)),kx 11 (.mv (ux 0)),kx 12 (.nilc (ux 11)),kx 13 (.fldA 1 (ux 12)),kx 14 (.ld1 none (ux 13)),kx 15 (.ixS (ux 10) (ux 14)),kx 3 (.mv (ux 15))])
 (.seq (.seq (.regN [0, 3] [
 kx 16 (.mv (ux 3))])
 (.block 0
 (.seq (.seq (.regN [0, 3, 16] [
 kx 18 (.bini .eql (ux 16) (.con (.val (.int .u8 41)))),kx 17 (.mv (ux 18))])
 (.cond (ux 17)
 .skip
 (.seq (.regN [0, 3, 16] [
 kx 19 (.bini .eql (ux 16) (.con (.val (.int .u8 93)))),kx 17 (.mv (ux 19))])
 (.cond (ux 17)
 .skip
 (.seq (.regN [0, 3, 16] [
 kx 20 (.bini .eql (ux 16) (.con (.val (.int .u8 124)))),kx 17 (.mv (ux 20))])
 (.cond (ux 17)
 .skip
 (.seq (.regN [0, 3, 16] [
 kx 21 (.bini .eql (ux 16) (.con (.val (.int .u8 42)))),kx 17 (.mv (ux 21))])
 (.cond (ux 17)
 .skip
 (.seq (.regN [0, 3, 16] [
 kx 22 (.bini .eql (ux 16) (.con (.val (.int .u8 43)))),kx 17 (.mv (ux 22))])
 (.cond (ux 17)
 .skip
 (.regN [0, 3, 16] [
 kx 23 (.bini .eql (ux 16) (.con (.val (.int .u8 63)))),kx 17 (.mv (ux 23))])))))))))))
 (.cond (ux 17)
 (.seq (.regN [0] [
 kx 24 (.mv (ux 0)),kx 25 (.mv (ux 0)),kx 26 (.nilc (ux 25)),kx 27 (.fldA 1 (ux 26)),kx 28 (.ld1 none (ux 27)),kx 29 (.call 50 [(ux 24), (ux 28), (.con (.val (.int .i64 7)))]),kx 2 (.mv (ux 29))])
 .ret)
 .skip))))
 (.seq (.regN [0, 3] [
 kx 30 (.mv (ux 0)),kx 31 (.nilc (ux 30)),kx 32 (.fldA 1 (ux 31)),kx 33 (.ld1 none (ux 32)),kx 34 (.bini .add (ux 33) (.con (.val (.int .i64 1)))),kx 35 (.nilc (ux 30)),kx 36 (.fldA 1 (ux 35)),⟨none, none, .st none 1 (ux 36) (ux 34), 0, false⟩])
 (.seq (.seq (.regN [0, 3] [
 kx 37 (.mv (ux 3))])
 (.block 1
 (.seq (.regN [0, 3, 37] [
 kx 39 (.bini .eql (ux 37) (.con (.val (.int .u8 40)))),kx 38 (.mv (ux 39))])
 (.cond (ux 38)
 (.seq (.regN [0] [
 kx 40 (.mv (ux 0)),kx 41 (.call 48 [(ux 40)]),kx 4 (.mv (ux 41))])
 (.seq (.seq (.regN [0, 4] [
 kx 42 (.mv (ux 0)),kx 43 (.call 49 [(ux 42)]),kx 44 (.not (ux 43))])
 (.cond (ux 44)
 (.seq (.regN [0] [
 kx 45 (.mv (ux 0)),kx 46 (.mv (ux 0)),kx 47 (.nilc (ux 46)),kx 48 (.fldA 0 (ux 47)),kx 49 (.ld1 none (ux 48)),kx 50 (.len true (ux 49)),kx 51 (.call 50 [(ux 45), (ux 50), (.con (.val (.int .i64 8)))]),kx 2 (.mv (ux 51))])
 .ret)
 .skip))
 (.seq (.seq (.regD [0, 4] 0 [
 kx 52 (.mv (ux 0)),kx 53 (.nilc (ux 52)),kx 54 (.fldA 0 (ux 53)),kx 55 (.ld1 none (ux 54)),kx 56 (.mv (ux 0)),kx 57 (.nilc (ux 56)),kx 58 (.fldA 1 (ux 57)),kx 59 (.ld1 none (ux 58)),kx 60 (.ixS (ux 55) (ux 59)),kx 61 (.bini .neq (ux 60) (.con (.val (.int .u8 41))))])
 (.cond (ux 61)
 (.seq (.regN [0] [
 kx 62 (.mv (ux 0)),kx 63 (.mv (ux 0)),kx 64 (.nilc (ux 63)),kx 65 (.fldA 1 (ux 64)),kx 66 (.ld1 none (ux 65)),kx 67 (.call 50 [(ux 62), (ux 66), (.con (.val (.int .i64 7)))]),kx 2 (.mv (ux 67))])
 .ret)
 .skip))
 (.seq (.regN [0, 4] [
 kx 68 (.mv (ux 0)),kx 69 (.nilc (ux 68)),kx 70 (.fldA 1 (ux 69)),kx 71 (.ld1 none (ux 70)),kx 72 (.bini .add (ux 71) (.con (.val (.int .i64 1)))),kx 73 (.nilc (ux 68)),kx 74 (.fldA 1 (ux 73)),⟨none, none, .st none 1 (ux 74) (ux 72), 0, false⟩])
 (.seq (.regN [4] [
 kx 75 (.mv (ux 4)),kx 2 (.mv (ux 75))])
 .ret)))))
 (.seq (.regN [0, 3, 37] [
 kx 77 (.bini .eql (ux 37) (.con (.val (.int .u8 91)))),kx 76 (.mv (ux 77))])
 (.cond (ux 76)
 (.seq (.regN [0] [
 kx 78 (.mv (ux 0)),kx 79 (.call 68 [(ux 78)]),kx 5 (.allocR [(.val (.int .u64 0)), (.val (.int .u64 0)), (.val (.int .u64 0)), (.val (.int .u64 0))]),⟨none, none, .st (some 5) 4 (ux 5) (ux 79), 0, false⟩])
 (.seq (.regN [0, 5] [
 kx 80 (.mv (ux 0)),kx 81 (.ldA (some 5) 4 (ux 5)),kx 82 (.call 61 [(ux 80), (.con (.val (.int .i64 2))), (ux 81), (.con .e0)]),kx 2 (.mv (ux 82))])
 .ret))
 (.seq (.regN [0, 3, 37] [
 kx 84 (.bini .eql (ux 37) (.con (.val (.int .u8 46)))),kx 83 (.mv (ux 84))])
 (.cond (ux 83)
 (.seq (.regN [0] [
 kx 85 (.mv (ux 0)),kx 86 (.call 70 [(.con (.val (.string ⟨#[10]⟩)))]),kx 87 (.call 69 [(ux 86)]),kx 88 (.call 61 [(ux 85), (.con (.val (.int .i64 2))), (ux 87), (.con .e0)]),kx 2 (.mv (ux 88))])
 .ret)
 (.seq (.regN [0, 3, 37] [
 kx 90 (.bini .eql (ux 37) (.con (.val (.int .u8 92)))),kx 89 (.mv (ux 90))])
 (.cond (ux 89)
 (.seq (.regN [0] [
 kx 91 (.mv (ux 0)),kx 92 (.call 71 [(ux 91)]),kx 6 (.mv (ux 92))])
 (.seq (.regN [0, 6] [
 kx 93 (.mv (ux 0)),kx 94 (.mv (ux 6)),kx 95 (.buildS 1 [(.val (.int .u8 0))] [(0, 1, (ux 94))]),kx 96 (.b2s (ux 95)),kx 97 (.call 70 [(ux 96)]),kx 98 (.call 61 [(ux 93), (.con (.val (.int .i64 2))), (ux 97), (.con .e0)]),kx 2 (.mv (ux 98))])
 .ret))
 .skip))))))))))
 (.seq (.regN [0, 3] [
 kx 99 (.mv (ux 0)),kx 100 (.mv (ux 3)),kx 101 (.buildS 1 [(.val (.int .u8 0))] [(0, 1, (ux 100))]),kx 102 (.b2s (ux 101)),kx 103 (.call 70 [(ux 102)]),kx 104 (.call 61 [(ux 99), (.con (.val (.int .i64 2))), (ux 103), (.con .e0)]),kx 2 (.mv (ux 104))])
 .ret))))))
def t67 : AFn := ⟨1, t67B,
 [.tmp 2], false⟩
/-- (*viewport/viewportref02.reader).fail  -/
def t50B : AC := (.seq (.regN [0, 1, 2] [
 kx 6 (.mv (.con (.val (.int .i64 0))))])
 (.seq (.seq (.regN [0, 1, 2] [
 kx 7 (.mv (ux 0)),kx 8 (.nilc (ux 7)),kx 9 (.fldA 3 (ux 8)),kx 10 (.ld1 none (ux 9)),kx 11 (.bini .eql (ux 10) (.con (.val (.int .i64 0))))])
 (.cond (ux 11)
 (.regN [0, 1, 2] [
 kx 12 (.mv (ux 0)),kx 13 (.mv (ux 0)),kx 14 (.mv (ux 2)),kx 15 (.mv (ux 1)),kx 16 (.nilc (ux 12)),kx 17 (.fldA 3 (ux 16)),⟨none, none, .st none 1 (ux 17) (ux 14), 0, false⟩,kx 18 (.nilc (ux 13)),kx 19 (.fldA 1 (ux 18)),⟨none, none, .st none 1 (ux 19) (ux 15), 0, false⟩])
 .skip))
 (.seq (.regN [] [
 kx 6 (.mv (.con (.val (.int .i64 0))))])
 .ret)))
def t50 : AFn := ⟨3, t50B,
 [.tmp 6], true⟩
/-- (*viewport/viewportref02.reader).class  -/
def t68L1 : AC := (.seq (.seq (.regD [0, 2, 3, 4] 0 [
 kx 31 (.mv (ux 0)),⟨some 32, none, .call 49 [(ux 31)], 0, true⟩,kx 33 (.mv (ux 32)),⟨some 34, some (33, true), .mv (ux 0), 0, false⟩,⟨some 35, some (33, true), .nilc (ux 34), 0, false⟩,⟨some 36, some (33, true), .fldA 0 (ux 35), 0, false⟩,⟨some 37, some (33, true), .ld1 none (ux 36), 0, false⟩,⟨some 38, some (33, true), .mv (ux 0), 0, false⟩,⟨some 39, some (33, true), .nilc (ux 38), 0, false⟩,⟨some 40, some (33, true), .fldA 1 (ux 39), 0, false⟩,⟨some 41, some (33, true), .ld1 none (ux 40), 0, false⟩,⟨some 42, some (33, true), .ixS (ux 37) (ux 41), 0, false⟩,⟨some 43, some (33, true), .bini .neq (ux 42) (.con (.val (.int .u8 93))), 0, false⟩,kx 44 (.pick (ux 33) (ux 43) (.con (.val (.bool false))))])
 (.cond (ux 44)
 .skip
 (.exit 0)))
 (.block 1
 (.seq (.regN [0, 2, 3, 4] [
 kx 45 (.mv (ux 0)),kx 46 (.call 72 [(ux 45)]),kx 5 (.mv (ux 46))])
 (.seq (.regN [0, 2, 3, 4, 5] [
 kx 47 (.mv (ux 5)),kx 6 (.mv (ux 47))])
 (.seq (.seq (.regD [0, 2, 3, 4, 5, 6] 0 [
 kx 48 (.mv (ux 0)),kx 49 (.nilc (ux 48)),kx 50 (.fldA 3 (ux 49)),kx 51 (.ld1 none (ux 50)),kx 52 (.bini .eql (ux 51) (.con (.val (.int .i64 0)))),kx 53 (.mv (ux 52)),⟨some 54, some (53, true), .mv (ux 0), 0, false⟩,⟨some 55, some (53, true), .nilc (ux 54), 0, false⟩,⟨some 56, some (53, true), .fldA 1 (ux 55), 0, false⟩,⟨some 57, some (53, true), .ld1 none (ux 56), 0, false⟩,⟨some 58, some (53, true), .bini .add (ux 57) (.con (.val (.int .i64 1))), 0, false⟩,⟨some 59, some (53, true), .mv (ux 0), 0, false⟩,⟨some 60, some (53, true), .nilc (ux 59), 0, false⟩,⟨some 61, some (53, true), .fldA 0 (ux 60), 0, false⟩,⟨some 62, some (53, true), .ld1 none (ux 61), 0, false⟩,⟨some 63, some (53, true), .len true (ux 62), 0, false⟩,⟨some 64, some (53, true), .bini .lss (ux 58) (ux 63), 0, false⟩,kx 65 (.pick (ux 53) (ux 64) (.con (.val (.bool false)))),kx 66 (.mv (ux 65)),⟨some 67, some (66, true), .mv (ux 0), 0, false⟩,⟨some 68, some (66, true), .nilc (ux 67), 0, false⟩,⟨some 69, some (66, true), .fldA 0 (ux 68), 0, false⟩,⟨some 70, some (66, true), .ld1 none (ux 69), 0, false⟩,⟨some 71, some (66, true), .mv (ux 0), 0, false⟩,⟨some 72, some (66, true), .nilc (ux 71), 0, false⟩,⟨some 73, some (66, true), .fldA 1 (ux 72), 0, false⟩,⟨some 74, some (66, true), .ld1 none (ux 73), 0, false⟩,⟨some 75, some (66, true), .ixS (ux 70) (ux 74), 0, false⟩,⟨some 76, some (66, true), .bini .eql (ux 75) (.con (.val (.int .u8 45))), 0, false⟩,kx 77 (.pick (ux 66) (ux 76) (.con (.val (.bool false)))),kx 78 (.mv (ux 77)),⟨some 79, some (78, true), .mv (ux 0), 0, false⟩,⟨some 80, some (78, true), .nilc (ux 79), 0, false⟩,⟨some 81, some (78, true), .fldA 0 (ux 80), 0, false⟩,⟨some 82, some (78, true), .ld1 none (ux 81), 0, false⟩,⟨some 83, some (78, true), .mv (ux 0), 0, false⟩,⟨some 84, some (78, true), .nilc (ux 83), 0, false⟩,⟨some 85, some (78, true), .fldA 1 (ux 84), 0, false⟩,⟨some 86, some (78, true), .ld1 none (ux 85), 0, false⟩,⟨some 87, some (78, true), .bini .add (ux 86) (.con (.val (.int .i64 1))), 0, false⟩,⟨some 88, some (78, true), .ixS (ux 82) (ux 87), 0, false⟩,⟨some 89, some (78, true), .bini .neq (ux 88) (.con (.val (.int .u8 93))), 0, false⟩,kx 90 (.pick (ux 78) (ux 89) (.con (.val (.bool false))))])
 (.cond (ux 90)
 (.seq (.regN [0, 2, 3, 4, 5] [
 kx 91 (.mv (ux 0)),kx 92 (.nilc (ux 91)),kx 93 (.fldA 1 (ux 92)),kx 94 (.ld1 none (ux 93)),kx 95 (.bini .add (ux 94) (.con (.val (.int .i64 1)))),kx 96 (.nilc (ux 91)),kx 97 (.fldA 1 (ux 96)),⟨none, none, .st none 1 (ux 97) (ux 95), 0, false⟩])
 (.seq (.regN [0, 2, 3, 4, 5] [
 kx 98 (.mv (ux 0)),kx 99 (.nilc (ux 98)),kx 100 (.fldA 1 (ux 99)),kx 101 (.ld1 none (ux 100)),kx 7 (.mv (ux 101))])
 (.seq (.regN [0, 2, 3, 4, 5, 7] [
 kx 102 (.mv (ux 0)),kx 103 (.call 72 [(ux 102)]),kx 6 (.mv (ux 103))])
 (.seq (.regN [0, 2, 3, 4, 5, 6, 7] [
 kx 104 (.mv (ux 0)),kx 105 (.nilc (ux 104)),kx 106 (.fldA 3 (ux 105)),kx 107 (.ld1 none (ux 106)),kx 108 (.bini .eql (ux 107) (.con (.val (.int .i64 0)))),kx 109 (.mv (ux 108)),⟨some 110, some (109, true), .mv (ux 6), 0, false⟩,⟨some 111, some (109, true), .mv (ux 5), 0, false⟩,⟨some 112, some (109, true), .bini .lss (ux 110) (ux 111), 0, false⟩,kx 113 (.pick (ux 109) (ux 112) (.con (.val (.bool false))))])
 (.cond (ux 113)
 (.regN [0, 2, 3, 4, 5, 6, 7] [
 kx 114 (.mv (ux 0)),kx 115 (.mv (ux 7)),kx 116 (.call 50 [(ux 114), (ux 115), (.con (.val (.int .i64 7)))])])
 .skip)))))
 .skip))
 (.regD [0, 2, 3, 4, 5, 6] 0 [
 kx 117 (.ldA (some 3) 4 (ux 3)),kx 118 (.mv (ux 5)),kx 119 (.mv (ux 6)),⟨some 120, none, .call 74 [(ux 118), (ux 119)], 0, true⟩,⟨some 121, none, .call 73 [(ux 117), (ux 120)], 0, true⟩,⟨none, none, .st (some 3) 4 (ux 3) (ux 121), 0, false⟩]))))))
def t68B : AC := (.seq (.regN [0] [
 kx 2 (.allocR [(.val (.int .u64 0)), (.val (.int .u64 0)), (.val (.int .u64 0)), (.val (.int .u64 0))])])
 (.seq (.regN [0, 2] [
 kx 8 (.build [(.val (.int .u64 0)), (.val (.int .u64 0)), (.val (.int .u64 0)), (.val (.int .u64 0))] []),kx 3 (.allocR [(.val (.int .u64 0)), (.val (.int .u64 0)), (.val (.int .u64 0)), (.val (.int .u64 0))]),⟨none, none, .st (some 3) 4 (ux 3) (ux 8), 0, false⟩])
 (.seq (.regD [0, 2, 3] 0 [
 kx 9 (.mv (ux 0)),⟨some 10, none, .call 49 [(ux 9)], 0, true⟩,kx 11 (.mv (ux 10)),⟨some 12, some (11, true), .mv (ux 0), 0, false⟩,⟨some 13, some (11, true), .nilc (ux 12), 0, false⟩,⟨some 14, some (11, true), .fldA 0 (ux 13), 0, false⟩,⟨some 15, some (11, true), .ld1 none (ux 14), 0, false⟩,⟨some 16, some (11, true), .mv (ux 0), 0, false⟩,⟨some 17, some (11, true), .nilc (ux 16), 0, false⟩,⟨some 18, some (11, true), .fldA 1 (ux 17), 0, false⟩,⟨some 19, some (11, true), .ld1 none (ux 18), 0, false⟩,⟨some 20, some (11, true), .ixS (ux 15) (ux 19), 0, false⟩,⟨some 21, some (11, true), .bini .eql (ux 20) (.con (.val (.int .u8 94))), 0, false⟩,kx 22 (.pick (ux 11) (ux 21) (.con (.val (.bool false)))),kx 4 (.mv (ux 22))])
 (.seq (.seq (.regN [0, 2, 3, 4] [
 kx 23 (.mv (ux 4))])
 (.cond (ux 23)
 (.regN [0, 2, 3, 4] [
 kx 24 (.mv (ux 0)),kx 25 (.nilc (ux 24)),kx 26 (.fldA 1 (ux 25)),kx 27 (.ld1 none (ux 26)),kx 28 (.bini .add (ux 27) (.con (.val (.int .i64 1)))),kx 29 (.nilc (ux 24)),kx 30 (.fldA 1 (ux 29)),⟨none, none, .st none 1 (ux 30) (ux 28), 0, false⟩])
 .skip))
 (.seq (.block 0
 (.loop [0, 2, 3, 4] t68L1))
 (.seq (.seq (.regN [0, 2, 3, 4] [
 kx 122 (.mv (ux 0)),kx 123 (.call 49 [(ux 122)]),kx 124 (.not (ux 123))])
 (.cond (ux 124)
 (.seq (.regN [0, 2, 3] [
 kx 125 (.mv (ux 0)),kx 126 (.mv (ux 0)),kx 127 (.nilc (ux 126)),kx 128 (.fldA 0 (ux 127)),kx 129 (.ld1 none (ux 128)),kx 130 (.len true (ux 129)),kx 131 (.call 50 [(ux 125), (ux 130), (.con (.val (.int .i64 8)))])])
 (.seq (.regN [2, 3] [
 kx 132 (.ldA (some 3) 4 (ux 3)),⟨none, none, .st (some 2) 4 (ux 2) (ux 132), 0, false⟩])
 .ret))
 .skip))
 (.seq (.regN [0, 2, 3, 4] [
 kx 133 (.mv (ux 0)),kx 134 (.nilc (ux 133)),kx 135 (.fldA 1 (ux 134)),kx 136 (.ld1 none (ux 135)),kx 137 (.bini .add (ux 136) (.con (.val (.int .i64 1)))),kx 138 (.nilc (ux 133)),kx 139 (.fldA 1 (ux 138)),⟨none, none, .st none 1 (ux 139) (ux 137), 0, false⟩])
 (.seq (.seq (.regN [2, 3, 4] [
 kx 140 (.mv (ux 4))])
 (.cond (ux 140)
 (.seq (.regN [2, 3] [
 kx 141 (.ldA (some 3) 4 (ux 3)),kx 142 (.call 69 [(ux 141)]),⟨none, none, .st (some 2) 4 (ux 2) (ux 142), 0, false⟩])
 .ret)
 .skip))
 (.seq (.regN [2, 3] [
 kx 143 (.ldA (some 3) 4 (ux 3)),⟨none, none, .st (some 2) 4 (ux 2) (ux 143), 0, false⟩])
 .ret)))))))))
def t68 : AFn := ⟨1, t68B,
 [.cell 2 4 true], false⟩
/-- (*viewport/viewportref02.reader).one  -/
def t72B : AC := (.seq (.regN [0] [
 kx 2 (.mv (.con (.val (.int .u8 0))))])
 (.seq (.regD [0] 0 [
 kx 4 (.mv (ux 0)),kx 5 (.nilc (ux 4)),kx 6 (.fldA 0 (ux 5)),kx 7 (.ld1 none (ux 6)),kx 8 (.mv (ux 0)),kx 9 (.nilc (ux 8)),kx 10 (.fldA 1 (ux 9)),kx 11 (.ld1 none (ux 10)),kx 12 (.ixS (ux 7) (ux 11)),kx 3 (.mv (ux 12))])
 (.seq (.regN [0, 3] [
 kx 13 (.mv (ux 0)),kx 14 (.nilc (ux 13)),kx 15 (.fldA 1 (ux 14)),kx 16 (.ld1 none (ux 15)),kx 17 (.bini .add (ux 16) (.con (.val (.int .i64 1)))),kx 18 (.nilc (ux 13)),kx 19 (.fldA 1 (ux 18)),⟨none, none, .st none 1 (ux 19) (ux 17), 0, false⟩])
 (.seq (.seq (.regN [0, 3] [
 kx 20 (.mv (ux 3)),kx 21 (.bini .eql (ux 20) (.con (.val (.int .u8 92))))])
 (.cond (ux 21)
 (.seq (.regN [0] [
 kx 22 (.mv (ux 0)),kx 23 (.call 71 [(ux 22)]),kx 2 (.mv (ux 23))])
 .ret)
 .skip))
 (.seq (.regN [3] [
 kx 24 (.mv (ux 3)),kx 2 (.mv (ux 24))])
 .ret)))))
def t72 : AFn := ⟨1, t72B,
 [.tmp 2], false⟩
/-- (*viewport/viewportref02.reader).escape  -/
def t71L1 : AC := (.seq (.seq (.regN [0, 4, 5] [
 kx 38 (.mv (ux 5)),kx 39 (.bini .leq (ux 38) (.con (.val (.int .i64 2))))])
 (.cond (ux 39)
 .skip
 (.exit 1)))
 (.seq (.block 2
 (.seq (.seq (.regD [0, 4, 5] 0 [
 kx 42 (.mv (ux 0)),kx 43 (.nilc (ux 42)),kx 44 (.fldA 1 (ux 43)),kx 45 (.ld1 none (ux 44)),kx 46 (.mv (ux 5)),kx 47 (.bini .add (ux 45) (ux 46)),kx 48 (.mv (ux 0)),kx 49 (.nilc (ux 48)),kx 50 (.fldA 0 (ux 49)),kx 51 (.ld1 none (ux 50)),kx 52 (.len true (ux 51)),kx 53 (.bini .geq (ux 47) (ux 52))])
 (.cond (ux 53)
 (.seq (.regN [0] [
 kx 54 (.mv (ux 0)),kx 55 (.mv (ux 0)),kx 56 (.nilc (ux 55)),kx 57 (.fldA 0 (ux 56)),kx 58 (.ld1 none (ux 57)),kx 59 (.len true (ux 58)),kx 60 (.call 50 [(ux 54), (ux 59), (.con (.val (.int .i64 8)))])])
 (.seq (.regN [] [
 kx 2 (.mv (.con (.val (.int .u8 0))))])
 .ret))
 .skip))
 (.seq (.regD [0, 4, 5] 0 [
 kx 61 (.mv (ux 0)),kx 62 (.nilc (ux 61)),kx 63 (.fldA 0 (ux 62)),kx 64 (.ld1 none (ux 63)),kx 65 (.mv (ux 0)),kx 66 (.nilc (ux 65)),kx 67 (.fldA 1 (ux 66)),kx 68 (.ld1 none (ux 67)),kx 69 (.mv (ux 5)),kx 70 (.bini .add (ux 68) (ux 69)),kx 71 (.ixS (ux 64) (ux 70)),⟨some 72, none, .call 76 [(ux 71)], 0, true⟩,kx 6 (.mv (ux 72))])
 (.seq (.seq (.regN [0, 4, 5, 6] [
 kx 73 (.mv (ux 6)),kx 74 (.bini .lss (ux 73) (.con (.val (.int .i64 0))))])
 (.cond (ux 74)
 (.seq (.regN [0, 5] [
 kx 75 (.mv (ux 0)),kx 76 (.mv (ux 0)),kx 77 (.nilc (ux 76)),kx 78 (.fldA 1 (ux 77)),kx 79 (.ld1 none (ux 78)),kx 80 (.mv (ux 5)),kx 81 (.bini .add (ux 79) (ux 80)),kx 82 (.call 50 [(ux 75), (ux 81), (.con (.val (.int .i64 7)))])])
 (.seq (.regN [] [
 kx 2 (.mv (.con (.val (.int .u8 0))))])
 .ret))
 .skip))
 (.regN [0, 4, 5, 6] [
 kx 83 (.mv (ux 4)),kx 84 (.bini .mul (.con (.val (.int .i64 16))) (ux 83)),kx 85 (.mv (ux 6)),kx 86 (.bini .add (ux 84) (ux 85)),kx 4 (.mv (ux 86))])))))
 (.regN [0, 4, 5] [
 kx 40 (.mv (ux 5)),kx 41 (.bini .add (ux 40) (.con (.val (.int .i64 1)))),kx 5 (.mv (ux 41))])))
def t71B : AC := (.seq (.regN [0] [
 kx 2 (.mv (.con (.val (.int .u8 0))))])
 (.seq (.seq (.regN [0] [
 kx 7 (.mv (ux 0)),kx 8 (.call 49 [(ux 7)]),kx 9 (.not (ux 8))])
 (.cond (ux 9)
 (.seq (.regN [0] [
 kx 10 (.mv (ux 0)),kx 11 (.mv (ux 0)),kx 12 (.nilc (ux 11)),kx 13 (.fldA 0 (ux 12)),kx 14 (.ld1 none (ux 13)),kx 15 (.len true (ux 14)),kx 16 (.call 50 [(ux 10), (ux 15), (.con (.val (.int .i64 8)))])])
 (.seq (.regN [] [
 kx 2 (.mv (.con (.val (.int .u8 0))))])
 .ret))
 .skip))
 (.seq (.regD [0] 0 [
 kx 17 (.mv (ux 0)),kx 18 (.nilc (ux 17)),kx 19 (.fldA 0 (ux 18)),kx 20 (.ld1 none (ux 19)),kx 21 (.mv (ux 0)),kx 22 (.nilc (ux 21)),kx 23 (.fldA 1 (ux 22)),kx 24 (.ld1 none (ux 23)),kx 25 (.ixS (ux 20) (ux 24)),kx 3 (.mv (ux 25))])
 (.seq (.block 0
 (.seq (.regN [0, 3] [
 kx 27 (.mv (ux 3)),kx 28 (.bini .eql (ux 27) (.con (.val (.int .u8 110)))),kx 26 (.mv (ux 28))])
 (.cond (ux 26)
 (.regN [0] [
 kx 3 (.mv (.con (.val (.int .u8 10))))])
 (.seq (.regN [0, 3] [
 kx 30 (.mv (ux 3)),kx 31 (.bini .eql (ux 30) (.con (.val (.int .u8 116)))),kx 29 (.mv (ux 31))])
 (.cond (ux 29)
 (.regN [0] [
 kx 3 (.mv (.con (.val (.int .u8 9))))])
 (.seq (.regN [0, 3] [
 kx 33 (.mv (ux 3)),kx 34 (.bini .eql (ux 33) (.con (.val (.int .u8 114)))),kx 32 (.mv (ux 34))])
 (.cond (ux 32)
 (.regN [0] [
 kx 3 (.mv (.con (.val (.int .u8 13))))])
 (.seq (.regN [0, 3] [
 kx 36 (.mv (ux 3)),kx 37 (.bini .eql (ux 36) (.con (.val (.int .u8 120)))),kx 35 (.mv (ux 37))])
 (.cond (ux 35)
 (.seq (.regN [0] [
 kx 4 (.mv (.con (.val (.int .i64 0))))])
 (.seq (.seq (.regN [0, 4] [
 kx 5 (.mv (.con (.val (.int .i64 1))))])
 (.block 1
 (.loop [0, 4, 5] t71L1)))
 (.seq (.regN [0, 4] [
 kx 87 (.mv (ux 0)),kx 88 (.mv (ux 0)),kx 89 (.nilc (ux 88)),kx 90 (.fldA 1 (ux 89)),kx 91 (.ld1 none (ux 90)),kx 92 (.bini .add (ux 91) (.con (.val (.int .i64 2)))),kx 93 (.nilc (ux 87)),kx 94 (.fldA 1 (ux 93)),⟨none, none, .st none 1 (ux 94) (ux 92), 0, false⟩])
 (.regN [0, 4] [
 kx 95 (.mv (ux 4)),kx 96 (.cvi .u8 (ux 95)),kx 3 (.mv (ux 96))]))))
 (.seq (.regN [0, 3] [
 kx 98 (.mv (ux 3)),kx 99 (.call 77 [(ux 98)]),kx 97 (.mv (ux 99))])
 (.cond (ux 97)
 (.seq (.regN [0] [
 kx 100 (.mv (ux 0)),kx 101 (.mv (ux 0)),kx 102 (.nilc (ux 101)),kx 103 (.fldA 1 (ux 102)),kx 104 (.ld1 none (ux 103)),kx 105 (.call 50 [(ux 100), (ux 104), (.con (.val (.int .i64 7)))])])
 (.seq (.regN [] [
 kx 2 (.mv (.con (.val (.int .u8 0))))])
 .ret))
 .skip)))))))))))
 (.seq (.regN [0, 3] [
 kx 106 (.mv (ux 0)),kx 107 (.nilc (ux 106)),kx 108 (.fldA 1 (ux 107)),kx 109 (.ld1 none (ux 108)),kx 110 (.bini .add (ux 109) (.con (.val (.int .i64 1)))),kx 111 (.nilc (ux 106)),kx 112 (.fldA 1 (ux 111)),⟨none, none, .st none 1 (ux 112) (ux 110), 0, false⟩])
 (.seq (.regN [3] [
 kx 113 (.mv (ux 3)),kx 2 (.mv (ux 113))])
 .ret))))))
def t71 : AFn := ⟨1, t71B,
 [.tmp 2], false⟩
/-- viewport/viewportref02.hex  -/
def t76B : AC := (.seq (.regN [0] [
 kx 2 (.mv (.con (.val (.int .i64 0))))])
 (.seq (.block 0
 (.seq (.regN [0] [
 kx 4 (.mv (ux 0)),kx 5 (.bini .geq (ux 4) (.con (.val (.int .u8 48)))),kx 6 (.mv (ux 5)),⟨some 7, some (6, true), .mv (ux 0), 0, false⟩,⟨some 8, some (6, true), .bini .leq (ux 7) (.con (.val (.int .u8 57))), 0, false⟩,kx 9 (.pick (ux 6) (ux 8) (.con (.val (.bool false)))),kx 3 (.mv (ux 9))])
 (.cond (ux 3)
 (.seq (.regN [0] [
 kx 10 (.mv (ux 0)),kx 11 (.bini .sub (ux 10) (.con (.val (.int .u8 48)))),kx 12 (.cvi .i64 (ux 11)),kx 2 (.mv (ux 12))])
 .ret)
 (.seq (.regN [0] [
 kx 14 (.mv (ux 0)),kx 15 (.bini .geq (ux 14) (.con (.val (.int .u8 97)))),kx 16 (.mv (ux 15)),⟨some 17, some (16, true), .mv (ux 0), 0, false⟩,⟨some 18, some (16, true), .bini .leq (ux 17) (.con (.val (.int .u8 102))), 0, false⟩,kx 19 (.pick (ux 16) (ux 18) (.con (.val (.bool false)))),kx 13 (.mv (ux 19))])
 (.cond (ux 13)
 (.seq (.regN [0] [
 kx 20 (.mv (ux 0)),kx 21 (.bini .sub (ux 20) (.con (.val (.int .u8 97)))),kx 22 (.cvi .i64 (ux 21)),kx 23 (.bini .add (ux 22) (.con (.val (.int .i64 10)))),kx 2 (.mv (ux 23))])
 .ret)
 (.seq (.regN [0] [
 kx 25 (.mv (ux 0)),kx 26 (.bini .geq (ux 25) (.con (.val (.int .u8 65)))),kx 27 (.mv (ux 26)),⟨some 28, some (27, true), .mv (ux 0), 0, false⟩,⟨some 29, some (27, true), .bini .leq (ux 28) (.con (.val (.int .u8 70))), 0, false⟩,kx 30 (.pick (ux 27) (ux 29) (.con (.val (.bool false)))),kx 24 (.mv (ux 30))])
 (.cond (ux 24)
 (.seq (.regN [0] [
 kx 31 (.mv (ux 0)),kx 32 (.bini .sub (ux 31) (.con (.val (.int .u8 65)))),kx 33 (.cvi .i64 (ux 32)),kx 34 (.bini .add (ux 33) (.con (.val (.int .i64 10)))),kx 2 (.mv (ux 34))])
 .ret)
 .skip)))))))
 (.seq (.regN [] [
 kx 2 (.mv (.con (.val (.int .i64 (-1)))))])
 .ret)))
def t76 : AFn := ⟨1, t76B,
 [.tmp 2], true⟩
/-- viewport/viewportref02.letter  -/
def t77B : AC := (.seq (.regN [0] [
 kx 2 (.mv (.con (.val (.bool false))))])
 (.seq (.regN [0] [
 kx 3 (.mv (ux 0)),kx 4 (.bini .geq (ux 3) (.con (.val (.int .u8 48)))),kx 5 (.mv (ux 4)),⟨some 6, some (5, true), .mv (ux 0), 0, false⟩,⟨some 7, some (5, true), .bini .leq (ux 6) (.con (.val (.int .u8 57))), 0, false⟩,kx 8 (.pick (ux 5) (ux 7) (.con (.val (.bool false)))),kx 9 (.mv (ux 8)),⟨some 10, some (9, false), .mv (ux 0), 0, false⟩,⟨some 11, some (9, false), .bini .geq (ux 10) (.con (.val (.int .u8 97))), 0, false⟩,⟨some 12, some (9, false), .mv (ux 11), 0, false⟩,⟨some 13, some (12, true), .mv (ux 0), 0, false⟩,⟨some 14, some (12, true), .bini .leq (ux 13) (.con (.val (.int .u8 122))), 0, false⟩,⟨some 15, some (9, false), .pick (ux 12) (ux 14) (.con (.val (.bool false))), 0, false⟩,kx 16 (.pick (ux 9) (.con (.val (.bool true))) (ux 15)),kx 17 (.mv (ux 16)),⟨some 18, some (17, false), .mv (ux 0), 0, false⟩,⟨some 19, some (17, false), .bini .geq (ux 18) (.con (.val (.int .u8 65))), 0, false⟩,⟨some 20, some (17, false), .mv (ux 19), 0, false⟩,⟨some 21, some (20, true), .mv (ux 0), 0, false⟩,⟨some 22, some (20, true), .bini .leq (ux 21) (.con (.val (.int .u8 90))), 0, false⟩,⟨some 23, some (17, false), .pick (ux 20) (ux 22) (.con (.val (.bool false))), 0, false⟩,kx 24 (.pick (ux 17) (.con (.val (.bool true))) (ux 23)),kx 2 (.mv (ux 24))])
 .ret))
def t77 : AFn := ⟨1, t77B,
 [.tmp 2], true⟩
/-- viewport/viewportref01.Range  -/
def t74L1 : AC := (.seq (.seq (.regN [1, 4, 5, 6] [
 kx 10 (.mv (ux 6)),kx 11 (.mv (ux 1)),kx 12 (.cvi .i64 (ux 11)),kx 13 (.bini .leq (ux 10) (ux 12))])
 (.cond (ux 13)
 .skip
 (.exit 0)))
 (.seq (.block 1
 (.regN [1, 4, 5, 6] [
 kx 16 (.ldA (some 5) 4 (ux 5)),kx 17 (.mv (ux 6)),kx 18 (.cvi .u8 (ux 17)),kx 19 (.call 75 [(ux 16), (ux 18)]),⟨none, none, .st (some 5) 4 (ux 5) (ux 19), 0, false⟩]))
 (.regN [1, 4, 5, 6] [
 kx 14 (.mv (ux 6)),kx 15 (.bini .add (ux 14) (.con (.val (.int .i64 1)))),kx 6 (.mv (ux 15))])))
def t74B : AC := (.seq (.regN [0, 1] [
 kx 4 (.allocR [(.val (.int .u64 0)), (.val (.int .u64 0)), (.val (.int .u64 0)), (.val (.int .u64 0))])])
 (.seq (.regN [0, 1, 4] [
 kx 7 (.build [(.val (.int .u64 0)), (.val (.int .u64 0)), (.val (.int .u64 0)), (.val (.int .u64 0))] []),kx 5 (.allocR [(.val (.int .u64 0)), (.val (.int .u64 0)), (.val (.int .u64 0)), (.val (.int .u64 0))]),⟨none, none, .st (some 5) 4 (ux 5) (ux 7), 0, false⟩])
 (.seq (.seq (.regN [0, 1, 4, 5] [
 kx 8 (.mv (ux 0)),kx 9 (.cvi .i64 (ux 8)),kx 6 (.mv (ux 9))])
 (.block 0
 (.loop [1, 4, 5, 6] t74L1)))
 (.seq (.regN [4, 5] [
 kx 20 (.ldA (some 5) 4 (ux 5)),⟨none, none, .st (some 4) 4 (ux 4) (ux 20), 0, false⟩])
 .ret))))
def t74 : AFn := ⟨2, t74B,
 [.cell 4 4 true], true⟩
/-- viewport/viewportref01.with  -/
def t75B : AC := (.seq (.regN [0, 1] [
 kx 2 (.boxR 4 (ux 0)),kx 4 (.allocR [(.val (.int .u64 0)), (.val (.int .u64 0)), (.val (.int .u64 0)), (.val (.int .u64 0))])])
 (.seq (.regN [1, 2, 4] [
 kx 5 (.mv (ux 1)),kx 6 (.bini .quo (ux 5) (.con (.val (.int .u8 64)))),kx 7 (.mv (ux 1)),kx 8 (.bini .quo (ux 7) (.con (.val (.int .u8 64)))),kx 9 (.ixR 4 1 (ux 2) (ux 8)),kx 10 (.ld1 (some 2) (ux 9)),kx 11 (.mv (ux 1)),kx 12 (.bini .rem (ux 11) (.con (.val (.int .u8 64)))),kx 13 (.cvi .u64 (ux 12)),kx 14 (.bini .shl (.con (.val (.int .u64 1))) (ux 13)),kx 15 (.bini .or (ux 10) (ux 14)),kx 16 (.ixR 4 1 (ux 2) (ux 6)),⟨none, none, .st (some 2) 1 (ux 16) (ux 15), 0, false⟩])
 (.seq (.regN [2, 4] [
 kx 17 (.ldA (some 2) 4 (ux 2)),⟨none, none, .st (some 4) 4 (ux 4) (ux 17), 0, false⟩])
 .ret)))
def t75 : AFn := ⟨2, t75B,
 [.cell 4 4 true], true⟩
/-- viewport/viewportref01.Union  -/
def t73B : AC := (.seq (.regN [0, 1] [
 kx 2 (.boxR 4 (ux 0)),kx 3 (.boxR 4 (ux 1)),kx 4 (.allocR [(.val (.int .u64 0)), (.val (.int .u64 0)), (.val (.int .u64 0)), (.val (.int .u64 0))])])
 (.seq (.regN [2, 3, 4] [
 kx 5 (.ixR 4 1 (ux 2) (.con (.val (.int .i64 0)))),kx 6 (.ld1 (some 2) (ux 5)),kx 7 (.ixR 4 1 (ux 3) (.con (.val (.int .i64 0)))),kx 8 (.ld1 (some 3) (ux 7)),kx 9 (.bini .or (ux 6) (ux 8)),kx 10 (.ixR 4 1 (ux 2) (.con (.val (.int .i64 1)))),kx 11 (.ld1 (some 2) (ux 10)),kx 12 (.ixR 4 1 (ux 3) (.con (.val (.int .i64 1)))),kx 13 (.ld1 (some 3) (ux 12)),kx 14 (.bini .or (ux 11) (ux 13)),kx 15 (.ixR 4 1 (ux 2) (.con (.val (.int .i64 2)))),kx 16 (.ld1 (some 2) (ux 15)),kx 17 (.ixR 4 1 (ux 3) (.con (.val (.int .i64 2)))),kx 18 (.ld1 (some 3) (ux 17)),kx 19 (.bini .or (ux 16) (ux 18)),kx 20 (.ixR 4 1 (ux 2) (.con (.val (.int .i64 3)))),kx 21 (.ld1 (some 2) (ux 20)),kx 22 (.ixR 4 1 (ux 3) (.con (.val (.int .i64 3)))),kx 23 (.ld1 (some 3) (ux 22)),kx 24 (.bini .or (ux 21) (ux 23)),kx 25 (.build [(.val (.int .u64 0)), (.val (.int .u64 0)), (.val (.int .u64 0)), (.val (.int .u64 0))] [(0, 1, (ux 9)), (1, 1, (ux 14)), (2, 1, (ux 19)), (3, 1, (ux 24))]),⟨none, none, .st (some 4) 4 (ux 4) (ux 25), 0, false⟩])
 .ret))
def t73 : AFn := ⟨2, t73B,
 [.cell 4 4 true], true⟩
/-- viewport/viewportref01.Not  -/
def t69B : AC := (.seq (.regN [0] [
 kx 1 (.boxR 4 (ux 0)),kx 2 (.allocR [(.val (.int .u64 0)), (.val (.int .u64 0)), (.val (.int .u64 0)), (.val (.int .u64 0))])])
 (.seq (.regN [1, 2] [
 kx 3 (.ixR 4 1 (ux 1) (.con (.val (.int .i64 0)))),kx 4 (.ld1 (some 1) (ux 3)),kx 5 (.xori (ux 4)),kx 6 (.ixR 4 1 (ux 1) (.con (.val (.int .i64 1)))),kx 7 (.ld1 (some 1) (ux 6)),kx 8 (.xori (ux 7)),kx 9 (.ixR 4 1 (ux 1) (.con (.val (.int .i64 2)))),kx 10 (.ld1 (some 1) (ux 9)),kx 11 (.xori (ux 10)),kx 12 (.ixR 4 1 (ux 1) (.con (.val (.int .i64 3)))),kx 13 (.ld1 (some 1) (ux 12)),kx 14 (.xori (ux 13)),kx 15 (.build [(.val (.int .u64 0)), (.val (.int .u64 0)), (.val (.int .u64 0)), (.val (.int .u64 0))] [(0, 1, (ux 5)), (1, 1, (ux 8)), (2, 1, (ux 11)), (3, 1, (ux 14))]),⟨none, none, .st (some 2) 4 (ux 2) (ux 15), 0, false⟩])
 .ret))
def t69 : AFn := ⟨1, t69B,
 [.cell 2 4 true], true⟩
/-- (*viewport/viewportref02.reader).put  -/
def t61B : AC := (.seq (.regN [0, 1, 2, 3] [
 kx 6 (.boxR 4 (ux 2)),kx 8 (.mv (.con (.val (.int .i64 0))))])
 (.seq (.regD [0, 1, 3, 6] 1 [
 kx 9 (.mv (ux 0)),kx 10 (.mv (ux 0)),kx 11 (.nilc (ux 10)),kx 12 (.fldA 2 (ux 11)),kx 13 (.ld1 none (ux 12)),kx 14 (.mv (ux 1)),kx 15 (.ldA (some 6) 4 (ux 6)),kx 16 (.mv (ux 3)),kx 17 (.build [(.val (.int .i64 0)), (.val (.int .u64 0)), (.val (.int .u64 0)), (.val (.int .u64 0)), (.val (.int .u64 0)), .e0] [(0, 1, (ux 14)), (1, 4, (ux 15)), (5, 1, (ux 16))]),kx 18 (.buildH 1 6 [(.val (.int .i64 0)), (.val (.int .u64 0)), (.val (.int .u64 0)), (.val (.int .u64 0)), (.val (.int .u64 0)), .e0] [(0, 6, (ux 17))]),kx 19 (.app 6 64 (ux 13) (ux 18)),kx 20 (.nilc (ux 9)),kx 21 (.fldA 2 (ux 20)),⟨none, none, .st none 1 (ux 21) (ux 19), 0, false⟩])
 (.seq (.regN [0] [
 kx 22 (.mv (ux 0)),kx 23 (.nilc (ux 22)),kx 24 (.fldA 2 (ux 23)),kx 25 (.ld1 none (ux 24)),kx 26 (.len false (ux 25)),kx 27 (.bini .sub (ux 26) (.con (.val (.int .i64 1)))),kx 8 (.mv (ux 27))])
 .ret)))
def t61 : AFn := ⟨4, t61B,
 [.tmp 8], false⟩
/-- viewport/viewportref01.Of  -/
def t70L1 : AC := (.seq (.seq (.regN [0, 2, 3, 4] [
 kx 6 (.mv (ux 4)),kx 7 (.mv (ux 0)),kx 8 (.len true (ux 7)),kx 9 (.bini .lss (ux 6) (ux 8))])
 (.cond (ux 9)
 .skip
 (.exit 0)))
 (.seq (.block 1
 (.regD [0, 2, 3, 4] 0 [
 kx 12 (.ldA (some 3) 4 (ux 3)),kx 13 (.mv (ux 0)),kx 14 (.mv (ux 4)),kx 15 (.ixS (ux 13) (ux 14)),⟨some 16, none, .call 75 [(ux 12), (ux 15)], 0, true⟩,⟨none, none, .st (some 3) 4 (ux 3) (ux 16), 0, false⟩]))
 (.regN [0, 2, 3, 4] [
 kx 10 (.mv (ux 4)),kx 11 (.bini .add (ux 10) (.con (.val (.int .i64 1)))),kx 4 (.mv (ux 11))])))
def t70B : AC := (.seq (.regN [0] [
 kx 2 (.allocR [(.val (.int .u64 0)), (.val (.int .u64 0)), (.val (.int .u64 0)), (.val (.int .u64 0))])])
 (.seq (.regN [0, 2] [
 kx 5 (.build [(.val (.int .u64 0)), (.val (.int .u64 0)), (.val (.int .u64 0)), (.val (.int .u64 0))] []),kx 3 (.allocR [(.val (.int .u64 0)), (.val (.int .u64 0)), (.val (.int .u64 0)), (.val (.int .u64 0))]),⟨none, none, .st (some 3) 4 (ux 3) (ux 5), 0, false⟩])
 (.seq (.seq (.regN [0, 2, 3] [
 kx 4 (.mv (.con (.val (.int .i64 0))))])
 (.block 0
 (.loop [0, 2, 3, 4] t70L1)))
 (.seq (.regN [2, 3] [
 kx 17 (.ldA (some 3) 4 (ux 3)),⟨none, none, .st (some 2) 4 (ux 2) (ux 17), 0, false⟩])
 .ret))))
def t70 : AFn := ⟨1, t70B,
 [.cell 2 4 true], true⟩
/-- viewport/viewportref03.Build  -/
def t37L1 : AC := (.seq (.seq (.regN [0, 2, 4, 5] [
 kx 19 (.mv (ux 5)),kx 20 (.mv (ux 0)),kx 21 (.len false (ux 20)),kx 22 (.bini .lss (ux 19) (ux 21))])
 (.cond (ux 22)
 .skip
 (.exit 0)))
 (.seq (.block 1
 (.seq (.regN [0, 2, 4, 5] [
 kx 25 (.mv (ux 0)),kx 26 (.mv (ux 5)),kx 27 (.ixA 1 (ux 25) (ux 26)),kx 28 (.ld1 none (ux 27)),kx 29 (.call 51 [(ux 28)]),kx 6 (.mv (ux 29))])
 (.seq (.regN [0, 2, 4, 5, 6] [
 kx 30 (.mv (ux 6)),kx 31 (.bini .neq (ux 30) (.con (.val (.int .i64 0))))])
 (.cond (ux 31)
 (.seq (.regN [2, 6] [
 kx 32 (.build [.e0, .e0, .e0] []),kx 33 (.mv (ux 6)),⟨none, none, .st (some 2) 3 (ux 2) (ux 32), 0, false⟩,kx 3 (.mv (ux 33))])
 .ret)
 .skip))))
 (.regN [0, 2, 4, 5] [
 kx 23 (.mv (ux 5)),kx 24 (.bini .add (ux 23) (.con (.val (.int .i64 1)))),kx 5 (.mv (ux 24))])))
def t37L2 : AC := (.seq (.seq (.regN [0, 2, 4, 7, 8, 9] [
 kx 61 (.mv (ux 9)),kx 62 (.fldA 2 (ux 8)),kx 63 (.ld1 (some 8) (ux 62)),kx 64 (.len false (ux 63)),kx 65 (.bini .lss (ux 61) (ux 64))])
 (.cond (ux 65)
 .skip
 (.exit 4)))
 (.seq (.block 5
 (.regD [0, 2, 4, 7, 8, 9] 0 [
 kx 68 (.fldA 2 (ux 4)),kx 69 (.ld1 none (ux 68)),kx 70 (.fldA 2 (ux 8)),kx 71 (.ld1 (some 8) (ux 70)),kx 72 (.mv (ux 9)),kx 73 (.ixA 1 (ux 71) (ux 72)),kx 74 (.ld1 none (ux 73)),kx 75 (.mv (ux 7)),kx 76 (.ixA 1 (ux 69) (ux 74)),⟨none, none, .st none 1 (ux 76) (ux 75), 0, false⟩]))
 (.regN [0, 2, 4, 7, 8, 9] [
 kx 66 (.mv (ux 9)),kx 67 (.bini .add (ux 66) (.con (.val (.int .i64 1)))),kx 9 (.mv (ux 67))])))
def t37L3 : AC := (.seq (.seq (.regN [0, 2, 4, 7] [
 kx 34 (.mv (ux 7)),kx 35 (.mv (ux 0)),kx 36 (.len false (ux 35)),kx 37 (.bini .lss (ux 34) (ux 36))])
 (.cond (ux 37)
 .skip
 (.exit 2)))
 (.seq (.block 3
 (.seq (.regD [0, 2, 4, 7] 0 [
 kx 40 (.mv (ux 0)),kx 41 (.mv (ux 7)),kx 42 (.ixA 1 (ux 40) (ux 41)),kx 43 (.ld1 none (ux 42)),kx 44 (.mv (ux 0)),kx 45 (.mv (ux 7)),kx 46 (.ixA 1 (ux 44) (ux 45)),kx 47 (.ld1 none (ux 46)),kx 48 (.len false (ux 47)),kx 49 (.bini .sub (ux 48) (.con (.val (.int .i64 1)))),⟨some 50, none, .call 52 [(ux 4), (ux 43), (ux 49)], 0, true⟩,kx 8 (.allocR [(.val (.bool false)), .e0, .e0]),⟨none, none, .st (some 8) 3 (ux 8) (ux 50), 0, false⟩])
 (.seq (.regD [0, 2, 4, 7, 8] 0 [
 kx 51 (.fldA 1 (ux 4)),kx 52 (.ld1 none (ux 51)),kx 53 (.fldA 1 (ux 4)),kx 54 (.ld1 none (ux 53)),kx 55 (.ixA 1 (ux 54) (.con (.val (.int .i64 0)))),kx 56 (.ld1 none (ux 55)),kx 57 (.fldA 1 (ux 8)),kx 58 (.ld1 (some 8) (ux 57)),kx 59 (.call 53 [(ux 56), (ux 58)]),kx 60 (.ixA 1 (ux 52) (.con (.val (.int .i64 0)))),⟨none, none, .st none 1 (ux 60) (ux 59), 0, false⟩])
 (.seq (.seq (.regN [0, 2, 4, 7, 8] [
 kx 9 (.mv (.con (.val (.int .i64 0))))])
 (.block 4
 (.loop [0, 2, 4, 7, 8, 9] t37L2)))
 (.seq (.regN [0, 2, 4, 7, 8] [
 kx 77 (.fldA 0 (ux 8)),kx 78 (.ld1 (some 8) (ux 77)),kx 79 (.mv (ux 78)),⟨some 80, some (79, true), .fldA 2 (ux 4), 0, false⟩,⟨some 81, some (79, true), .ld1 none (ux 80), 0, false⟩,⟨some 82, some (79, true), .ixA 1 (ux 81) (.con (.val (.int .i64 0))), 0, false⟩,⟨some 83, some (79, true), .ld1 none (ux 82), 0, false⟩,⟨some 84, some (79, true), .bini .lss (ux 83) (.con (.val (.int .i64 0))), 0, false⟩,kx 85 (.pick (ux 79) (ux 84) (.con (.val (.bool false))))])
 (.cond (ux 85)
 (.regN [0, 2, 4, 7] [
 kx 86 (.fldA 2 (ux 4)),kx 87 (.ld1 none (ux 86)),kx 88 (.mv (ux 7)),kx 89 (.ixA 1 (ux 87) (.con (.val (.int .i64 0)))),⟨none, none, .st none 1 (ux 89) (ux 88), 0, false⟩])
 .skip))))))
 (.regN [0, 2, 4, 7] [
 kx 38 (.mv (ux 7)),kx 39 (.bini .add (ux 38) (.con (.val (.int .i64 1)))),kx 7 (.mv (ux 39))])))
def t37B : AC := (.seq (.regN [0] [
 kx 2 (.allocR [.e0, .e0, .e0]),kx 3 (.mv (.con (.val (.int .i64 0))))])
 (.seq (.seq (.regN [0, 2] [
 kx 10 (.mv (ux 0)),kx 11 (.len false (ux 10)),kx 12 (.bini .gtr (ux 11) (.con (.val (.int .i64 16))))])
 (.cond (ux 12)
 (.seq (.regN [2] [
 kx 13 (.build [.e0, .e0, .e0] []),⟨none, none, .st (some 2) 3 (ux 2) (ux 13), 0, false⟩,kx 3 (.mv (.con (.val (.int .i64 3))))])
 .ret)
 .skip))
 (.seq (.regN [0, 2] [
 kx 14 (.build [(.val (.int .u64 0)), (.val (.int .u64 0)), (.val (.int .u64 0)), (.val (.int .u64 0))] []),kx 15 (.buildH 1 4 [(.val (.int .u64 0)), (.val (.int .u64 0)), (.val (.int .u64 0)), (.val (.int .u64 0))] [(0, 4, (ux 14))]),kx 16 (.buildH 1 1 [.e0] [(0, 1, (.con .e0))]),kx 17 (.buildH 1 1 [(.val (.int .i64 0))] [(0, 1, (.con (.val (.int .i64 (-1)))))]),kx 18 (.build [.e0, .e0, .e0] [(0, 1, (ux 15)), (1, 1, (ux 16)), (2, 1, (ux 17))]),kx 4 (.allocH [.e0, .e0, .e0]),⟨none, none, .st none 3 (ux 4) (ux 18), 0, false⟩])
 (.seq (.seq (.regN [0, 2, 4] [
 kx 5 (.mv (.con (.val (.int .i64 0))))])
 (.block 0
 (.loop [0, 2, 4, 5] t37L1)))
 (.seq (.seq (.regN [0, 2, 4] [
 kx 7 (.mv (.con (.val (.int .i64 0))))])
 (.block 2
 (.loop [0, 2, 4, 7] t37L3)))
 (.seq (.seq (.regN [2, 4] [
 kx 90 (.fldA 0 (ux 4)),kx 91 (.ld1 none (ux 90)),kx 92 (.len false (ux 91)),kx 93 (.bini .gtr (ux 92) (.con (.val (.int .i64 1024))))])
 (.cond (ux 93)
 (.seq (.regN [2] [
 kx 94 (.build [.e0, .e0, .e0] []),⟨none, none, .st (some 2) 3 (ux 2) (ux 94), 0, false⟩,kx 3 (.mv (.con (.val (.int .i64 10))))])
 .ret)
 .skip))
 (.seq (.regN [2, 4] [
 kx 95 (.ldA none 3 (ux 4)),⟨none, none, .st (some 2) 3 (ux 2) (ux 95), 0, false⟩,kx 3 (.mv (.con (.val (.int .i64 0))))])
 .ret)))))))
def t37 : AFn := ⟨1, t37B,
 [.cell 2 3 true, .tmp 3], true⟩
/-- viewport/viewportref02.Check  -/
def t51L1 : AC := (.seq (.seq (.regN [0, 3, 4, 7] [
 kx 75 (.mv (ux 7)),kx 76 (.mv (ux 0)),kx 77 (.mv (ux 4)),kx 78 (.ixA 6 (ux 76) (ux 77)),kx 79 (.fldA 5 (ux 78)),kx 80 (.ld1 none (ux 79)),kx 81 (.len false (ux 80)),kx 82 (.bini .lss (ux 75) (ux 81))])
 (.cond (ux 82)
 .skip
 (.exit 2)))
 (.seq (.block 3
 (.seq (.regN [0, 3, 4, 7] [
 kx 85 (.mv (ux 0)),kx 86 (.mv (ux 4)),kx 87 (.ixA 6 (ux 85) (ux 86)),kx 88 (.fldA 5 (ux 87)),kx 89 (.ld1 none (ux 88)),kx 90 (.mv (ux 7)),kx 91 (.ixA 1 (ux 89) (ux 90)),kx 92 (.ld1 none (ux 91)),kx 8 (.mv (ux 92))])
 (.seq (.seq (.regN [0, 3, 4, 7, 8] [
 kx 93 (.mv (ux 8)),kx 94 (.bini .lss (ux 93) (.con (.val (.int .i64 0)))),kx 95 (.mv (ux 94)),⟨some 96, some (95, false), .mv (ux 8), 0, false⟩,⟨some 97, some (95, false), .mv (ux 4), 0, false⟩,⟨some 98, some (95, false), .bini .geq (ux 96) (ux 97), 0, false⟩,kx 99 (.pick (ux 95) (.con (.val (.bool true))) (ux 98))])
 (.cond (ux 99)
 (.seq (.regN [] [
 kx 2 (.mv (.con (.val (.int .i64 2))))])
 .ret)
 .skip))
 (.regN [0, 3, 4, 7, 8] [
 kx 100 (.mv (ux 3)),kx 101 (.mv (ux 8)),kx 102 (.ixA 1 (ux 100) (ux 101)),kx 103 (.ld1 none (ux 102)),kx 104 (.bini .add (ux 103) (.con (.val (.int .i64 1)))),kx 105 (.ixA 1 (ux 100) (ux 101)),⟨none, none, .st none 1 (ux 105) (ux 104), 0, false⟩]))))
 (.regN [0, 3, 4, 7] [
 kx 83 (.mv (ux 7)),kx 84 (.bini .add (ux 83) (.con (.val (.int .i64 1)))),kx 7 (.mv (ux 84))])))
def t51L2 : AC := (.seq (.seq (.regN [0, 3, 4] [
 kx 21 (.mv (ux 4)),kx 22 (.mv (ux 0)),kx 23 (.len false (ux 22)),kx 24 (.bini .lss (ux 21) (ux 23))])
 (.cond (ux 24)
 .skip
 (.exit 0)))
 (.seq (.block 1
 (.seq (.regN [0, 3, 4] [
 kx 28 (.mv (ux 0)),kx 29 (.mv (ux 4)),kx 30 (.ixA 6 (ux 28) (ux 29)),kx 31 (.fldA 0 (ux 30)),kx 32 (.ld1 none (ux 31)),kx 33 (.call 62 [(ux 32)]),kx 27 (.mv (ux 33)),kx 34 (.ext (ux 27) 0),kx 35 (.ext (ux 27) 1),kx 5 (.mv (ux 34)),kx 6 (.mv (ux 35))])
 (.seq (.seq (.regN [0, 3, 4, 5, 6] [
 kx 36 (.mv (ux 5)),kx 37 (.bini .lss (ux 36) (.con (.val (.int .i64 0)))),kx 38 (.mv (ux 37)),⟨some 39, some (38, false), .mv (ux 0), 0, false⟩,⟨some 40, some (38, false), .mv (ux 4), 0, false⟩,⟨some 41, some (38, false), .ixA 6 (ux 39) (ux 40), 0, false⟩,⟨some 42, some (38, false), .fldA 5 (ux 41), 0, false⟩,⟨some 43, some (38, false), .ld1 none (ux 42), 0, false⟩,⟨some 44, some (38, false), .len false (ux 43), 0, false⟩,⟨some 45, some (38, false), .mv (ux 5), 0, false⟩,⟨some 46, some (38, false), .bini .lss (ux 44) (ux 45), 0, false⟩,kx 47 (.pick (ux 38) (.con (.val (.bool true))) (ux 46)),kx 48 (.mv (ux 47)),⟨some 49, some (48, false), .mv (ux 0), 0, false⟩,⟨some 50, some (48, false), .mv (ux 4), 0, false⟩,⟨some 51, some (48, false), .ixA 6 (ux 49) (ux 50), 0, false⟩,⟨some 52, some (48, false), .fldA 5 (ux 51), 0, false⟩,⟨some 53, some (48, false), .ld1 none (ux 52), 0, false⟩,⟨some 54, some (48, false), .len false (ux 53), 0, false⟩,⟨some 55, some (48, false), .mv (ux 6), 0, false⟩,⟨some 56, some (48, false), .bini .gtr (ux 54) (ux 55), 0, false⟩,kx 57 (.pick (ux 48) (.con (.val (.bool true))) (ux 56)),kx 58 (.mv (ux 57)),⟨some 59, some (58, false), .mv (ux 0), 0, false⟩,⟨some 60, some (58, false), .mv (ux 4), 0, false⟩,⟨some 61, some (58, false), .ixA 6 (ux 59) (ux 60), 0, false⟩,⟨some 62, some (58, false), .fldA 0 (ux 61), 0, false⟩,⟨some 63, some (58, false), .ld1 none (ux 62), 0, false⟩,⟨some 64, some (58, false), .bini .neq (ux 63) (.con (.val (.int .i64 2))), 0, false⟩,⟨some 65, some (58, false), .mv (ux 64), 0, false⟩,⟨some 66, some (65, true), .mv (ux 0), 0, false⟩,⟨some 67, some (65, true), .mv (ux 4), 0, false⟩,⟨some 68, some (65, true), .ixA 6 (ux 66) (ux 67), 0, false⟩,⟨some 69, some (65, true), .fldA 1 (ux 68), 0, false⟩,⟨some 70, some (65, true), .ldA none 4 (ux 69), 0, false⟩,⟨some 71, some (65, true), .build [(.val (.int .u64 0)), (.val (.int .u64 0)), (.val (.int .u64 0)), (.val (.int .u64 0))] [], 0, false⟩,⟨some 72, some (65, true), .eqa true [1, 1, 1, 1] (ux 70) (ux 71), 0, false⟩,⟨some 73, some (58, false), .pick (ux 65) (ux 72) (.con (.val (.bool false))), 0, false⟩,kx 74 (.pick (ux 58) (.con (.val (.bool true))) (ux 73))])
 (.cond (ux 74)
 (.seq (.regN [] [
 kx 2 (.mv (.con (.val (.int .i64 2))))])
 .ret)
 .skip))
 (.seq (.regN [0, 3, 4] [
 kx 7 (.mv (.con (.val (.int .i64 0))))])
 (.block 2
 (.loop [0, 3, 4, 7] t51L1))))))
 (.regN [0, 3, 4] [
 kx 25 (.mv (ux 4)),kx 26 (.bini .add (ux 25) (.con (.val (.int .i64 1)))),kx 4 (.mv (ux 26))])))
def t51L3 : AC := (.seq (.seq (.regN [0, 3, 9] [
 kx 106 (.mv (ux 9)),kx 107 (.mv (ux 0)),kx 108 (.len false (ux 107)),kx 109 (.bini .lss (ux 106) (ux 108))])
 (.cond (ux 109)
 .skip
 (.exit 4)))
 (.seq (.block 5
 (.seq (.regN [0, 3, 9] [
 kx 112 (.mv (ux 9)),kx 113 (.mv (ux 0)),kx 114 (.len false (ux 113)),kx 115 (.bini .sub (ux 114) (.con (.val (.int .i64 1)))),kx 116 (.bini .lss (ux 112) (ux 115)),kx 117 (.mv (ux 116)),⟨some 118, some (117, true), .mv (ux 3), 0, false⟩,⟨some 119, some (117, true), .mv (ux 9), 0, false⟩,⟨some 120, some (117, true), .ixA 1 (ux 118) (ux 119), 0, false⟩,⟨some 121, some (117, true), .ld1 none (ux 120), 0, false⟩,⟨some 122, some (117, true), .bini .neq (ux 121) (.con (.val (.int .i64 1))), 0, false⟩,kx 123 (.pick (ux 117) (ux 122) (.con (.val (.bool false))))])
 (.cond (ux 123)
 (.seq (.regN [] [
 kx 2 (.mv (.con (.val (.int .i64 2))))])
 .ret)
 .skip)))
 (.regN [0, 3, 9] [
 kx 110 (.mv (ux 9)),kx 111 (.bini .add (ux 110) (.con (.val (.int .i64 1)))),kx 9 (.mv (ux 111))])))
def t51B : AC := (.seq (.regN [0] [
 kx 2 (.mv (.con (.val (.int .i64 0))))])
 (.seq (.seq (.regN [0] [
 kx 10 (.mv (ux 0)),kx 11 (.len false (ux 10)),kx 12 (.bini .lss (ux 11) (.con (.val (.int .i64 1)))),kx 13 (.mv (ux 12)),⟨some 14, some (13, false), .mv (ux 0), 0, false⟩,⟨some 15, some (13, false), .len false (ux 14), 0, false⟩,⟨some 16, some (13, false), .bini .gtr (ux 15) (.con (.val (.int .i64 512))), 0, false⟩,kx 17 (.pick (ux 13) (.con (.val (.bool true))) (ux 16))])
 (.cond (ux 17)
 (.seq (.regN [] [
 kx 2 (.mv (.con (.val (.int .i64 2))))])
 .ret)
 .skip))
 (.seq (.regN [0] [
 kx 18 (.mv (ux 0)),kx 19 (.len false (ux 18)),kx 20 (.mks 1 8 [(.val (.int .i64 0))] (ux 19)),kx 3 (.mv (ux 20))])
 (.seq (.seq (.regN [0, 3] [
 kx 4 (.mv (.con (.val (.int .i64 0))))])
 (.block 0
 (.loop [0, 3, 4] t51L2)))
 (.seq (.seq (.regN [0, 3] [
 kx 9 (.mv (.con (.val (.int .i64 0))))])
 (.block 4
 (.loop [0, 3, 9] t51L3)))
 (.seq (.regN [] [
 kx 2 (.mv (.con (.val (.int .i64 0))))])
 .ret))))))
def t51 : AFn := ⟨1, t51B,
 [.tmp 2], true⟩
/-- viewport/viewportref02.parts  -/
def t62B : AC := (.seq (.regN [0] [
 kx 2 (.mv (.con (.val (.int .i64 0)))),kx 3 (.mv (.con (.val (.int .i64 0))))])
 (.seq (.seq (.regN [0] [
 kx 4 (.mv (ux 0))])
 (.block 0
 (.seq (.seq (.regN [4] [
 kx 6 (.bini .eql (ux 4) (.con (.val (.int .i64 1)))),kx 5 (.mv (ux 6))])
 (.cond (ux 5)
 .skip
 (.regN [4] [
 kx 7 (.bini .eql (ux 4) (.con (.val (.int .i64 2)))),kx 5 (.mv (ux 7))])))
 (.cond (ux 5)
 (.seq (.regN [] [
 kx 2 (.mv (.con (.val (.int .i64 0)))),kx 3 (.mv (.con (.val (.int .i64 0))))])
 .ret)
 (.seq (.seq (.regN [4] [
 kx 9 (.bini .eql (ux 4) (.con (.val (.int .i64 3)))),kx 8 (.mv (ux 9))])
 (.cond (ux 8)
 .skip
 (.regN [4] [
 kx 10 (.bini .eql (ux 4) (.con (.val (.int .i64 4)))),kx 8 (.mv (ux 10))])))
 (.cond (ux 8)
 (.seq (.regN [] [
 kx 2 (.mv (.con (.val (.int .i64 2)))),kx 3 (.mv (.con (.val (.int .i64 512))))])
 .ret)
 (.seq (.seq (.regN [4] [
 kx 12 (.bini .eql (ux 4) (.con (.val (.int .i64 5)))),kx 11 (.mv (ux 12))])
 (.cond (ux 11)
 .skip
 (.seq (.regN [4] [
 kx 13 (.bini .eql (ux 4) (.con (.val (.int .i64 6)))),kx 11 (.mv (ux 13))])
 (.cond (ux 11)
 .skip
 (.regN [4] [
 kx 14 (.bini .eql (ux 4) (.con (.val (.int .i64 7)))),kx 11 (.mv (ux 14))])))))
 (.cond (ux 11)
 (.seq (.regN [] [
 kx 2 (.mv (.con (.val (.int .i64 1)))),kx 3 (.mv (.con (.val (.int .i64 1))))])
 .ret)
 .skip))))))))
 (.seq (.regN [] [
 kx 2 (.mv (.con (.val (.int .i64 (-1))))),kx 3 (.mv (.con (.val (.int .i64 (-1)))))])
 .ret)))
def t62 : AFn := ⟨1, t62B,
 [.tmp 2, .tmp 3], true⟩
/-- viewport/viewportref03.node  -/
def t52L1 : AC := (.seq (.seq (.regN [0, 1, 6, 7, 9, 10] [
 kx 75 (.mv (ux 10)),kx 76 (.fldA 5 (ux 7)),kx 77 (.ld1 (some 7) (ux 76)),kx 78 (.len false (ux 77)),kx 79 (.bini .lss (ux 75) (ux 78))])
 (.cond (ux 79)
 .skip
 (.exit 1)))
 (.seq (.block 2
 (.seq (.regN [0, 1, 6, 7, 9, 10] [
 kx 82 (.mv (ux 0)),kx 83 (.mv (ux 1)),kx 84 (.fldA 5 (ux 7)),kx 85 (.ld1 (some 7) (ux 84)),kx 86 (.mv (ux 10)),kx 87 (.ixA 1 (ux 85) (ux 86)),kx 88 (.ld1 none (ux 87)),kx 89 (.call 52 [(ux 82), (ux 83), (ux 88)]),kx 11 (.allocR [(.val (.bool false)), .e0, .e0]),⟨none, none, .st (some 11) 3 (ux 11) (ux 89), 0, false⟩])
 (.seq (.regN [0, 1, 6, 7, 9, 10, 11] [
 kx 90 (.mv (ux 0)),kx 91 (.fldA 2 (ux 9)),kx 92 (.ld1 (some 9) (ux 91)),kx 93 (.fldA 1 (ux 11)),kx 94 (.ld1 (some 11) (ux 93)),kx 95 (.call 63 [(ux 90), (ux 92), (ux 94)])])
 (.seq (.seq (.regN [0, 1, 6, 7, 9, 10, 11] [
 kx 96 (.fldA 0 (ux 9)),kx 97 (.ld1 (some 9) (ux 96))])
 (.cond (ux 97)
 (.regN [0, 1, 6, 7, 9, 10, 11] [
 kx 98 (.fldA 1 (ux 9)),kx 99 (.ld1 (some 9) (ux 98)),kx 100 (.fldA 1 (ux 11)),kx 101 (.ld1 (some 11) (ux 100)),kx 102 (.call 53 [(ux 99), (ux 101)]),kx 103 (.fldA 1 (ux 9)),⟨none, none, .st (some 9) 1 (ux 103) (ux 102), 0, false⟩])
 .skip))
 (.seq (.seq (.regN [0, 1, 6, 7, 9, 10, 11] [
 kx 104 (.fldA 0 (ux 11)),kx 105 (.ld1 (some 11) (ux 104))])
 (.cond (ux 105)
 (.regN [0, 1, 6, 7, 9, 10, 11] [
 kx 106 (.fldA 2 (ux 9)),kx 107 (.ld1 (some 9) (ux 106)),kx 108 (.fldA 2 (ux 11)),kx 109 (.ld1 (some 11) (ux 108)),kx 110 (.call 53 [(ux 107), (ux 109)]),kx 111 (.fldA 2 (ux 11)),⟨none, none, .st (some 11) 1 (ux 111) (ux 110), 0, false⟩])
 .skip))
 (.regN [0, 1, 6, 7, 9, 10, 11] [
 kx 112 (.fldA 0 (ux 9)),kx 113 (.ld1 (some 9) (ux 112)),kx 114 (.mv (ux 113)),⟨some 115, some (114, true), .fldA 0 (ux 11), 0, false⟩,⟨some 116, some (114, true), .ld1 (some 11) (ux 115), 0, false⟩,kx 117 (.pick (ux 114) (ux 116) (.con (.val (.bool false)))),kx 118 (.fldA 1 (ux 9)),kx 119 (.ld1 (some 9) (ux 118)),kx 120 (.fldA 2 (ux 11)),kx 121 (.ld1 (some 11) (ux 120)),kx 122 (.build [(.val (.bool false)), .e0, .e0] [(0, 1, (ux 117)), (1, 1, (ux 119)), (2, 1, (ux 121))]),⟨none, none, .st (some 9) 3 (ux 9) (ux 122), 0, false⟩]))))))
 (.regN [0, 1, 6, 7, 9, 10] [
 kx 80 (.mv (ux 10)),kx 81 (.bini .add (ux 80) (.con (.val (.int .i64 1)))),kx 10 (.mv (ux 81))])))
def t52L2 : AC := (.seq (.seq (.regN [0, 1, 6, 7, 12, 13] [
 kx 127 (.mv (ux 13)),kx 128 (.fldA 5 (ux 7)),kx 129 (.ld1 (some 7) (ux 128)),kx 130 (.len false (ux 129)),kx 131 (.bini .lss (ux 127) (ux 130))])
 (.cond (ux 131)
 .skip
 (.exit 3)))
 (.seq (.block 4
 (.seq (.regN [0, 1, 6, 7, 12, 13] [
 kx 134 (.mv (ux 0)),kx 135 (.mv (ux 1)),kx 136 (.fldA 5 (ux 7)),kx 137 (.ld1 (some 7) (ux 136)),kx 138 (.mv (ux 13)),kx 139 (.ixA 1 (ux 137) (ux 138)),kx 140 (.ld1 none (ux 139)),kx 141 (.call 52 [(ux 134), (ux 135), (ux 140)]),kx 14 (.allocR [(.val (.bool false)), .e0, .e0]),⟨none, none, .st (some 14) 3 (ux 14) (ux 141), 0, false⟩])
 (.regD [0, 1, 6, 7, 12, 13, 14] 0 [
 kx 142 (.fldA 0 (ux 12)),kx 143 (.ld1 (some 12) (ux 142)),kx 144 (.mv (ux 143)),⟨some 145, some (144, false), .fldA 0 (ux 14), 0, false⟩,⟨some 146, some (144, false), .ld1 (some 14) (ux 145), 0, false⟩,kx 147 (.pick (ux 144) (.con (.val (.bool true))) (ux 146)),kx 148 (.fldA 1 (ux 12)),kx 149 (.ld1 (some 12) (ux 148)),kx 150 (.fldA 1 (ux 14)),kx 151 (.ld1 (some 14) (ux 150)),⟨some 152, none, .call 53 [(ux 149), (ux 151)], 0, true⟩,kx 153 (.fldA 2 (ux 12)),kx 154 (.ld1 (some 12) (ux 153)),kx 155 (.fldA 2 (ux 14)),kx 156 (.ld1 (some 14) (ux 155)),⟨some 157, none, .call 53 [(ux 154), (ux 156)], 0, true⟩,kx 158 (.build [(.val (.bool false)), .e0, .e0] [(0, 1, (ux 147)), (1, 1, (ux 152)), (2, 1, (ux 157))]),⟨none, none, .st (some 12) 3 (ux 12) (ux 158), 0, false⟩])))
 (.regN [0, 1, 6, 7, 12, 13] [
 kx 132 (.mv (ux 13)),kx 133 (.bini .add (ux 132) (.con (.val (.int .i64 1)))),kx 13 (.mv (ux 133))])))
def t52B : AC := (.seq (.regN [0, 1, 2] [
 kx 6 (.allocR [(.val (.bool false)), .e0, .e0])])
 (.seq (.regN [0, 1, 2, 6] [
 kx 16 (.mv (ux 1)),kx 17 (.mv (ux 2)),kx 18 (.ixA 6 (ux 16) (ux 17)),kx 19 (.ldA none 6 (ux 18)),kx 7 (.allocR [(.val (.int .i64 0)), (.val (.int .u64 0)), (.val (.int .u64 0)), (.val (.int .u64 0)), (.val (.int .u64 0)), .e0]),⟨none, none, .st (some 7) 6 (ux 7) (ux 19), 0, false⟩])
 (.seq (.seq (.regN [0, 1, 6, 7] [
 kx 20 (.fldA 0 (ux 7)),kx 21 (.ld1 (some 7) (ux 20))])
 (.block 0
 (.seq (.regN [0, 1, 6, 7, 21] [
 kx 23 (.bini .eql (ux 21) (.con (.val (.int .i64 1)))),kx 22 (.mv (ux 23))])
 (.cond (ux 22)
 (.seq (.regN [6] [
 kx 24 (.build [(.val (.bool false)), .e0, .e0] [(0, 1, (.con (.val (.bool true))))]),⟨none, none, .st (some 6) 3 (ux 6) (ux 24), 0, false⟩])
 .ret)
 (.seq (.regN [0, 1, 6, 7, 21] [
 kx 26 (.bini .eql (ux 21) (.con (.val (.int .i64 2)))),kx 25 (.mv (ux 26))])
 (.cond (ux 25)
 (.seq (.regN [0, 6, 7] [
 kx 27 (.mv (ux 0)),kx 28 (.nilc (ux 27)),kx 29 (.fldA 0 (ux 28)),kx 30 (.ld1 none (ux 29)),kx 31 (.len false (ux 30)),kx 8 (.mv (ux 31))])
 (.seq (.regD [0, 6, 7, 8] 0 [
 kx 32 (.mv (ux 0)),kx 33 (.mv (ux 0)),kx 34 (.mv (ux 0)),kx 35 (.mv (ux 0)),kx 36 (.nilc (ux 35)),kx 37 (.fldA 0 (ux 36)),kx 38 (.ld1 none (ux 37)),kx 39 (.fldA 1 (ux 7)),kx 40 (.ldA (some 7) 4 (ux 39)),kx 41 (.buildS 1 [(.val (.int .u64 0)), (.val (.int .u64 0)), (.val (.int .u64 0)), (.val (.int .u64 0))] [(0, 4, (ux 40))]),⟨some 42, none, .app 4 32 (ux 38) (ux 41), 0, true⟩,kx 43 (.mv (ux 0)),kx 44 (.nilc (ux 43)),kx 45 (.fldA 1 (ux 44)),kx 46 (.ld1 none (ux 45)),kx 47 (.buildS 1 [.e0] [(0, 1, (.con .e0))]),⟨some 48, none, .app 1 24 (ux 46) (ux 47), 0, true⟩,kx 49 (.mv (ux 0)),kx 50 (.nilc (ux 49)),kx 51 (.fldA 2 (ux 50)),kx 52 (.ld1 none (ux 51)),kx 53 (.buildS 1 [(.val (.int .i64 0))] [(0, 1, (.con (.val (.int .i64 (-1)))))]),kx 54 (.app 1 8 (ux 52) (ux 53)),kx 55 (.nilc (ux 32)),kx 56 (.fldA 0 (ux 55)),⟨none, none, .st none 1 (ux 56) (ux 42), 0, false⟩,kx 57 (.nilc (ux 33)),kx 58 (.fldA 1 (ux 57)),⟨none, none, .st none 1 (ux 58) (ux 48), 0, false⟩,kx 59 (.nilc (ux 34)),kx 60 (.fldA 2 (ux 59)),⟨none, none, .st none 1 (ux 60) (ux 54), 0, false⟩])
 (.seq (.regN [6, 8] [
 kx 61 (.mv (ux 8)),kx 62 (.buildS 1 [(.val (.int .i64 0))] [(0, 1, (ux 61))]),kx 63 (.mv (ux 8)),kx 64 (.buildS 1 [(.val (.int .i64 0))] [(0, 1, (ux 63))]),kx 65 (.build [(.val (.bool false)), .e0, .e0] [(1, 1, (ux 62)), (2, 1, (ux 64))]),⟨none, none, .st (some 6) 3 (ux 6) (ux 65), 0, false⟩])
 .ret)))
 (.seq (.regN [0, 1, 6, 7, 21] [
 kx 67 (.bini .eql (ux 21) (.con (.val (.int .i64 3)))),kx 66 (.mv (ux 67))])
 (.cond (ux 66)
 (.seq (.regN [0, 1, 6, 7] [
 kx 68 (.mv (ux 0)),kx 69 (.mv (ux 1)),kx 70 (.fldA 5 (ux 7)),kx 71 (.ld1 (some 7) (ux 70)),kx 72 (.ixA 1 (ux 71) (.con (.val (.int .i64 0)))),kx 73 (.ld1 none (ux 72)),kx 74 (.call 52 [(ux 68), (ux 69), (ux 73)]),kx 9 (.allocR [(.val (.bool false)), .e0, .e0]),⟨none, none, .st (some 9) 3 (ux 9) (ux 74), 0, false⟩])
 (.seq (.seq (.regN [0, 1, 6, 7, 9] [
 kx 10 (.mv (.con (.val (.int .i64 1))))])
 (.block 1
 (.loop [0, 1, 6, 7, 9, 10] t52L1)))
 (.seq (.regN [6, 9] [
 kx 123 (.ldA (some 9) 3 (ux 9)),⟨none, none, .st (some 6) 3 (ux 6) (ux 123), 0, false⟩])
 .ret)))
 (.seq (.regN [0, 1, 6, 7, 21] [
 kx 125 (.bini .eql (ux 21) (.con (.val (.int .i64 4)))),kx 124 (.mv (ux 125))])
 (.cond (ux 124)
 (.seq (.regN [0, 1, 6, 7] [
 kx 126 (.build [(.val (.bool false)), .e0, .e0] []),kx 12 (.allocR [(.val (.bool false)), .e0, .e0]),⟨none, none, .st (some 12) 3 (ux 12) (ux 126), 0, false⟩])
 (.seq (.seq (.regN [0, 1, 6, 7, 12] [
 kx 13 (.mv (.con (.val (.int .i64 0))))])
 (.block 3
 (.loop [0, 1, 6, 7, 12, 13] t52L2)))
 (.seq (.regN [6, 12] [
 kx 159 (.ldA (some 12) 3 (ux 12)),⟨none, none, .st (some 6) 3 (ux 6) (ux 159), 0, false⟩])
 .ret)))
 .skip))))))))))
 (.seq (.regN [0, 1, 6, 7] [
 kx 160 (.mv (ux 0)),kx 161 (.mv (ux 1)),kx 162 (.fldA 5 (ux 7)),kx 163 (.ld1 (some 7) (ux 162)),kx 164 (.ixA 1 (ux 163) (.con (.val (.int .i64 0)))),kx 165 (.ld1 none (ux 164)),kx 166 (.call 52 [(ux 160), (ux 161), (ux 165)]),kx 15 (.allocR [(.val (.bool false)), .e0, .e0]),⟨none, none, .st (some 15) 3 (ux 15) (ux 166), 0, false⟩])
 (.seq (.seq (.regN [0, 6, 7, 15] [
 kx 167 (.fldA 0 (ux 7)),kx 168 (.ld1 (some 7) (ux 167)),kx 169 (.bini .neq (ux 168) (.con (.val (.int .i64 7))))])
 (.cond (ux 169)
 (.regN [0, 6, 7, 15] [
 kx 170 (.mv (ux 0)),kx 171 (.fldA 2 (ux 15)),kx 172 (.ld1 (some 15) (ux 171)),kx 173 (.fldA 1 (ux 15)),kx 174 (.ld1 (some 15) (ux 173)),kx 175 (.call 63 [(ux 170), (ux 172), (ux 174)])])
 .skip))
 (.seq (.seq (.regN [6, 7, 15] [
 kx 176 (.fldA 0 (ux 7)),kx 177 (.ld1 (some 7) (ux 176)),kx 178 (.bini .neq (ux 177) (.con (.val (.int .i64 6))))])
 (.cond (ux 178)
 (.regN [6, 15] [
 kx 179 (.fldA 0 (ux 15)),⟨none, none, .st (some 15) 1 (ux 179) (.con (.val (.bool true))), 0, false⟩])
 .skip))
 (.seq (.regN [6, 15] [
 kx 180 (.ldA (some 15) 3 (ux 15)),⟨none, none, .st (some 6) 3 (ux 6) (ux 180), 0, false⟩])
 .ret)))))))
def t52 : AFn := ⟨3, t52B,
 [.cell 6 3 true], false⟩
/-- viewport/viewportref03.join  -/
def t63L1 : AC := (.seq (.seq (.regN [0, 1, 2, 6] [
 kx 7 (.mv (ux 6)),kx 8 (.mv (ux 1)),kx 9 (.len false (ux 8)),kx 10 (.bini .lss (ux 7) (ux 9))])
 (.cond (ux 10)
 .skip
 (.exit 0)))
 (.seq (.block 1
 (.regD [0, 1, 2, 6] 0 [
 kx 13 (.mv (ux 0)),kx 14 (.nilc (ux 13)),kx 15 (.fldA 1 (ux 14)),kx 16 (.ld1 none (ux 15)),kx 17 (.mv (ux 1)),kx 18 (.mv (ux 6)),kx 19 (.ixA 1 (ux 17) (ux 18)),kx 20 (.ld1 none (ux 19)),kx 21 (.mv (ux 0)),kx 22 (.nilc (ux 21)),kx 23 (.fldA 1 (ux 22)),kx 24 (.ld1 none (ux 23)),kx 25 (.mv (ux 1)),kx 26 (.mv (ux 6)),kx 27 (.ixA 1 (ux 25) (ux 26)),kx 28 (.ld1 none (ux 27)),kx 29 (.ixA 1 (ux 24) (ux 28)),kx 30 (.ld1 none (ux 29)),kx 31 (.mv (ux 2)),kx 32 (.call 53 [(ux 30), (ux 31)]),kx 33 (.ixA 1 (ux 16) (ux 20)),⟨none, none, .st none 1 (ux 33) (ux 32), 0, false⟩]))
 (.regN [0, 1, 2, 6] [
 kx 11 (.mv (ux 6)),kx 12 (.bini .add (ux 11) (.con (.val (.int .i64 1)))),kx 6 (.mv (ux 12))])))
def t63B : AC := (.seq (.regN [0, 1, 2] [
 kx 6 (.mv (.con (.val (.int .i64 0))))])
 (.block 0
 (.loop [0, 1, 2, 6] t63L1)))
def t63 : AFn := ⟨3, t63B,
 [], false⟩
/-- viewport/viewportref03.union  -/
def t53L1 : AC := (.seq (.seq (.regN [1, 5, 6] [
 kx 12 (.mv (ux 6)),kx 13 (.mv (ux 1)),kx 14 (.len false (ux 13)),kx 15 (.bini .lss (ux 12) (ux 14))])
 (.cond (ux 15)
 .skip
 (.exit 0)))
 (.seq (.block 1
 (.seq (.regN [1, 5, 6] [
 kx 18 (.mv (ux 5)),kx 19 (.mv (ux 1)),kx 20 (.mv (ux 6)),kx 21 (.ixA 1 (ux 19) (ux 20)),kx 22 (.ld1 none (ux 21)),kx 23 (.call 64 [(ux 18), (ux 22)]),kx 24 (.not (ux 23))])
 (.cond (ux 24)
 (.regN [1, 5, 6] [
 kx 25 (.mv (ux 5)),kx 26 (.mv (ux 1)),kx 27 (.mv (ux 6)),kx 28 (.ixA 1 (ux 26) (ux 27)),kx 29 (.ld1 none (ux 28)),kx 30 (.buildS 1 [(.val (.int .i64 0))] [(0, 1, (ux 29))]),kx 31 (.app 1 8 (ux 25) (ux 30)),kx 5 (.mv (ux 31))])
 .skip)))
 (.regN [1, 5, 6] [
 kx 16 (.mv (ux 6)),kx 17 (.bini .add (ux 16) (.con (.val (.int .i64 1)))),kx 6 (.mv (ux 17))])))
def t53L2 : AC := (.seq (.seq (.regD [5, 7, 8] 0 [
 kx 39 (.mv (ux 8)),kx 40 (.bini .gtr (ux 39) (.con (.val (.int .i64 0)))),kx 41 (.mv (ux 40)),⟨some 42, some (41, true), .mv (ux 5), 0, false⟩,⟨some 43, some (41, true), .mv (ux 8), 0, false⟩,⟨some 44, some (41, true), .bini .sub (ux 43) (.con (.val (.int .i64 1))), 0, false⟩,⟨some 45, some (41, true), .ixA 1 (ux 42) (ux 44), 0, false⟩,⟨some 46, some (41, true), .ld1 none (ux 45), 0, false⟩,⟨some 47, some (41, true), .mv (ux 5), 0, false⟩,⟨some 48, some (41, true), .mv (ux 8), 0, false⟩,⟨some 49, some (41, true), .ixA 1 (ux 47) (ux 48), 0, false⟩,⟨some 50, some (41, true), .ld1 none (ux 49), 0, false⟩,⟨some 51, some (41, true), .bini .gtr (ux 46) (ux 50), 0, false⟩,kx 52 (.pick (ux 41) (ux 51) (.con (.val (.bool false))))])
 (.cond (ux 52)
 .skip
 (.exit 4)))
 (.seq (.block 5
 (.regD [5, 7, 8] 0 [
 kx 55 (.mv (ux 5)),kx 56 (.mv (ux 8)),kx 57 (.bini .sub (ux 56) (.con (.val (.int .i64 1)))),kx 58 (.mv (ux 5)),kx 59 (.mv (ux 8)),kx 60 (.mv (ux 5)),kx 61 (.mv (ux 8)),kx 62 (.ixA 1 (ux 60) (ux 61)),kx 63 (.ld1 none (ux 62)),kx 64 (.mv (ux 5)),kx 65 (.mv (ux 8)),kx 66 (.bini .sub (ux 65) (.con (.val (.int .i64 1)))),kx 67 (.ixA 1 (ux 64) (ux 66)),kx 68 (.ld1 none (ux 67)),kx 69 (.ixA 1 (ux 55) (ux 57)),⟨none, none, .st none 1 (ux 69) (ux 63), 0, false⟩,kx 70 (.ixA 1 (ux 58) (ux 59)),⟨none, none, .st none 1 (ux 70) (ux 68), 0, false⟩]))
 (.regN [5, 7, 8] [
 kx 53 (.mv (ux 8)),kx 54 (.bini .sub (ux 53) (.con (.val (.int .i64 1)))),kx 8 (.mv (ux 54))])))
def t53L3 : AC := (.seq (.seq (.regN [5, 7] [
 kx 32 (.mv (ux 7)),kx 33 (.mv (ux 5)),kx 34 (.len false (ux 33)),kx 35 (.bini .lss (ux 32) (ux 34))])
 (.cond (ux 35)
 .skip
 (.exit 2)))
 (.seq (.block 3
 (.seq (.regN [5, 7] [
 kx 38 (.mv (ux 7)),kx 8 (.mv (ux 38))])
 (.block 4
 (.loop [5, 7, 8] t53L2))))
 (.regN [5, 7] [
 kx 36 (.mv (ux 7)),kx 37 (.bini .add (ux 36) (.con (.val (.int .i64 1)))),kx 7 (.mv (ux 37))])))
def t53B : AC := (.seq (.regN [0, 1] [
 kx 4 (.mv (.con .e0))])
 (.seq (.regN [0, 1] [
 kx 9 (.buildS 0 [] []),kx 10 (.mv (ux 0)),kx 11 (.app 1 8 (ux 9) (ux 10)),kx 5 (.mv (ux 11))])
 (.seq (.seq (.regN [1, 5] [
 kx 6 (.mv (.con (.val (.int .i64 0))))])
 (.block 0
 (.loop [1, 5, 6] t53L1)))
 (.seq (.seq (.regN [5] [
 kx 7 (.mv (.con (.val (.int .i64 1))))])
 (.block 2
 (.loop [5, 7] t53L3)))
 (.seq (.regN [5] [
 kx 71 (.mv (ux 5)),kx 4 (.mv (ux 71))])
 .ret)))))
def t53 : AFn := ⟨2, t53B,
 [.tmp 4], true⟩
/-- viewport/viewportref03.in  -/
def t64L1 : AC := (.seq (.seq (.regN [0, 1, 5] [
 kx 6 (.mv (ux 5)),kx 7 (.mv (ux 0)),kx 8 (.len false (ux 7)),kx 9 (.bini .lss (ux 6) (ux 8))])
 (.cond (ux 9)
 .skip
 (.exit 0)))
 (.seq (.block 1
 (.seq (.regN [0, 1, 5] [
 kx 12 (.mv (ux 0)),kx 13 (.mv (ux 5)),kx 14 (.ixA 1 (ux 12) (ux 13)),kx 15 (.ld1 none (ux 14)),kx 16 (.mv (ux 1)),kx 17 (.bini .eql (ux 15) (ux 16))])
 (.cond (ux 17)
 (.seq (.regN [] [
 kx 4 (.mv (.con (.val (.bool true))))])
 .ret)
 .skip)))
 (.regN [0, 1, 5] [
 kx 10 (.mv (ux 5)),kx 11 (.bini .add (ux 10) (.con (.val (.int .i64 1)))),kx 5 (.mv (ux 11))])))
def t64B : AC := (.seq (.regN [0, 1] [
 kx 4 (.mv (.con (.val (.bool false))))])
 (.seq (.seq (.regN [0, 1] [
 kx 5 (.mv (.con (.val (.int .i64 0))))])
 (.block 0
 (.loop [0, 1, 5] t64L1)))
 (.seq (.regN [] [
 kx 4 (.mv (.con (.val (.bool false))))])
 .ret)))
def t64 : AFn := ⟨2, t64B,
 [.tmp 4], true⟩
/-- viewport/viewportref04.Build  -/
def t38L1 : AC := (.seq (.seq (.regN [1, 2, 4, 7, 8, 9, 10, 11] [
 kx 55 (.mv (ux 11)),kx 56 (.bini .lss (ux 55) (.con (.val (.int .i64 256))))])
 (.cond (ux 56)
 .skip
 (.exit 2)))
 (.seq (.block 3
 (.seq (.regD [1, 2, 4, 7, 8, 9, 10, 11] 0 [
 kx 59 (.ldA (some 2) 3 (ux 2)),kx 60 (.mv (ux 7)),kx 61 (.mv (ux 10)),kx 62 (.ixA 1 (ux 60) (ux 61)),kx 63 (.ld1 none (ux 62)),kx 64 (.mv (ux 11)),kx 65 (.cvi .u8 (ux 64)),⟨some 66, none, .call 57 [(ux 59), (ux 63), (ux 65)], 0, true⟩,kx 12 (.mv (ux 66))])
 (.seq (.regN [1, 2, 4, 7, 8, 9, 10, 11, 12] [
 kx 13 (.mv (.con (.val (.int .i64 (-1)))))])
 (.seq (.seq (.regN [1, 2, 4, 7, 8, 9, 10, 11, 12, 13] [
 kx 67 (.mv (ux 12)),kx 68 (.len false (ux 67)),kx 69 (.bini .gtr (ux 68) (.con (.val (.int .i64 0))))])
 (.cond (ux 69)
 (.seq (.regN [1, 2, 4, 7, 8, 9, 10, 11, 12] [
 kx 71 (.mv (ux 8)),kx 72 (.mv (ux 12)),kx 73 (.call 55 [(ux 72)]),kx 74 (.mlk false [2] (.val (.int .i64 0)) true (ux 71) (ux 73)),kx 70 (.mv (ux 74)),kx 75 (.ext (ux 70) 0),kx 76 (.ext (ux 70) 1),kx 14 (.mv (ux 75)),kx 15 (.mv (ux 76))])
 (.seq (.seq (.regN [1, 2, 4, 7, 8, 9, 10, 11, 12, 14, 15] [
 kx 77 (.mv (ux 15)),kx 78 (.not (ux 77))])
 (.cond (ux 78)
 (.seq (.regN [1, 2, 4, 7, 8, 9, 10, 11, 12] [
 kx 79 (.mv (ux 7)),kx 80 (.len false (ux 79)),kx 14 (.mv (ux 80))])
 (.seq (.seq (.regN [1, 2, 4, 7, 8, 9, 10, 11, 12, 14] [
 kx 81 (.mv (ux 14)),kx 82 (.mv (ux 1)),kx 83 (.bini .eql (ux 81) (ux 82))])
 (.cond (ux 83)
 (.seq (.regN [4] [
 kx 84 (.build [.e0, .e0] []),⟨none, none, .st (some 4) 2 (ux 4) (ux 84), 0, false⟩,kx 5 (.mv (.con (.val (.int .i64 10))))])
 .ret)
 .skip))
 (.seq (.regN [1, 2, 4, 7, 8, 9, 10, 11, 12, 14] [
 kx 85 (.mv (ux 7)),kx 86 (.mv (ux 12)),kx 87 (.buildS 1 [.e0] [(0, 1, (ux 86))]),kx 88 (.app 1 24 (ux 85) (ux 87)),kx 7 (.mv (ux 88))])
 (.regN [1, 2, 4, 7, 8, 9, 10, 11, 12, 14] [
 kx 89 (.mv (ux 8)),kx 90 (.mv (ux 12)),kx 91 (.call 55 [(ux 90)]),kx 92 (.mv (ux 14)),⟨none, none, .mup false [2] (ux 89) (ux 91) (ux 92), 0, false⟩]))))
 .skip))
 (.regN [1, 2, 4, 7, 8, 9, 10, 11, 14] [
 kx 93 (.mv (ux 14)),kx 13 (.mv (ux 93))])))
 .skip))
 (.regN [1, 2, 4, 7, 8, 9, 10, 11, 13] [
 kx 94 (.fldA 0 (ux 9)),kx 95 (.ld1 (some 9) (ux 94)),kx 96 (.mv (ux 13)),kx 97 (.buildS 1 [(.val (.int .i64 0))] [(0, 1, (ux 96))]),kx 98 (.app 1 8 (ux 95) (ux 97)),kx 99 (.fldA 0 (ux 9)),⟨none, none, .st (some 9) 1 (ux 99) (ux 98), 0, false⟩])))))
 (.regN [1, 2, 4, 7, 8, 9, 10, 11] [
 kx 57 (.mv (ux 11)),kx 58 (.bini .add (ux 57) (.con (.val (.int .i64 1)))),kx 11 (.mv (ux 58))])))
def t38L2 : AC := (.seq (.seq (.regN [1, 2, 4, 7, 8, 9, 10] [
 kx 38 (.mv (ux 10)),kx 39 (.mv (ux 7)),kx 40 (.len false (ux 39)),kx 41 (.bini .lss (ux 38) (ux 40))])
 (.cond (ux 41)
 .skip
 (.exit 0)))
 (.seq (.block 1
 (.seq (.regD [1, 2, 4, 7, 8, 9, 10] 0 [
 kx 44 (.fldA 1 (ux 9)),kx 45 (.ld1 (some 9) (ux 44)),kx 46 (.ldA (some 2) 3 (ux 2)),kx 47 (.mv (ux 7)),kx 48 (.mv (ux 10)),kx 49 (.ixA 1 (ux 47) (ux 48)),kx 50 (.ld1 none (ux 49)),⟨some 51, none, .call 56 [(ux 46), (ux 50)], 0, true⟩,kx 52 (.buildS 1 [(.val (.int .i64 0))] [(0, 1, (ux 51))]),kx 53 (.app 1 8 (ux 45) (ux 52)),kx 54 (.fldA 1 (ux 9)),⟨none, none, .st (some 9) 1 (ux 54) (ux 53), 0, false⟩])
 (.seq (.regN [1, 2, 4, 7, 8, 9, 10] [
 kx 11 (.mv (.con (.val (.int .i64 0))))])
 (.block 2
 (.loop [1, 2, 4, 7, 8, 9, 10, 11] t38L1)))))
 (.regN [1, 2, 4, 7, 8, 9, 10] [
 kx 42 (.mv (ux 10)),kx 43 (.bini .add (ux 42) (.con (.val (.int .i64 1)))),kx 10 (.mv (ux 43))])))
def t38B : AC := (.seq (.regN [0, 1] [
 kx 2 (.boxR 3 (ux 0)),kx 4 (.allocR [.e0, .e0]),kx 5 (.mv (.con (.val (.int .i64 0))))])
 (.seq (.regN [1, 2, 4] [
 kx 16 (.ldA (some 2) 3 (ux 2)),kx 17 (.call 54 [(ux 16)]),kx 6 (.mv (ux 17))])
 (.seq (.seq (.regN [1, 2, 4, 6] [
 kx 18 (.mv (ux 6)),kx 19 (.bini .neq (ux 18) (.con (.val (.int .i64 0))))])
 (.cond (ux 19)
 (.seq (.regN [4, 6] [
 kx 20 (.build [.e0, .e0] []),kx 21 (.mv (ux 6)),⟨none, none, .st (some 4) 2 (ux 4) (ux 20), 0, false⟩,kx 5 (.mv (ux 21))])
 .ret)
 .skip))
 (.seq (.seq (.regN [1, 2, 4] [
 kx 22 (.mv (ux 1)),kx 23 (.bini .lss (ux 22) (.con (.val (.int .i64 1)))),kx 24 (.mv (ux 23)),⟨some 25, some (24, false), .mv (ux 1), 0, false⟩,⟨some 26, some (24, false), .bini .gtr (ux 25) (.con (.val (.int .i64 512))), 0, false⟩,kx 27 (.pick (ux 24) (.con (.val (.bool true))) (ux 26))])
 (.cond (ux 27)
 (.seq (.regN [4] [
 kx 28 (.build [.e0, .e0] []),⟨none, none, .st (some 4) 2 (ux 4) (ux 28), 0, false⟩,kx 5 (.mv (.con (.val (.int .i64 2))))])
 .ret)
 .skip))
 (.seq (.regN [1, 2, 4] [
 kx 29 (.buildS 1 [(.val (.int .i64 0))] [(0, 1, (.con (.val (.int .i64 0))))]),kx 30 (.buildH 1 1 [.e0] [(0, 1, (ux 29))]),kx 7 (.mv (ux 30))])
 (.seq (.regN [1, 2, 4, 7] [
 kx 31 (.mkm),kx 32 (.mv (ux 7)),kx 33 (.ixA 1 (ux 32) (.con (.val (.int .i64 0)))),kx 34 (.ld1 none (ux 33)),kx 35 (.call 55 [(ux 34)]),⟨none, none, .mup false [2] (ux 31) (ux 35) (.con (.val (.int .i64 0))), 0, false⟩,kx 36 (.mv (ux 31)),kx 8 (.mv (ux 36))])
 (.seq (.regN [1, 2, 4, 7, 8] [
 kx 37 (.build [.e0, .e0] []),kx 9 (.allocR [.e0, .e0]),⟨none, none, .st (some 9) 2 (ux 9) (ux 37), 0, false⟩])
 (.seq (.seq (.regN [1, 2, 4, 7, 8, 9] [
 kx 10 (.mv (.con (.val (.int .i64 0))))])
 (.block 0
 (.loop [1, 2, 4, 7, 8, 9, 10] t38L2)))
 (.seq (.regN [4, 9] [
 kx 100 (.ldA (some 9) 2 (ux 9)),⟨none, none, .st (some 4) 2 (ux 4) (ux 100), 0, false⟩,kx 5 (.mv (.con (.val (.int .i64 0))))])
 .ret)))))))))
def t38 : AFn := ⟨2, t38B,
 [.cell 4 2 true, .tmp 5], true⟩
/-- viewport/viewportref03.Check  -/
def t54L1 : AC := (.seq (.seq (.regN [1, 3, 4, 5] [
 kx 56 (.mv (ux 5)),kx 57 (.fldA 1 (ux 1)),kx 58 (.ld1 (some 1) (ux 57)),kx 59 (.mv (ux 4)),kx 60 (.ixA 1 (ux 58) (ux 59)),kx 61 (.ld1 none (ux 60)),kx 62 (.len false (ux 61)),kx 63 (.bini .lss (ux 56) (ux 62))])
 (.cond (ux 63)
 .skip
 (.exit 2)))
 (.seq (.block 3
 (.seq (.regD [1, 3, 4, 5] 0 [
 kx 66 (.fldA 1 (ux 1)),kx 67 (.ld1 (some 1) (ux 66)),kx 68 (.mv (ux 4)),kx 69 (.ixA 1 (ux 67) (ux 68)),kx 70 (.ld1 none (ux 69)),kx 71 (.mv (ux 5)),kx 72 (.ixA 1 (ux 70) (ux 71)),kx 73 (.ld1 none (ux 72)),kx 74 (.bini .lss (ux 73) (.con (.val (.int .i64 1)))),kx 75 (.mv (ux 74)),⟨some 76, some (75, false), .fldA 1 (ux 1), 0, false⟩,⟨some 77, some (75, false), .ld1 (some 1) (ux 76), 0, false⟩,⟨some 78, some (75, false), .mv (ux 4), 0, false⟩,⟨some 79, some (75, false), .ixA 1 (ux 77) (ux 78), 0, false⟩,⟨some 80, some (75, false), .ld1 none (ux 79), 0, false⟩,⟨some 81, some (75, false), .mv (ux 5), 0, false⟩,⟨some 82, some (75, false), .ixA 1 (ux 80) (ux 81), 0, false⟩,⟨some 83, some (75, false), .ld1 none (ux 82), 0, false⟩,⟨some 84, some (75, false), .mv (ux 3), 0, false⟩,⟨some 85, some (75, false), .bini .geq (ux 83) (ux 84), 0, false⟩,kx 86 (.pick (ux 75) (.con (.val (.bool true))) (ux 85)),kx 87 (.mv (ux 86)),⟨some 88, some (87, false), .mv (ux 5), 0, false⟩,⟨some 89, some (87, false), .bini .gtr (ux 88) (.con (.val (.int .i64 0))), 0, false⟩,⟨some 90, some (87, false), .mv (ux 89), 0, false⟩,⟨some 91, some (90, true), .fldA 1 (ux 1), 0, false⟩,⟨some 92, some (90, true), .ld1 (some 1) (ux 91), 0, false⟩,⟨some 93, some (90, true), .mv (ux 4), 0, false⟩,⟨some 94, some (90, true), .ixA 1 (ux 92) (ux 93), 0, false⟩,⟨some 95, some (90, true), .ld1 none (ux 94), 0, false⟩,⟨some 96, some (90, true), .mv (ux 5), 0, false⟩,⟨some 97, some (90, true), .bini .sub (ux 96) (.con (.val (.int .i64 1))), 0, false⟩,⟨some 98, some (90, true), .ixA 1 (ux 95) (ux 97), 0, false⟩,⟨some 99, some (90, true), .ld1 none (ux 98), 0, false⟩,⟨some 100, some (90, true), .fldA 1 (ux 1), 0, false⟩,⟨some 101, some (90, true), .ld1 (some 1) (ux 100), 0, false⟩,⟨some 102, some (90, true), .mv (ux 4), 0, false⟩,⟨some 103, some (90, true), .ixA 1 (ux 101) (ux 102), 0, false⟩,⟨some 104, some (90, true), .ld1 none (ux 103), 0, false⟩,⟨some 105, some (90, true), .mv (ux 5), 0, false⟩,⟨some 106, some (90, true), .ixA 1 (ux 104) (ux 105), 0, false⟩,⟨some 107, some (90, true), .ld1 none (ux 106), 0, false⟩,⟨some 108, some (90, true), .bini .geq (ux 99) (ux 107), 0, false⟩,⟨some 109, some (87, false), .pick (ux 90) (ux 108) (.con (.val (.bool false))), 0, false⟩,kx 110 (.pick (ux 87) (.con (.val (.bool true))) (ux 109))])
 (.cond (ux 110)
 (.seq (.regN [] [
 kx 2 (.mv (.con (.val (.int .i64 2))))])
 .ret)
 .skip)))
 (.regN [1, 3, 4, 5] [
 kx 64 (.mv (ux 5)),kx 65 (.bini .add (ux 64) (.con (.val (.int .i64 1)))),kx 5 (.mv (ux 65))])))
def t54L2 : AC := (.seq (.seq (.regN [1, 3, 4] [
 kx 37 (.mv (ux 4)),kx 38 (.mv (ux 3)),kx 39 (.bini .lss (ux 37) (ux 38))])
 (.cond (ux 39)
 .skip
 (.exit 0)))
 (.seq (.block 1
 (.seq (.seq (.regN [1, 3, 4] [
 kx 42 (.fldA 2 (ux 1)),kx 43 (.ld1 (some 1) (ux 42)),kx 44 (.mv (ux 4)),kx 45 (.ixA 1 (ux 43) (ux 44)),kx 46 (.ld1 none (ux 45)),kx 47 (.bini .lss (ux 46) (.con (.val (.int .i64 (-1))))),kx 48 (.mv (ux 47)),⟨some 49, some (48, false), .fldA 2 (ux 1), 0, false⟩,⟨some 50, some (48, false), .ld1 (some 1) (ux 49), 0, false⟩,⟨some 51, some (48, false), .mv (ux 4), 0, false⟩,⟨some 52, some (48, false), .ixA 1 (ux 50) (ux 51), 0, false⟩,⟨some 53, some (48, false), .ld1 none (ux 52), 0, false⟩,⟨some 54, some (48, false), .bini .geq (ux 53) (.con (.val (.int .i64 16))), 0, false⟩,kx 55 (.pick (ux 48) (.con (.val (.bool true))) (ux 54))])
 (.cond (ux 55)
 (.seq (.regN [] [
 kx 2 (.mv (.con (.val (.int .i64 2))))])
 .ret)
 .skip))
 (.seq (.regN [1, 3, 4] [
 kx 5 (.mv (.con (.val (.int .i64 0))))])
 (.block 2
 (.loop [1, 3, 4, 5] t54L1)))))
 (.regN [1, 3, 4] [
 kx 40 (.mv (ux 4)),kx 41 (.bini .add (ux 40) (.con (.val (.int .i64 1)))),kx 4 (.mv (ux 41))])))
def t54B : AC := (.seq (.regN [0] [
 kx 1 (.boxR 3 (ux 0)),kx 2 (.mv (.con (.val (.int .i64 0))))])
 (.seq (.regN [1] [
 kx 6 (.fldA 0 (ux 1)),kx 7 (.ld1 (some 1) (ux 6)),kx 8 (.len false (ux 7)),kx 3 (.mv (ux 8))])
 (.seq (.seq (.regN [1, 3] [
 kx 9 (.mv (ux 3)),kx 10 (.bini .lss (ux 9) (.con (.val (.int .i64 1)))),kx 11 (.mv (ux 10)),⟨some 12, some (11, false), .mv (ux 3), 0, false⟩,⟨some 13, some (11, false), .bini .gtr (ux 12) (.con (.val (.int .i64 1024))), 0, false⟩,kx 14 (.pick (ux 11) (.con (.val (.bool true))) (ux 13)),kx 15 (.mv (ux 14)),⟨some 16, some (15, false), .fldA 1 (ux 1), 0, false⟩,⟨some 17, some (15, false), .ld1 (some 1) (ux 16), 0, false⟩,⟨some 18, some (15, false), .len false (ux 17), 0, false⟩,⟨some 19, some (15, false), .mv (ux 3), 0, false⟩,⟨some 20, some (15, false), .bini .neq (ux 18) (ux 19), 0, false⟩,kx 21 (.pick (ux 15) (.con (.val (.bool true))) (ux 20)),kx 22 (.mv (ux 21)),⟨some 23, some (22, false), .fldA 2 (ux 1), 0, false⟩,⟨some 24, some (22, false), .ld1 (some 1) (ux 23), 0, false⟩,⟨some 25, some (22, false), .len false (ux 24), 0, false⟩,⟨some 26, some (22, false), .mv (ux 3), 0, false⟩,⟨some 27, some (22, false), .bini .neq (ux 25) (ux 26), 0, false⟩,kx 28 (.pick (ux 22) (.con (.val (.bool true))) (ux 27)),kx 29 (.mv (ux 28)),⟨some 30, some (29, false), .fldA 0 (ux 1), 0, false⟩,⟨some 31, some (29, false), .ld1 (some 1) (ux 30), 0, false⟩,⟨some 32, some (29, false), .ixA 4 (ux 31) (.con (.val (.int .i64 0))), 0, false⟩,⟨some 33, some (29, false), .ldA none 4 (ux 32), 0, false⟩,⟨some 34, some (29, false), .build [(.val (.int .u64 0)), (.val (.int .u64 0)), (.val (.int .u64 0)), (.val (.int .u64 0))] [], 0, false⟩,⟨some 35, some (29, false), .eqa true [1, 1, 1, 1] (ux 33) (ux 34), 0, false⟩,kx 36 (.pick (ux 29) (.con (.val (.bool true))) (ux 35))])
 (.cond (ux 36)
 (.seq (.regN [] [
 kx 2 (.mv (.con (.val (.int .i64 2))))])
 .ret)
 .skip))
 (.seq (.seq (.regN [1, 3] [
 kx 4 (.mv (.con (.val (.int .i64 0))))])
 (.block 0
 (.loop [1, 3, 4] t54L2)))
 (.seq (.regN [] [
 kx 2 (.mv (.con (.val (.int .i64 0))))])
 .ret)))))
def t54 : AFn := ⟨1, t54B,
 [.tmp 2], true⟩
/-- viewport/viewportref04.key  -/
def t55L1 : AC := (.seq (.seq (.regN [0, 3, 4] [
 kx 5 (.mv (ux 4)),kx 6 (.mv (ux 0)),kx 7 (.len false (ux 6)),kx 8 (.bini .lss (ux 5) (ux 7))])
 (.cond (ux 8)
 .skip
 (.exit 0)))
 (.seq (.block 1
 (.regD [0, 3, 4] 0 [
 kx 11 (.mv (ux 3)),kx 12 (.mv (ux 0)),kx 13 (.mv (ux 4)),kx 14 (.ixA 1 (ux 12) (ux 13)),kx 15 (.ld1 none (ux 14)),kx 16 (.bini .quo (ux 15) (.con (.val (.int .i64 256)))),kx 17 (.cvi .u8 (ux 16)),kx 18 (.mv (ux 0)),kx 19 (.mv (ux 4)),kx 20 (.ixA 1 (ux 18) (ux 19)),kx 21 (.ld1 none (ux 20)),kx 22 (.bini .rem (ux 21) (.con (.val (.int .i64 256)))),kx 23 (.cvi .u8 (ux 22)),kx 24 (.buildS 2 [(.val (.int .u8 0)), (.val (.int .u8 0))] [(0, 1, (ux 17)), (1, 1, (ux 23))]),kx 25 (.app 1 1 (ux 11) (ux 24)),kx 3 (.mv (ux 25))]))
 (.regN [0, 3, 4] [
 kx 9 (.mv (ux 4)),kx 10 (.bini .add (ux 9) (.con (.val (.int .i64 1)))),kx 4 (.mv (ux 10))])))
def t55B : AC := (.seq (.regN [0] [
 kx 2 (.mv (.con (.val (.string ⟨#[]⟩))))])
 (.seq (.regN [0] [
 kx 3 (.mv (.con .e0))])
 (.seq (.seq (.regN [0, 3] [
 kx 4 (.mv (.con (.val (.int .i64 0))))])
 (.block 0
 (.loop [0, 3, 4] t55L1)))
 (.seq (.regN [3] [
 kx 26 (.mv (ux 3)),kx 27 (.b2s (ux 26)),kx 2 (.mv (ux 27))])
 .ret))))
def t55 : AFn := ⟨1, t55B,
 [.tmp 2], true⟩
/-- viewport/viewportref03.Ends  -/
def t56L1 : AC := (.seq (.seq (.regN [1, 2, 5, 6] [
 kx 8 (.mv (ux 6)),kx 9 (.mv (ux 1)),kx 10 (.len false (ux 9)),kx 11 (.bini .lss (ux 8) (ux 10))])
 (.cond (ux 11)
 .skip
 (.exit 0)))
 (.seq (.block 1
 (.seq (.regD [1, 2, 5, 6] 0 [
 kx 14 (.mv (ux 1)),kx 15 (.mv (ux 6)),kx 16 (.ixA 1 (ux 14) (ux 15)),kx 17 (.ld1 none (ux 16)),kx 18 (.bini .geq (ux 17) (.con (.val (.int .i64 0)))),kx 19 (.mv (ux 18)),⟨some 20, some (19, true), .mv (ux 1), 0, false⟩,⟨some 21, some (19, true), .mv (ux 6), 0, false⟩,⟨some 22, some (19, true), .ixA 1 (ux 20) (ux 21), 0, false⟩,⟨some 23, some (19, true), .ld1 none (ux 22), 0, false⟩,⟨some 24, some (19, true), .fldA 2 (ux 2), 0, false⟩,⟨some 25, some (19, true), .ld1 (some 2) (ux 24), 0, false⟩,⟨some 26, some (19, true), .len false (ux 25), 0, false⟩,⟨some 27, some (19, true), .bini .lss (ux 23) (ux 26), 0, false⟩,kx 28 (.pick (ux 19) (ux 27) (.con (.val (.bool false))))])
 (.cond (ux 28)
 (.seq (.regD [1, 2, 5, 6] 0 [
 kx 29 (.fldA 2 (ux 2)),kx 30 (.ld1 (some 2) (ux 29)),kx 31 (.mv (ux 1)),kx 32 (.mv (ux 6)),kx 33 (.ixA 1 (ux 31) (ux 32)),kx 34 (.ld1 none (ux 33)),kx 35 (.ixA 1 (ux 30) (ux 34)),kx 36 (.ld1 none (ux 35)),kx 7 (.mv (ux 36))])
 (.seq (.regN [1, 2, 5, 6, 7] [
 kx 37 (.mv (ux 7)),kx 38 (.bini .geq (ux 37) (.con (.val (.int .i64 0)))),kx 39 (.mv (ux 38)),⟨some 40, some (39, true), .mv (ux 5), 0, false⟩,⟨some 41, some (39, true), .bini .lss (ux 40) (.con (.val (.int .i64 0))), 0, false⟩,⟨some 42, some (39, true), .mv (ux 41), 0, false⟩,⟨some 43, some (42, false), .mv (ux 7), 0, false⟩,⟨some 44, some (42, false), .mv (ux 5), 0, false⟩,⟨some 45, some (42, false), .bini .lss (ux 43) (ux 44), 0, false⟩,⟨some 46, some (39, true), .pick (ux 42) (.con (.val (.bool true))) (ux 45), 0, false⟩,kx 47 (.pick (ux 39) (ux 46) (.con (.val (.bool false))))])
 (.cond (ux 47)
 (.regN [1, 2, 6, 7] [
 kx 48 (.mv (ux 7)),kx 5 (.mv (ux 48))])
 .skip)))
 .skip)))
 (.regN [1, 2, 5, 6] [
 kx 12 (.mv (ux 6)),kx 13 (.bini .add (ux 12) (.con (.val (.int .i64 1)))),kx 6 (.mv (ux 13))])))
def t56B : AC := (.seq (.regN [0, 1] [
 kx 2 (.boxR 3 (ux 0)),kx 4 (.mv (.con (.val (.int .i64 0))))])
 (.seq (.regN [1, 2] [
 kx 5 (.mv (.con (.val (.int .i64 (-1)))))])
 (.seq (.seq (.regN [1, 2, 5] [
 kx 6 (.mv (.con (.val (.int .i64 0))))])
 (.block 0
 (.loop [1, 2, 5, 6] t56L1)))
 (.seq (.regN [5] [
 kx 49 (.mv (ux 5)),kx 4 (.mv (ux 49))])
 .ret))))
def t56 : AFn := ⟨2, t56B,
 [.tmp 4], true⟩
/-- viewport/viewportref03.Go  -/
def t57L1 : AC := (.seq (.seq (.regN [1, 2, 3, 7, 8, 9, 10] [
 ⟨some 46, none, .mv (.tmp 10), 0, false⟩,⟨some 47, none, .mv (.tmp 9), 0, false⟩,⟨some 48, none, .len false (.tmp 47), 0, false⟩,⟨some 49, none, .bini .lss (.tmp 46) (.tmp 48), 0, false⟩])
 (.cond (.tmp 49)
 .skip
 (.exit 2)))
 (.seq (.block 3
 (.seq (.regD [1, 2, 3, 7, 8, 9, 10] 0 [
 ⟨some 52, none, .fldA 0 (.tmp 3), 0, false⟩,⟨some 53, none, .ld1 (some 3) (.tmp 52), 0, false⟩,⟨some 54, none, .mv (.tmp 9), 0, false⟩,⟨some 55, none, .mv (.tmp 10), 0, false⟩,⟨some 56, none, .ixA 1 (.tmp 54) (.tmp 55), 0, false⟩,⟨some 57, none, .ld1 none (.tmp 56), 0, false⟩,⟨some 58, none, .ixA 4 (.tmp 53) (.tmp 57), 0, false⟩,⟨some 59, none, .ldA none 4 (.tmp 58), 0, false⟩,⟨some 60, none, .mv (.tmp 2), 0, false⟩,⟨some 61, none, .call 65 [(.tmp 59), (.tmp 60)], 0, true⟩])
 (.cond (.tmp 61)
 (.regN [1, 2, 3, 7, 8, 9, 10] [
 ⟨some 62, none, .mv (.tmp 7), 0, false⟩,⟨some 63, none, .mv (.tmp 9), 0, false⟩,⟨some 64, none, .mv (.tmp 10), 0, false⟩,⟨some 65, none, .ixA 1 (.tmp 63) (.tmp 64), 0, false⟩,⟨some 66, none, .ld1 none (.tmp 65), 0, false⟩,⟨some 67, none, .ixA 1 (.tmp 62) (.tmp 66), 0, false⟩,⟨none, none, .st none 1 (.tmp 67) (.con (.val (.bool true))), 0, false⟩])
 .skip)))
 (.regN [1, 2, 3, 7, 8, 9, 10] [
 ⟨some 50, none, .mv (.tmp 10), 0, false⟩,⟨some 51, none, .bini .add (.tmp 50) (.con (.val (.int .i64 1))), 0, false⟩,⟨some 10, none, .mv (.tmp 51), 0, false⟩])))
def t57L2 : AC := (.seq (.seq (.regN [1, 2, 3, 7, 8] [
 ⟨some 17, none, .mv (.tmp 8), 0, false⟩,⟨some 18, none, .mv (.tmp 1), 0, false⟩,⟨some 19, none, .len false (.tmp 18), 0, false⟩,⟨some 20, none, .bini .lss (.tmp 17) (.tmp 19), 0, false⟩])
 (.cond (.tmp 20)
 .skip
 (.exit 0)))
 (.seq (.block 1
 (.seq (.seq (.regD [1, 2, 3, 7, 8] 0 [
 ⟨some 23, none, .mv (.tmp 1), 0, false⟩,⟨some 24, none, .mv (.tmp 8), 0, false⟩,⟨some 25, none, .ixA 1 (.tmp 23) (.tmp 24), 0, false⟩,⟨some 26, none, .ld1 none (.tmp 25), 0, false⟩,⟨some 27, none, .bini .lss (.tmp 26) (.con (.val (.int .i64 0))), 0, false⟩,⟨some 28, none, .mv (.tmp 27), 0, false⟩,⟨some 29, some (28, false), .mv (.tmp 1), 0, false⟩,⟨some 30, some (28, false), .mv (.tmp 8), 0, false⟩,⟨some 31, some (28, false), .ixA 1 (.tmp 29) (.tmp 30), 0, false⟩,⟨some 32, some (28, false), .ld1 none (.tmp 31), 0, false⟩,⟨some 33, some (28, false), .fldA 0 (.tmp 3), 0, false⟩,⟨some 34, some (28, false), .ld1 (some 3) (.tmp 33), 0, false⟩,⟨some 35, some (28, false), .len false (.tmp 34), 0, false⟩,⟨some 36, some (28, false), .bini .geq (.tmp 32) (.tmp 35), 0, false⟩,⟨some 37, none, .pick (.tmp 28) (.con (.val (.bool true))) (.tmp 36), 0, false⟩])
 (.cond (.tmp 37)
 (.exit 1)
 .skip))
 (.seq (.regD [1, 2, 3, 7, 8] 0 [
 ⟨some 38, none, .fldA 1 (.tmp 3), 0, false⟩,⟨some 39, none, .ld1 (some 3) (.tmp 38), 0, false⟩,⟨some 40, none, .mv (.tmp 1), 0, false⟩,⟨some 41, none, .mv (.tmp 8), 0, false⟩,⟨some 42, none, .ixA 1 (.tmp 40) (.tmp 41), 0, false⟩,⟨some 43, none, .ld1 none (.tmp 42), 0, false⟩,⟨some 44, none, .ixA 1 (.tmp 39) (.tmp 43), 0, false⟩,⟨some 45, none, .ld1 none (.tmp 44), 0, false⟩,⟨some 9, none, .mv (.tmp 45), 0, false⟩])
 (.seq (.regN [1, 2, 3, 7, 8, 9] [
 ⟨some 10, none, .mv (.con (.val (.int .i64 0))), 0, false⟩])
 (.block 2
 (.loop [1, 2, 3, 7, 8, 9, 10] t57L1))))))
 (.regN [1, 2, 3, 7, 8] [
 ⟨some 21, none, .mv (.tmp 8), 0, false⟩,⟨some 22, none, .bini .add (.tmp 21) (.con (.val (.int .i64 1))), 0, false⟩,⟨some 8, none, .mv (.tmp 22), 0, false⟩])))
def t57L3 : AC := (.seq (.seq (.regN [7, 11, 12] [
 ⟨some 68, none, .mv (.tmp 12), 0, false⟩,⟨some 69, none, .mv (.tmp 7), 0, false⟩,⟨some 70, none, .len false (.tmp 69), 0, false⟩,⟨some 71, none, .bini .lss (.tmp 68) (.tmp 70), 0, false⟩])
 (.cond (.tmp 71)
 .skip
 (.exit 4)))
 (.seq (.block 5
 (.seq (.regN [7, 11, 12] [
 ⟨some 74, none, .mv (.tmp 7), 0, false⟩,⟨some 75, none, .mv (.tmp 12), 0, false⟩,⟨some 76, none, .ixA 1 (.tmp 74) (.tmp 75), 0, false⟩,⟨some 77, none, .ld1 none (.tmp 76), 0, false⟩])
 (.cond (.tmp 77)
 (.regN [7, 11, 12] [
 ⟨some 78, none, .mv (.tmp 11), 0, false⟩,⟨some 79, none, .mv (.tmp 12), 0, false⟩,⟨some 80, none, .buildS 1 [(.val (.int .i64 0))] [(0, 1, (.tmp 79))], 0, false⟩,⟨some 81, none, .app 1 8 (.tmp 78) (.tmp 80), 0, false⟩,⟨some 11, none, .mv (.tmp 81), 0, false⟩])
 .skip)))
 (.regN [7, 11, 12] [
 ⟨some 72, none, .mv (.tmp 12), 0, false⟩,⟨some 73, none, .bini .add (.tmp 72) (.con (.val (.int .i64 1))), 0, false⟩,⟨some 12, none, .mv (.tmp 73), 0, false⟩])))
def t57B : AC := (.seq (.regN [0, 1, 2] [
 ⟨some 3, none, .boxR 3 (.tmp 0), 0, false⟩,⟨some 6, none, .mv (.con .e0), 0, false⟩])
 (.seq (.regN [1, 2, 3] [
 ⟨some 13, none, .fldA 0 (.tmp 3), 0, false⟩,⟨some 14, none, .ld1 (some 3) (.tmp 13), 0, false⟩,⟨some 15, none, .len false (.tmp 14), 0, false⟩,⟨some 16, none, .mks 1 1 [(.val (.bool false))] (.tmp 15), 0, false⟩,⟨some 7, none, .mv (.tmp 16), 0, false⟩])
 (.seq (.seq (.regN [1, 2, 3, 7] [
 ⟨some 8, none, .mv (.con (.val (.int .i64 0))), 0, false⟩])
 (.block 0
 (.loop [1, 2, 3, 7, 8] t57L2)))
 (.seq (.regN [7] [
 ⟨some 11, none, .mv (.con .e0), 0, false⟩])
 (.seq (.seq (.regN [7, 11] [
 ⟨some 12, none, .mv (.con (.val (.int .i64 0))), 0, false⟩])
 (.block 4
 (.loop [7, 11, 12] t57L3)))
 (.seq (.regN [11] [
 ⟨some 82, none, .mv (.tmp 11), 0, false⟩,⟨some 6, none, .mv (.tmp 82), 0, false⟩])
 .ret))))))
def t57 : AFn := ⟨3, t57B,
 [.tmp 6], true⟩
/-- viewport/viewportref01.Has  -/
def t65B : AC := (.seq (.regN [0, 1] [
 ⟨some 2, none, .boxR 4 (.tmp 0), 0, false⟩,⟨some 4, none, .mv (.con (.val (.bool false))), 0, false⟩])
 (.seq (.regN [1, 2] [
 ⟨some 5, none, .mv (.tmp 1), 0, false⟩,⟨some 6, none, .bini .quo (.tmp 5) (.con (.val (.int .u8 64))), 0, false⟩,⟨some 7, none, .ixR 4 1 (.tmp 2) (.tmp 6), 0, false⟩,⟨some 8, none, .ld1 (some 2) (.tmp 7), 0, false⟩,⟨some 9, none, .mv (.tmp 1), 0, false⟩,⟨some 10, none, .bini .rem (.tmp 9) (.con (.val (.int .u8 64))), 0, false⟩,⟨some 11, none, .cvi .u64 (.tmp 10), 0, false⟩,⟨some 12, none, .bini .shr (.tmp 8) (.tmp 11), 0, false⟩,⟨some 13, none, .bini .and (.tmp 12) (.con (.val (.int .u64 1))), 0, false⟩,⟨some 14, none, .bini .eql (.tmp 13) (.con (.val (.int .u64 1))), 0, false⟩,⟨some 4, none, .mv (.tmp 14), 0, false⟩])
 .ret))
def t65 : AFn := ⟨2, t65B,
 [.tmp 4], true⟩
/-- viewport/least.Least  -/
def t12L1 : AC := (.seq (.regN [1, 2, 5, 6, 7, 8, 9, 56, 57, 58] [
 ⟨some 59, none, .bini .lss (.tmp 58) (.tmp 57), 0, false⟩])
 (.seq (.cond (.tmp 59)
 .skip
 (.exit 2))
 (.seq (.block 3
 (.seq (.regN [1, 2, 5, 6, 7, 8, 9, 56, 57, 58] [
 ⟨some 60, none, .ixA 1 (.tmp 56) (.tmp 58), 0, false⟩,⟨some 61, none, .ld1 none (.tmp 60), 0, false⟩,⟨some 12, none, .mv (.tmp 61), 0, false⟩])
 (.seq (.seq (.regN [1, 2, 5, 6, 7, 8, 9, 12, 56, 57, 58] [
 ⟨some 62, none, .mv (.tmp 12), 0, false⟩,⟨some 63, none, .bini .lss (.tmp 62) (.con (.val (.int .i64 0))), 0, false⟩,⟨some 64, none, .mv (.tmp 63), 0, false⟩,⟨some 65, some (64, false), .mv (.tmp 5), 0, false⟩,⟨some 66, some (64, false), .mv (.tmp 12), 0, false⟩,⟨some 67, some (64, false), .ixA 1 (.tmp 65) (.tmp 66), 0, false⟩,⟨some 68, some (64, false), .ld1 none (.tmp 67), 0, false⟩,⟨some 69, some (64, false), .bini .lss (.tmp 68) (.con (.val (.int .i64 0))), 0, false⟩,⟨some 70, none, .pick (.tmp 64) (.con (.val (.bool true))) (.tmp 69), 0, false⟩])
 (.cond (.tmp 70)
 (.seq (.regN [1, 2, 5, 6, 7, 8, 9, 56, 57, 58] [
 ⟨some 71, none, .fldA 0 (.tmp 8), 0, false⟩,⟨some 72, none, .ld1 (some 8) (.tmp 71), 0, false⟩,⟨some 73, none, .buildS 1 [(.val (.int .i64 0))] [(0, 1, (.con (.val (.int .i64 (-1)))))], 0, false⟩,⟨some 74, none, .app 1 8 (.tmp 72) (.tmp 73), 0, false⟩,⟨some 75, none, .fldA 0 (.tmp 8), 0, false⟩,⟨none, none, .st (some 8) 1 (.tmp 75) (.tmp 74), 0, false⟩])
 (.exit 3))
 .skip))
 (.seq (.regN [1, 2, 5, 6, 7, 8, 9, 12, 56, 57, 58] [
 ⟨some 77, none, .mv (.tmp 7), 0, false⟩,⟨some 78, none, .mv (.tmp 5), 0, false⟩,⟨some 79, none, .mv (.tmp 12), 0, false⟩,⟨some 80, none, .ixA 1 (.tmp 78) (.tmp 79), 0, false⟩,⟨some 81, none, .ld1 none (.tmp 80), 0, false⟩,⟨some 82, none, .mlk false [1] (.val (.int .i64 0)) true (.tmp 77) (.tmp 81), 0, false⟩,⟨some 76, none, .mv (.tmp 82), 0, false⟩,⟨some 83, none, .ext (.tmp 76) 0, 0, false⟩,⟨some 84, none, .ext (.tmp 76) 1, 0, false⟩,⟨some 13, none, .mv (.tmp 83), 0, false⟩,⟨some 14, none, .mv (.tmp 84), 0, false⟩])
 (.seq (.seq (.regN [1, 2, 5, 6, 7, 8, 9, 12, 13, 14, 56, 57, 58] [
 ⟨some 85, none, .mv (.tmp 14), 0, false⟩,⟨some 86, none, .not (.tmp 85), 0, false⟩])
 (.cond (.tmp 86)
 (.seq (.regN [1, 2, 5, 6, 7, 8, 9, 12, 56, 57, 58] [
 ⟨some 87, none, .mv (.tmp 6), 0, false⟩,⟨some 88, none, .len false (.tmp 87), 0, false⟩,⟨some 13, none, .mv (.tmp 88), 0, false⟩])
 (.seq (.regN [1, 2, 5, 6, 7, 8, 9, 12, 13, 56, 57, 58] [
 ⟨some 89, none, .mv (.tmp 7), 0, false⟩,⟨some 90, none, .mv (.tmp 5), 0, false⟩,⟨some 91, none, .mv (.tmp 12), 0, false⟩,⟨some 92, none, .ixA 1 (.tmp 90) (.tmp 91), 0, false⟩,⟨some 93, none, .ld1 none (.tmp 92), 0, false⟩,⟨some 94, none, .mv (.tmp 13), 0, false⟩,⟨none, none, .mup false [1] (.tmp 89) (.tmp 93) (.tmp 94), 0, false⟩])
 (.regN [1, 2, 5, 6, 7, 8, 9, 12, 13, 56, 57, 58] [
 ⟨some 95, none, .mv (.tmp 6), 0, false⟩,⟨some 96, none, .mv (.tmp 12), 0, false⟩,⟨some 97, none, .buildS 1 [(.val (.int .i64 0))] [(0, 1, (.tmp 96))], 0, false⟩,⟨some 98, none, .app 1 8 (.tmp 95) (.tmp 97), 0, false⟩,⟨some 6, none, .mv (.tmp 98), 0, false⟩])))
 .skip))
 (.regN [1, 2, 5, 6, 7, 8, 9, 13, 56, 57, 58] [
 ⟨some 99, none, .fldA 0 (.tmp 8), 0, false⟩,⟨some 100, none, .ld1 (some 8) (.tmp 99), 0, false⟩,⟨some 101, none, .mv (.tmp 13), 0, false⟩,⟨some 102, none, .buildS 1 [(.val (.int .i64 0))] [(0, 1, (.tmp 101))], 0, false⟩,⟨some 103, none, .app 1 8 (.tmp 100) (.tmp 102), 0, false⟩,⟨some 104, none, .fldA 0 (.tmp 8), 0, false⟩,⟨none, none, .st (some 8) 1 (.tmp 104) (.tmp 103), 0, false⟩]))))))
 (.regN [1, 2, 5, 6, 7, 8, 9, 56, 57, 58] [
 ⟨some 105, none, .bini .add (.tmp 58) (.con (.val (.int .i64 1))), 0, false⟩,⟨some 58, none, .mv (.tmp 105), 0, false⟩]))))
def t12L2 : AC := (.seq (.seq (.regN [1, 2, 5, 6, 7, 8, 9] [
 ⟨some 29, none, .mv (.tmp 9), 0, false⟩,⟨some 30, none, .mv (.tmp 6), 0, false⟩,⟨some 31, none, .len false (.tmp 30), 0, false⟩,⟨some 32, none, .bini .lss (.tmp 29) (.tmp 31), 0, false⟩])
 (.cond (.tmp 32)
 .skip
 (.exit 0)))
 (.seq (.block 1
 (.seq (.regN [1, 2, 5, 6, 7, 8, 9] [
 ⟨some 35, none, .mv (.tmp 6), 0, false⟩,⟨some 36, none, .mv (.tmp 9), 0, false⟩,⟨some 37, none, .ixA 1 (.tmp 35) (.tmp 36), 0, false⟩,⟨some 38, none, .ld1 none (.tmp 37), 0, false⟩,⟨some 10, none, .mv (.tmp 38), 0, false⟩])
 (.seq (.regD [1, 2, 5, 6, 7, 8, 9, 10] 0 [
 ⟨some 39, none, .fldA 1 (.tmp 8), 0, false⟩,⟨some 40, none, .ld1 (some 8) (.tmp 39), 0, false⟩,⟨some 41, none, .fldA 1 (.tmp 1), 0, false⟩,⟨some 42, none, .ld1 (some 1) (.tmp 41), 0, false⟩,⟨some 43, none, .mv (.tmp 10), 0, false⟩,⟨some 44, none, .ixA 1 (.tmp 42) (.tmp 43), 0, false⟩,⟨some 45, none, .ld1 none (.tmp 44), 0, false⟩,⟨some 46, none, .buildS 1 [(.val (.int .i64 0))] [(0, 1, (.tmp 45))], 0, false⟩,⟨some 47, none, .app 1 8 (.tmp 40) (.tmp 46), 0, false⟩,⟨some 48, none, .fldA 1 (.tmp 8), 0, false⟩,⟨none, none, .st (some 8) 1 (.tmp 48) (.tmp 47), 0, false⟩])
 (.seq (.regN [1, 2, 5, 6, 7, 8, 9, 10] [
 ⟨some 49, none, .fldA 0 (.tmp 1), 0, false⟩,⟨some 50, none, .ld1 (some 1) (.tmp 49), 0, false⟩,⟨some 51, none, .mv (.tmp 10), 0, false⟩,⟨some 52, none, .bini .mul (.con (.val (.int .i64 256))) (.tmp 51), 0, false⟩,⟨some 53, none, .mv (.tmp 10), 0, false⟩,⟨some 54, none, .bini .add (.tmp 53) (.con (.val (.int .i64 1))), 0, false⟩,⟨some 55, none, .bini .mul (.con (.val (.int .i64 256))) (.tmp 54), 0, false⟩,⟨some 56, none, .slC 1 (.tmp 50) (some (.tmp 52)) (some (.tmp 55)), 0, false⟩,⟨some 57, none, .len false (.tmp 56), 0, false⟩,⟨some 58, none, .mv (.con (.val (.int .i64 0))), 0, false⟩])
 (.block 2
 (.loop [1, 2, 5, 6, 7, 8, 9, 56, 57, 58] t12L1))))))
 (.regN [1, 2, 5, 6, 7, 8, 9] [
 ⟨some 33, none, .mv (.tmp 9), 0, false⟩,⟨some 34, none, .bini .add (.tmp 33) (.con (.val (.int .i64 1))), 0, false⟩,⟨some 9, none, .mv (.tmp 34), 0, false⟩])))
def t12B : AC := (.seq (.regN [0] [
 ⟨some 1, none, .boxR 2 (.tmp 0), 0, false⟩,⟨some 2, none, .allocR [.e0, .e0], 0, false⟩,⟨some 3, none, .mv (.con (.val (.int .i64 0))), 0, false⟩])
 (.seq (.seq (.regN [1, 2] [
 ⟨some 15, none, .ldA (some 1) 2 (.tmp 1), 0, false⟩,⟨some 16, none, .call 27 [(.tmp 15)], 0, false⟩,⟨some 4, none, .mv (.tmp 16), 0, false⟩])
 (.seq (.regN [1, 2, 4] [
 ⟨some 17, none, .mv (.tmp 4), 0, false⟩,⟨some 18, none, .bini .neq (.tmp 17) (.con (.val (.int .i64 0))), 0, false⟩])
 (.cond (.tmp 18)
 (.seq (.regN [2, 4] [
 ⟨some 19, none, .build [.e0, .e0] [], 0, false⟩,⟨some 20, none, .mv (.tmp 4), 0, false⟩,⟨none, none, .st (some 2) 2 (.tmp 2) (.tmp 19), 0, false⟩,⟨some 3, none, .mv (.tmp 20), 0, false⟩])
 .ret)
 .skip)))
 (.seq (.regN [1, 2] [
 ⟨some 21, none, .ldA (some 1) 2 (.tmp 1), 0, false⟩,⟨some 22, none, .call 28 [(.tmp 21)], 0, false⟩,⟨some 5, none, .mv (.tmp 22), 0, false⟩])
 (.seq (.regD [1, 2, 5] 2 [
 ⟨some 23, none, .buildH 1 1 [(.val (.int .i64 0))] [(0, 1, (.con (.val (.int .i64 0))))], 0, false⟩,⟨some 24, none, .mkm, 1, false⟩,⟨some 25, none, .mv (.tmp 5), 0, false⟩,⟨some 26, none, .ixA 1 (.tmp 25) (.con (.val (.int .i64 0))), 0, false⟩,⟨some 27, none, .ld1 none (.tmp 26), 0, false⟩,⟨none, none, .mup false [1] (.tmp 24) (.tmp 27) (.con (.val (.int .i64 0))), 0, false⟩,⟨some 28, none, .mv (.tmp 24), 0, false⟩,⟨some 6, none, .mv (.tmp 23), 0, false⟩,⟨some 7, none, .mv (.tmp 28), 0, false⟩])
 (.seq (.regN [1, 2, 5, 6, 7] [
 ⟨some 8, none, .allocR [.e0, .e0], 0, false⟩])
 (.seq (.seq (.regN [1, 2, 5, 6, 7, 8] [
 ⟨some 9, none, .mv (.con (.val (.int .i64 0))), 0, false⟩])
 (.block 0
 (.loop [1, 2, 5, 6, 7, 8, 9] t12L2)))
 (.seq (.regN [2, 8] [
 ⟨some 106, none, .ldA (some 8) 2 (.tmp 8), 0, false⟩,⟨none, none, .st (some 2) 2 (.tmp 2) (.tmp 106), 0, false⟩,⟨some 3, none, .mv (.con (.val (.int .i64 0))), 0, false⟩])
 .ret)))))))
def t12 : AFn := ⟨1, t12B,
 [.cell 2 2 true, .tmp 3], true⟩
/-- viewport/dfa.Check  -/
def t27B : AC := (.seq (.regN [0] [
 ⟨some 1, none, .boxR 2 (.tmp 0), 0, false⟩,⟨some 2, none, .mv (.con (.val (.int .i64 0))), 0, false⟩])
 (.seq (.regN [1] [
 ⟨some 4, none, .fldA 1 (.tmp 1), 0, false⟩,⟨some 5, none, .ld1 (some 1) (.tmp 4), 0, false⟩,⟨some 6, none, .len false (.tmp 5), 0, false⟩,⟨some 3, none, .mv (.tmp 6), 0, false⟩])
 (.seq (.seq (.regN [1, 3] [
 ⟨some 7, none, .mv (.tmp 3), 0, false⟩,⟨some 8, none, .bini .lss (.tmp 7) (.con (.val (.int .i64 1))), 0, false⟩,⟨some 9, none, .mv (.tmp 8), 0, false⟩,⟨some 10, some (9, false), .mv (.tmp 3), 0, false⟩,⟨some 11, some (9, false), .bini .gtr (.tmp 10) (.con (.val (.int .i64 512))), 0, false⟩,⟨some 12, none, .pick (.tmp 9) (.con (.val (.bool true))) (.tmp 11), 0, false⟩,⟨some 13, none, .mv (.tmp 12), 0, false⟩,⟨some 14, some (13, false), .fldA 0 (.tmp 1), 0, false⟩,⟨some 15, some (13, false), .ld1 (some 1) (.tmp 14), 0, false⟩,⟨some 16, some (13, false), .len false (.tmp 15), 0, false⟩,⟨some 17, some (13, false), .mv (.tmp 3), 0, false⟩,⟨some 18, some (13, false), .bini .mul (.con (.val (.int .i64 256))) (.tmp 17), 0, false⟩,⟨some 19, some (13, false), .bini .neq (.tmp 16) (.tmp 18), 0, false⟩,⟨some 20, none, .pick (.tmp 13) (.con (.val (.bool true))) (.tmp 19), 0, false⟩])
 (.cond (.tmp 20)
 (.seq (.regN [] [
 ⟨some 2, none, .mv (.con (.val (.int .i64 2))), 0, false⟩])
 .ret)
 .skip))
 (.seq (.seq (.regN [1, 3] [
 ⟨some 21, none, .fldA 1 (.tmp 1), 0, false⟩,⟨some 22, none, .ld1 (some 1) (.tmp 21), 0, false⟩,⟨some 23, none, .call 43 [(.tmp 22)], 0, false⟩,⟨some 24, none, .bini .lss (.tmp 23) (.con (.val (.int .i64 (-1)))), 0, false⟩,⟨some 25, none, .mv (.tmp 24), 0, false⟩,⟨some 26, some (25, false), .fldA 1 (.tmp 1), 0, false⟩,⟨some 27, some (25, false), .ld1 (some 1) (.tmp 26), 0, false⟩,⟨some 28, some (25, false), .call 44 [(.tmp 27)], 0, false⟩,⟨some 29, some (25, false), .bini .geq (.tmp 28) (.con (.val (.int .i64 16))), 0, false⟩,⟨some 30, none, .pick (.tmp 25) (.con (.val (.bool true))) (.tmp 29), 0, false⟩,⟨some 31, none, .mv (.tmp 30), 0, false⟩,⟨some 32, some (31, false), .fldA 0 (.tmp 1), 0, false⟩,⟨some 33, some (31, false), .ld1 (some 1) (.tmp 32), 0, false⟩,⟨some 34, some (31, false), .call 43 [(.tmp 33)], 0, false⟩,⟨some 35, some (31, false), .bini .lss (.tmp 34) (.con (.val (.int .i64 (-1)))), 0, false⟩,⟨some 36, none, .pick (.tmp 31) (.con (.val (.bool true))) (.tmp 35), 0, false⟩,⟨some 37, none, .mv (.tmp 36), 0, false⟩,⟨some 38, some (37, false), .fldA 0 (.tmp 1), 0, false⟩,⟨some 39, some (37, false), .ld1 (some 1) (.tmp 38), 0, false⟩,⟨some 40, some (37, false), .call 44 [(.tmp 39)], 0, false⟩,⟨some 41, some (37, false), .mv (.tmp 3), 0, false⟩,⟨some 42, some (37, false), .bini .geq (.tmp 40) (.tmp 41), 0, false⟩,⟨some 43, none, .pick (.tmp 37) (.con (.val (.bool true))) (.tmp 42), 0, false⟩])
 (.cond (.tmp 43)
 (.seq (.regN [] [
 ⟨some 2, none, .mv (.con (.val (.int .i64 2))), 0, false⟩])
 .ret)
 .skip))
 (.seq (.regN [] [
 ⟨some 2, none, .mv (.con (.val (.int .i64 0))), 0, false⟩])
 .ret)))))
def t27 : AFn := ⟨1, t27B,
 [.tmp 2], true⟩
/-- slices.Min[[]int,int] BAD -/
def t43L1 : AC := (.seq (.seq (.regN [0, 3, 4] [
 ⟨some 12, none, .mv (.tmp 4), 0, false⟩,⟨some 13, none, .mv (.tmp 0), 0, false⟩,⟨some 14, none, .len false (.tmp 13), 0, false⟩,⟨some 15, none, .bini .lss (.tmp 12) (.tmp 14), 0, false⟩])
 (.cond (.tmp 15)
 .skip
 (.exit 0)))
 (.seq (.block 1
 (.regN [0, 3, 4] [
 ⟨some 18, none, .mv (.tmp 3), 0, false⟩,⟨some 19, none, .mv (.tmp 0), 0, false⟩,⟨some 20, none, .mv (.tmp 4), 0, false⟩,⟨some 21, none, .ixA 1 (.tmp 19) (.tmp 20), 0, false⟩,⟨some 22, none, .ld1 none (.tmp 21), 0, false⟩,⟨some 23, none, .mm false [(.tmp 18), (.tmp 22)], 0, false⟩,⟨some 3, none, .mv (.tmp 23), 0, false⟩]))
 (.regN [0, 3, 4] [
 ⟨some 16, none, .mv (.tmp 4), 0, false⟩,⟨some 17, none, .bini .add (.tmp 16) (.con (.val (.int .i64 1))), 0, false⟩,⟨some 4, none, .mv (.tmp 17), 0, false⟩])))
def t43B : AC := (.seq (.regN [0] [
 ⟨some 2, none, .mv (.con (.val (.int .i64 0))), 0, false⟩])
 (.seq (.seq (.regN [0] [
 ⟨some 5, none, .mv (.tmp 0), 0, false⟩,⟨some 6, none, .len false (.tmp 5), 0, false⟩,⟨some 7, none, .bini .lss (.tmp 6) (.con (.val (.int .i64 1))), 0, false⟩])
 (.cond (.tmp 7)
 (.regN [0] [
 ⟨some 8, none, .bad, 0, false⟩,⟨none, none, .bad, 0, false⟩])
 .skip))
 (.seq (.regN [0] [
 ⟨some 9, none, .mv (.tmp 0), 0, false⟩,⟨some 10, none, .ixA 1 (.tmp 9) (.con (.val (.int .i64 0))), 0, false⟩,⟨some 11, none, .ld1 none (.tmp 10), 0, false⟩,⟨some 3, none, .mv (.tmp 11), 0, false⟩])
 (.seq (.seq (.regN [0, 3] [
 ⟨some 4, none, .mv (.con (.val (.int .i64 1))), 0, false⟩])
 (.block 0
 (.loop [0, 3, 4] t43L1)))
 (.seq (.regN [3] [
 ⟨some 24, none, .mv (.tmp 3), 0, false⟩,⟨some 2, none, .mv (.tmp 24), 0, false⟩])
 .ret)))))
def t43 : AFn := ⟨1, t43B,
 [.tmp 2], true⟩
/-- slices.Max[[]int,int] BAD -/
def t44L1 : AC := (.seq (.seq (.regN [0, 3, 4] [
 ⟨some 12, none, .mv (.tmp 4), 0, false⟩,⟨some 13, none, .mv (.tmp 0), 0, false⟩,⟨some 14, none, .len false (.tmp 13), 0, false⟩,⟨some 15, none, .bini .lss (.tmp 12) (.tmp 14), 0, false⟩])
 (.cond (.tmp 15)
 .skip
 (.exit 0)))
 (.seq (.block 1
 (.regN [0, 3, 4] [
 ⟨some 18, none, .mv (.tmp 3), 0, false⟩,⟨some 19, none, .mv (.tmp 0), 0, false⟩,⟨some 20, none, .mv (.tmp 4), 0, false⟩,⟨some 21, none, .ixA 1 (.tmp 19) (.tmp 20), 0, false⟩,⟨some 22, none, .ld1 none (.tmp 21), 0, false⟩,⟨some 23, none, .mm true [(.tmp 18), (.tmp 22)], 0, false⟩,⟨some 3, none, .mv (.tmp 23), 0, false⟩]))
 (.regN [0, 3, 4] [
 ⟨some 16, none, .mv (.tmp 4), 0, false⟩,⟨some 17, none, .bini .add (.tmp 16) (.con (.val (.int .i64 1))), 0, false⟩,⟨some 4, none, .mv (.tmp 17), 0, false⟩])))
def t44B : AC := (.seq (.regN [0] [
 ⟨some 2, none, .mv (.con (.val (.int .i64 0))), 0, false⟩])
 (.seq (.seq (.regN [0] [
 ⟨some 5, none, .mv (.tmp 0), 0, false⟩,⟨some 6, none, .len false (.tmp 5), 0, false⟩,⟨some 7, none, .bini .lss (.tmp 6) (.con (.val (.int .i64 1))), 0, false⟩])
 (.cond (.tmp 7)
 (.regN [0] [
 ⟨some 8, none, .bad, 0, false⟩,⟨none, none, .bad, 0, false⟩])
 .skip))
 (.seq (.regN [0] [
 ⟨some 9, none, .mv (.tmp 0), 0, false⟩,⟨some 10, none, .ixA 1 (.tmp 9) (.con (.val (.int .i64 0))), 0, false⟩,⟨some 11, none, .ld1 none (.tmp 10), 0, false⟩,⟨some 3, none, .mv (.tmp 11), 0, false⟩])
 (.seq (.seq (.regN [0, 3] [
 ⟨some 4, none, .mv (.con (.val (.int .i64 1))), 0, false⟩])
 (.block 0
 (.loop [0, 3, 4] t44L1)))
 (.seq (.regN [3] [
 ⟨some 24, none, .mv (.tmp 3), 0, false⟩,⟨some 2, none, .mv (.tmp 24), 0, false⟩])
 .ret)))))
def t44 : AFn := ⟨1, t44B,
 [.tmp 2], true⟩
/-- viewport/least.parts  -/
def t28L1 : AC := (.seq (.regN [1, 3, 4, 23, 24, 25] [
 ⟨some 26, none, .bini .lss (.tmp 25) (.tmp 24), 0, false⟩])
 (.seq (.cond (.tmp 26)
 .skip
 (.exit 0))
 (.seq (.block 1
 (.seq (.regN [1, 3, 4, 23, 24, 25] [
 ⟨some 27, none, .mv (.tmp 25), 0, false⟩,⟨some 28, none, .ixA 1 (.tmp 23) (.tmp 25), 0, false⟩,⟨some 29, none, .ld1 none (.tmp 28), 0, false⟩,⟨some 5, none, .mv (.tmp 27), 0, false⟩,⟨some 6, none, .mv (.tmp 29), 0, false⟩])
 (.seq (.regN [1, 3, 4, 5, 6, 23, 24, 25] [
 ⟨some 30, none, .mv (.tmp 4), 0, false⟩,⟨some 31, none, .mv (.tmp 5), 0, false⟩,⟨some 32, none, .mv (.tmp 6), 0, false⟩,⟨some 33, none, .bini .add (.tmp 32) (.con (.val (.int .i64 1))), 0, false⟩,⟨some 34, none, .ixA 1 (.tmp 30) (.tmp 31), 0, false⟩,⟨none, none, .st none 1 (.tmp 34) (.tmp 33), 0, false⟩])
 (.seq (.regN [1, 3, 4, 5, 23, 24, 25] [
 ⟨some 35, none, .mv (.tmp 3), 0, false⟩,⟨some 36, none, .mv (.tmp 5), 0, false⟩,⟨some 37, none, .ixA 1 (.tmp 35) (.tmp 36), 0, false⟩,⟨some 38, none, .ld1 none (.tmp 37), 0, false⟩,⟨some 39, none, .not (.tmp 38), 0, false⟩])
 (.cond (.tmp 39)
 (.regN [1, 3, 4, 5, 23, 24, 25] [
 ⟨some 40, none, .mv (.tmp 4), 0, false⟩,⟨some 41, none, .mv (.tmp 5), 0, false⟩,⟨some 42, none, .ixA 1 (.tmp 40) (.tmp 41), 0, false⟩,⟨none, none, .st none 1 (.tmp 42) (.con (.val (.int .i64 (-1)))), 0, false⟩])
 .skip)))))
 (.regN [1, 3, 4, 23, 24, 25] [
 ⟨some 43, none, .bini .add (.tmp 25) (.con (.val (.int .i64 1))), 0, false⟩,⟨some 25, none, .mv (.tmp 43), 0, false⟩]))))
def t28L2 : AC := (.seq (.regN [1, 4, 7, 8, 9, 10, 12, 48, 49, 50, 69, 70, 71] [
 ⟨some 72, none, .bini .lss (.tmp 71) (.tmp 70), 0, false⟩])
 (.seq (.cond (.tmp 72)
 .skip
 (.exit 6))
 (.seq (.block 7
 (.seq (.regN [1, 4, 7, 8, 9, 10, 12, 48, 49, 50, 69, 70, 71] [
 ⟨some 73, none, .mv (.tmp 71), 0, false⟩,⟨some 74, none, .ixA 1 (.tmp 69) (.tmp 71), 0, false⟩,⟨some 75, none, .ld1 none (.tmp 74), 0, false⟩,⟨some 13, none, .mv (.tmp 73), 0, false⟩,⟨some 14, none, .mv (.tmp 75), 0, false⟩])
 (.seq (.regN [1, 4, 7, 8, 9, 10, 12, 13, 14, 48, 49, 50, 69, 70, 71] [
 ⟨some 76, none, .mv (.tmp 13), 0, false⟩,⟨some 77, none, .fldA 1 (.tmp 12), 0, false⟩,⟨some 78, none, .ixR 256 1 (.tmp 77) (.tmp 76), 0, false⟩,⟨none, none, .st (some 12) 1 (.tmp 78) (.con (.val (.int .i64 (-1)))), 0, false⟩])
 (.seq (.regN [1, 4, 7, 8, 9, 10, 12, 13, 14, 48, 49, 50, 69, 70, 71] [
 ⟨some 79, none, .mv (.tmp 14), 0, false⟩,⟨some 80, none, .bini .geq (.tmp 79) (.con (.val (.int .i64 0))), 0, false⟩])
 (.cond (.tmp 80)
 (.regN [1, 4, 7, 8, 9, 10, 12, 13, 14, 48, 49, 50, 69, 70, 71] [
 ⟨some 81, none, .mv (.tmp 13), 0, false⟩,⟨some 82, none, .mv (.tmp 4), 0, false⟩,⟨some 83, none, .mv (.tmp 14), 0, false⟩,⟨some 84, none, .ixA 1 (.tmp 82) (.tmp 83), 0, false⟩,⟨some 85, none, .ld1 none (.tmp 84), 0, false⟩,⟨some 86, none, .fldA 1 (.tmp 12), 0, false⟩,⟨some 87, none, .ixR 256 1 (.tmp 86) (.tmp 81), 0, false⟩,⟨none, none, .st (some 12) 1 (.tmp 87) (.tmp 85), 0, false⟩])
 .skip)))))
 (.regN [1, 4, 7, 8, 9, 10, 12, 48, 49, 50, 69, 70, 71] [
 ⟨some 88, none, .bini .add (.tmp 71) (.con (.val (.int .i64 1))), 0, false⟩,⟨some 71, none, .mv (.tmp 88), 0, false⟩]))))
def t28L3 : AC := (.seq (.regN [1, 4, 7, 8, 9, 48, 49, 50] [
 ⟨some 51, none, .bini .lss (.tmp 50) (.tmp 49), 0, false⟩])
 (.seq (.cond (.tmp 51)
 .skip
 (.exit 4))
 (.seq (.block 5
 (.seq (.regN [1, 4, 7, 8, 9, 48, 49, 50] [
 ⟨some 52, none, .mv (.tmp 50), 0, false⟩,⟨some 53, none, .ixA 1 (.tmp 48) (.tmp 50), 0, false⟩,⟨some 54, none, .ld1 none (.tmp 53), 0, false⟩,⟨some 10, none, .mv (.tmp 52), 0, false⟩,⟨some 11, none, .mv (.tmp 54), 0, false⟩])
 (.seq (.seq (.regN [1, 4, 7, 8, 9, 10, 11, 48, 49, 50] [
 ⟨some 55, none, .mv (.tmp 9), 0, false⟩,⟨some 56, none, .mv (.tmp 10), 0, false⟩,⟨some 57, none, .ixA 1 (.tmp 55) (.tmp 56), 0, false⟩,⟨none, none, .st none 1 (.tmp 57) (.con (.val (.int .i64 (-1)))), 0, false⟩])
 (.seq (.regN [1, 4, 7, 8, 9, 10, 11, 48, 49, 50] [
 ⟨some 58, none, .mv (.tmp 11), 0, false⟩,⟨some 59, none, .bini .lss (.tmp 58) (.con (.val (.int .i64 0))), 0, false⟩])
 (.cond (.tmp 59)
 (.exit 5)
 .skip)))
 (.seq (.regN [1, 4, 7, 8, 9, 10, 11, 48, 49, 50] [
 ⟨some 60, none, .mv (.tmp 11), 0, false⟩,⟨some 61, none, .build zi257 [(0, 1, (.tmp 60))], 0, false⟩,⟨some 12, none, .allocR zi257, 0, false⟩,⟨none, none, .st (some 12) 257 (.tmp 12) (.tmp 61), 0, false⟩])
 (.seq (.seq (.regN [1, 4, 7, 8, 9, 10, 12, 48, 49, 50] [
 ⟨some 62, none, .fldA 0 (.tmp 1), 0, false⟩,⟨some 63, none, .ld1 (some 1) (.tmp 62), 0, false⟩,⟨some 64, none, .mv (.tmp 10), 0, false⟩,⟨some 65, none, .bini .mul (.con (.val (.int .i64 256))) (.tmp 64), 0, false⟩,⟨some 66, none, .mv (.tmp 10), 0, false⟩,⟨some 67, none, .bini .add (.tmp 66) (.con (.val (.int .i64 1))), 0, false⟩,⟨some 68, none, .bini .mul (.con (.val (.int .i64 256))) (.tmp 67), 0, false⟩,⟨some 69, none, .slC 1 (.tmp 63) (some (.tmp 65)) (some (.tmp 68)), 0, false⟩,⟨some 70, none, .len false (.tmp 69), 0, false⟩,⟨some 71, none, .mv (.con (.val (.int .i64 0))), 0, false⟩])
 (.block 6
 (.loop [1, 4, 7, 8, 9, 10, 12, 48, 49, 50, 69, 70, 71] t28L2)))
 (.seq (.regN [1, 4, 7, 8, 9, 10, 12, 48, 49, 50] [
 ⟨some 90, none, .mv (.tmp 8), 0, false⟩,⟨some 91, none, .ldA (some 12) 257 (.tmp 12), 0, false⟩,⟨some 92, none, .mlk true ks257 (.val (.int .i64 0)) true (.tmp 90) (.tmp 91), 0, false⟩,⟨some 89, none, .mv (.tmp 92), 0, false⟩,⟨some 93, none, .ext (.tmp 89) 0, 0, false⟩,⟨some 94, none, .ext (.tmp 89) 1, 0, false⟩,⟨some 15, none, .mv (.tmp 93), 0, false⟩,⟨some 16, none, .mv (.tmp 94), 0, false⟩])
 (.seq (.seq (.regN [1, 4, 7, 8, 9, 10, 12, 15, 16, 48, 49, 50] [
 ⟨some 95, none, .mv (.tmp 16), 0, false⟩,⟨some 96, none, .not (.tmp 95), 0, false⟩])
 (.cond (.tmp 96)
 (.seq (.regN [1, 4, 7, 8, 9, 10, 12, 48, 49, 50] [
 ⟨some 97, none, .mv (.tmp 8), 0, false⟩,⟨some 98, none, .mlen (.tmp 97), 0, false⟩,⟨some 15, none, .mv (.tmp 98), 0, false⟩])
 (.regN [1, 4, 7, 8, 9, 10, 12, 15, 48, 49, 50] [
 ⟨some 99, none, .mv (.tmp 8), 0, false⟩,⟨some 100, none, .ldA (some 12) 257 (.tmp 12), 0, false⟩,⟨some 101, none, .mv (.tmp 15), 0, false⟩,⟨none, none, .mup true ks257 (.tmp 99) (.tmp 100) (.tmp 101), 0, false⟩]))
 .skip))
 (.regN [1, 4, 7, 8, 9, 10, 15, 48, 49, 50] [
 ⟨some 102, none, .mv (.tmp 9), 0, false⟩,⟨some 103, none, .mv (.tmp 10), 0, false⟩,⟨some 104, none, .mv (.tmp 15), 0, false⟩,⟨some 105, none, .ixA 1 (.tmp 102) (.tmp 103), 0, false⟩,⟨none, none, .st none 1 (.tmp 105) (.tmp 104), 0, false⟩]))))))))
 (.regN [1, 4, 7, 8, 9, 48, 49, 50] [
 ⟨some 106, none, .bini .add (.tmp 50) (.con (.val (.int .i64 1))), 0, false⟩,⟨some 50, none, .mv (.tmp 106), 0, false⟩]))))
def t28L4 : AC := (.block 3
 (.seq (.regN [1, 4, 7] [
 ⟨some 44, none, .mkm, 0, false⟩,⟨some 8, none, .mv (.tmp 44), 0, false⟩])
 (.seq (.regN [1, 4, 7, 8] [
 ⟨some 45, none, .mv (.tmp 4), 0, false⟩,⟨some 46, none, .len false (.tmp 45), 0, false⟩,⟨some 47, none, .mks 1 8 [(.val (.int .i64 0))] (.tmp 46), 0, false⟩,⟨some 9, none, .mv (.tmp 47), 0, false⟩])
 (.seq (.seq (.regN [1, 4, 7, 8, 9] [
 ⟨some 48, none, .mv (.tmp 4), 0, false⟩,⟨some 49, none, .len false (.tmp 48), 0, false⟩,⟨some 50, none, .mv (.con (.val (.int .i64 0))), 0, false⟩])
 (.block 4
 (.loop [1, 4, 7, 8, 9, 48, 49, 50] t28L3)))
 (.seq (.seq (.regN [1, 7, 8, 9] [
 ⟨some 107, none, .mv (.tmp 8), 0, false⟩,⟨some 108, none, .mlen (.tmp 107), 0, false⟩,⟨some 109, none, .mv (.tmp 7), 0, false⟩,⟨some 110, none, .bini .eql (.tmp 108) (.tmp 109), 0, false⟩])
 (.cond (.tmp 110)
 (.seq (.regN [9] [
 ⟨some 111, none, .mv (.tmp 9), 0, false⟩,⟨some 2, none, .mv (.tmp 111), 0, false⟩])
 .ret)
 .skip))
 (.regN [1, 8, 9] [
 ⟨some 112, none, .mv (.tmp 8), 0, false⟩,⟨some 113, none, .mlen (.tmp 112), 0, false⟩,⟨some 114, none, .mv (.tmp 9), 0, false⟩,⟨some 7, none, .mv (.tmp 113), 0, false⟩,⟨some 4, none, .mv (.tmp 114), 0, false⟩]))))))
def t28B : AC := (.seq (.regN [0] [
 ⟨some 1, none, .boxR 2 (.tmp 0), 0, false⟩,⟨some 2, none, .mv (.con .e0), 0, false⟩])
 (.seq (.regN [1] [
 ⟨some 17, none, .ldA (some 1) 2 (.tmp 1), 0, false⟩,⟨some 18, none, .call 13 [(.tmp 17)], 0, false⟩,⟨some 3, none, .mv (.tmp 18), 0, false⟩])
 (.seq (.regN [1, 3] [
 ⟨some 19, none, .mv (.tmp 3), 0, false⟩,⟨some 20, none, .len false (.tmp 19), 0, false⟩,⟨some 21, none, .mks 1 8 [(.val (.int .i64 0))] (.tmp 20), 0, false⟩,⟨some 4, none, .mv (.tmp 21), 0, false⟩])
 (.seq (.seq (.regN [1, 3, 4] [
 ⟨some 22, none, .fldA 1 (.tmp 1), 0, false⟩,⟨some 23, none, .ld1 (some 1) (.tmp 22), 0, false⟩,⟨some 24, none, .len false (.tmp 23), 0, false⟩,⟨some 25, none, .mv (.con (.val (.int .i64 0))), 0, false⟩])
 (.block 0
 (.loop [1, 3, 4, 23, 24, 25] t28L1)))
 (.seq (.regN [1, 4] [
 ⟨some 7, none, .mv (.con (.val (.int .i64 (-1)))), 0, false⟩])
 (.block 2
 (.loop [1, 4, 7] t28L4)))))))
def t28 : AFn := ⟨1, t28B,
 [.tmp 2], true⟩
/-- viewport/least.Live  -/
def t13L1 : AC := (.seq (.regN [1, 3, 16, 17, 18] [
 ⟨some 19, none, .bini .lss (.tmp 18) (.tmp 17), 0, false⟩])
 (.seq (.cond (.tmp 19)
 .skip
 (.exit 0))
 (.seq (.block 1
 (.seq (.regN [1, 3, 16, 17, 18] [
 ⟨some 20, none, .mv (.tmp 18), 0, false⟩,⟨some 21, none, .ixA 1 (.tmp 16) (.tmp 18), 0, false⟩,⟨some 22, none, .ld1 none (.tmp 21), 0, false⟩,⟨some 4, none, .mv (.tmp 20), 0, false⟩,⟨some 5, none, .mv (.tmp 22), 0, false⟩])
 (.regN [1, 3, 4, 5, 16, 17, 18] [
 ⟨some 23, none, .ld1 none (.tmp 3), 0, false⟩,⟨some 24, none, .mv (.tmp 4), 0, false⟩,⟨some 25, none, .mv (.tmp 5), 0, false⟩,⟨some 26, none, .bini .geq (.tmp 25) (.con (.val (.int .i64 0))), 0, false⟩,⟨some 27, none, .ixA 1 (.tmp 23) (.tmp 24), 0, false⟩,⟨none, none, .st none 1 (.tmp 27) (.tmp 26), 0, false⟩])))
 (.regN [1, 3, 16, 17, 18] [
 ⟨some 28, none, .bini .add (.tmp 18) (.con (.val (.int .i64 1))), 0, false⟩,⟨some 18, none, .mv (.tmp 28), 0, false⟩]))))
def t13L2 : AC := (.seq (.regN [1, 3, 6, 31, 32] [
 ⟨some 33, none, .bini .lss (.tmp 32) (.tmp 31), 0, false⟩])
 (.seq (.cond (.tmp 33)
 .skip
 (.exit 4))
 (.seq (.block 5
 (.seq (.regN [1, 3, 6, 31, 32] [
 ⟨some 34, none, .mv (.tmp 32), 0, false⟩,⟨some 7, none, .mv (.tmp 34), 0, false⟩])
 (.seq (.regN [1, 3, 6, 7, 31, 32] [
 ⟨some 35, none, .ld1 none (.tmp 3), 0, false⟩,⟨some 36, none, .mv (.tmp 7), 0, false⟩,⟨some 37, none, .ixA 1 (.tmp 35) (.tmp 36), 0, false⟩,⟨some 38, none, .ld1 none (.tmp 37), 0, false⟩,⟨some 39, none, .not (.tmp 38), 0, false⟩,⟨some 40, none, .mv (.tmp 39), 0, false⟩,⟨some 41, some (40, true), .fldA 0 (.tmp 1), 0, false⟩,⟨some 42, some (40, true), .ld1 (some 1) (.tmp 41), 0, false⟩,⟨some 43, some (40, true), .mv (.tmp 7), 0, false⟩,⟨some 44, some (40, true), .bini .mul (.con (.val (.int .i64 256))) (.tmp 43), 0, false⟩,⟨some 45, some (40, true), .mv (.tmp 7), 0, false⟩,⟨some 46, some (40, true), .bini .add (.tmp 45) (.con (.val (.int .i64 1))), 0, false⟩,⟨some 47, some (40, true), .bini .mul (.con (.val (.int .i64 256))) (.tmp 46), 0, false⟩,⟨some 48, some (40, true), .slC 1 (.tmp 42) (some (.tmp 44)) (some (.tmp 47)), 0, false⟩,⟨some 49, some (40, true), .mkf 30 [(.tmp 3)], 0, false⟩,⟨some 50, some (40, true), .call 29 [(.tmp 48), (.tmp 49)], 0, false⟩,⟨some 51, none, .pick (.tmp 40) (.tmp 50) (.con (.val (.bool false))), 0, false⟩])
 (.cond (.tmp 51)
 (.regN [1, 3, 7, 31, 32] [
 ⟨some 52, none, .ld1 none (.tmp 3), 0, false⟩,⟨some 53, none, .mv (.tmp 7), 0, false⟩,⟨some 54, none, .ixA 1 (.tmp 52) (.tmp 53), 0, false⟩,⟨none, none, .st none 1 (.tmp 54) (.con (.val (.bool true))), 0, false⟩,⟨some 6, none, .mv (.con (.val (.bool true))), 0, false⟩])
 .skip))))
 (.regN [1, 3, 6, 31, 32] [
 ⟨some 55, none, .bini .add (.tmp 32) (.con (.val (.int .i64 1))), 0, false⟩,⟨some 32, none, .mv (.tmp 55), 0, false⟩]))))
def t13L3 : AC := (.seq (.seq (.regN [1, 3, 6] [
 ⟨some 29, none, .mv (.tmp 6), 0, false⟩])
 (.cond (.tmp 29)
 .skip
 (.exit 2)))
 (.block 3
 (.seq (.regN [1, 3] [
 ⟨some 6, none, .mv (.con (.val (.bool false))), 0, false⟩])
 (.seq (.regN [1, 3, 6] [
 ⟨some 30, none, .ld1 none (.tmp 3), 0, false⟩,⟨some 31, none, .len false (.tmp 30), 0, false⟩,⟨some 32, none, .mv (.con (.val (.int .i64 0))), 0, false⟩])
 (.block 4
 (.loop [1, 3, 6, 31, 32] t13L2))))))
def t13B : AC := (.seq (.regN [0] [
 ⟨some 1, none, .boxR 2 (.tmp 0), 0, false⟩,⟨some 2, none, .mv (.con .e0), 0, false⟩])
 (.seq (.seq (.regN [1] [
 ⟨some 8, none, .ldA (some 1) 2 (.tmp 1), 0, false⟩,⟨some 9, none, .call 27 [(.tmp 8)], 0, false⟩,⟨some 10, none, .bini .neq (.tmp 9) (.con (.val (.int .i64 0))), 0, false⟩])
 (.cond (.tmp 10)
 (.seq (.regN [] [
 ⟨some 2, none, .mv (.con .e0), 0, false⟩])
 .ret)
 .skip))
 (.seq (.regN [1] [
 ⟨some 11, none, .fldA 1 (.tmp 1), 0, false⟩,⟨some 12, none, .ld1 (some 1) (.tmp 11), 0, false⟩,⟨some 13, none, .len false (.tmp 12), 0, false⟩,⟨some 14, none, .mks 1 1 [(.val (.bool false))] (.tmp 13), 0, false⟩,⟨some 3, none, .allocH [.e0], 0, false⟩,⟨none, none, .st none 1 (.tmp 3) (.tmp 14), 0, false⟩])
 (.seq (.seq (.regN [1, 3] [
 ⟨some 15, none, .fldA 1 (.tmp 1), 0, false⟩,⟨some 16, none, .ld1 (some 1) (.tmp 15), 0, false⟩,⟨some 17, none, .len false (.tmp 16), 0, false⟩,⟨some 18, none, .mv (.con (.val (.int .i64 0))), 0, false⟩])
 (.block 0
 (.loop [1, 3, 16, 17, 18] t13L1)))
 (.seq (.seq (.regN [1, 3] [
 ⟨some 6, none, .mv (.con (.val (.bool true))), 0, false⟩])
 (.block 2
 (.loop [1, 3, 6] t13L3)))
 (.seq (.regN [3] [
 ⟨some 56, none, .ld1 none (.tmp 3), 0, false⟩,⟨some 2, none, .mv (.tmp 56), 0, false⟩])
 .ret))))))
def t13 : AFn := ⟨1, t13B,
 [.tmp 2], true⟩
/-- viewport/least.Live$1  -/
def t30B : AC := (.seq (.regN [0, 1] [
 ⟨some 3, none, .mv (.con (.val (.bool false))), 0, false⟩])
 (.seq (.regN [0, 1] [
 ⟨some 4, none, .mv (.tmp 0), 0, false⟩,⟨some 5, none, .bini .geq (.tmp 4) (.con (.val (.int .i64 0))), 0, false⟩,⟨some 6, none, .mv (.tmp 5), 0, false⟩,⟨some 7, some (6, true), .ld1 none (.tmp 1), 0, false⟩,⟨some 8, some (6, true), .mv (.tmp 0), 0, false⟩,⟨some 9, some (6, true), .ixA 1 (.tmp 7) (.tmp 8), 0, false⟩,⟨some 10, some (6, true), .ld1 none (.tmp 9), 0, false⟩,⟨some 11, none, .pick (.tmp 6) (.tmp 10) (.con (.val (.bool false))), 0, false⟩,⟨some 3, none, .mv (.tmp 11), 0, false⟩])
 .ret))
def t30 : AFn := ⟨2, t30B,
 [.tmp 3], true⟩
/-- slices.ContainsFunc[[]int,int]  -/
def t29B : AC := (.seq (.regN [0, 1] [
 ⟨some 4, none, .mv (.con (.val (.bool false))), 0, false⟩])
 (.seq (.regN [0, 1] [
 ⟨some 5, none, .mv (.tmp 0), 0, false⟩,⟨some 6, none, .mv (.tmp 1), 0, false⟩,⟨some 7, none, .call 45 [(.tmp 5), (.tmp 6)], 0, false⟩,⟨some 8, none, .bini .geq (.tmp 7) (.con (.val (.int .i64 0))), 0, false⟩,⟨some 4, none, .mv (.tmp 8), 0, false⟩])
 .ret))
def t29 : AFn := ⟨2, t29B,
 [.tmp 4], true⟩
/-- slices.IndexFunc[[]int,int]  -/
def t45L1 : AC := (.seq (.regN [0, 1, 7, 8] [
 ⟨some 9, none, .bini .lss (.tmp 8) (.tmp 7), 0, false⟩])
 (.seq (.cond (.tmp 9)
 .skip
 (.exit 0))
 (.seq (.block 1
 (.seq (.regN [0, 1, 7, 8] [
 ⟨some 10, none, .mv (.tmp 8), 0, false⟩,⟨some 5, none, .mv (.tmp 10), 0, false⟩])
 (.seq (.regN [0, 1, 5, 7, 8] [
 ⟨some 11, none, .mv (.tmp 1), 0, false⟩,⟨some 12, none, .mv (.tmp 0), 0, false⟩,⟨some 13, none, .mv (.tmp 5), 0, false⟩,⟨some 14, none, .ixA 1 (.tmp 12) (.tmp 13), 0, false⟩,⟨some 15, none, .ld1 none (.tmp 14), 0, false⟩,⟨some 16, none, .callv (.tmp 11) [(.tmp 15)], 0, false⟩])
 (.cond (.tmp 16)
 (.seq (.regN [5] [
 ⟨some 17, none, .mv (.tmp 5), 0, false⟩,⟨some 4, none, .mv (.tmp 17), 0, false⟩])
 .ret)
 .skip))))
 (.regN [0, 1, 7, 8] [
 ⟨some 18, none, .bini .add (.tmp 8) (.con (.val (.int .i64 1))), 0, false⟩,⟨some 8, none, .mv (.tmp 18), 0, false⟩]))))
def t45B : AC := (.seq (.regN [0, 1] [
 ⟨some 4, none, .mv (.con (.val (.int .i64 0))), 0, false⟩])
 (.seq (.seq (.regN [0, 1] [
 ⟨some 6, none, .mv (.tmp 0), 0, false⟩,⟨some 7, none, .len false (.tmp 6), 0, false⟩,⟨some 8, none, .mv (.con (.val (.int .i64 0))), 0, false⟩])
 (.block 0
 (.loop [0, 1, 7, 8] t45L1)))
 (.seq (.regN [] [
 ⟨some 4, none, .mv (.con (.val (.int .i64 (-1)))), 0, false⟩])
 .ret)))
def t45 : AFn := ⟨2, t45B,
 [.tmp 4], true⟩
/-- viewport/least.Witness  -/
def t19B : AC := (.seq (.regN [0, 1] [
 ⟨some 2, none, .boxH 2 (.tmp 0), 0, false⟩,⟨some 3, none, .boxH 2 (.tmp 1), 0, false⟩,⟨some 4, none, .mv (.con (.val (.string ⟨#[]⟩))), 0, false⟩,⟨some 5, none, .mv (.con (.val (.bool false))), 0, false⟩])
 (.seq (.seq (.regN [2, 3] [
 ⟨some 6, none, .ldA none 2 (.tmp 2), 0, false⟩,⟨some 7, none, .call 27 [(.tmp 6)], 0, false⟩,⟨some 8, none, .bini .neq (.tmp 7) (.con (.val (.int .i64 0))), 0, false⟩,⟨some 9, none, .mv (.tmp 8), 0, false⟩,⟨some 10, some (9, false), .ldA none 2 (.tmp 3), 0, false⟩,⟨some 11, some (9, false), .call 27 [(.tmp 10)], 0, false⟩,⟨some 12, some (9, false), .bini .neq (.tmp 11) (.con (.val (.int .i64 0))), 0, false⟩,⟨some 13, none, .pick (.tmp 9) (.con (.val (.bool true))) (.tmp 12), 0, false⟩])
 (.cond (.tmp 13)
 (.seq (.regN [] [
 ⟨some 4, none, .mv (.con (.val (.string ⟨#[]⟩))), 0, false⟩,⟨some 5, none, .mv (.con (.val (.bool false))), 0, false⟩])
 .ret)
 .skip))
 (.seq (.regN [2, 3] [
 ⟨some 14, none, .ldA none 2 (.tmp 2), 0, false⟩,⟨some 15, none, .ldA none 2 (.tmp 3), 0, false⟩,⟨some 16, none, .mkf 35 [(.tmp 2), (.tmp 3)], 0, false⟩,⟨some 17, none, .call 31 [(.tmp 14), (.tmp 15), (.tmp 16)], 0, false⟩,⟨some 18, none, .ext (.tmp 17) 0, 0, false⟩,⟨some 19, none, .ext (.tmp 17) 1, 0, false⟩,⟨some 4, none, .mv (.tmp 18), 0, false⟩,⟨some 5, none, .mv (.tmp 19), 0, false⟩])
 .ret)))
def t19 : AFn := ⟨2, t19B,
 [.tmp 4, .tmp 5], true⟩
/-- viewport/least.Witness$1  -/
def t35B : AC := (.seq (.regN [0, 1, 2, 3] [
 ⟨some 6, none, .mv (.con (.val (.bool false))), 0, false⟩])
 (.seq (.regD [0, 1, 2, 3] 0 [
 ⟨some 7, none, .ldA none 2 (.tmp 2), 0, false⟩,⟨some 8, none, .mv (.tmp 0), 0, false⟩,⟨some 9, none, .call 33 [(.tmp 7), (.tmp 8)], 0, false⟩,⟨some 10, none, .ldA none 2 (.tmp 3), 0, false⟩,⟨some 11, none, .mv (.tmp 1), 0, false⟩,⟨some 12, none, .call 33 [(.tmp 10), (.tmp 11)], 0, true⟩,⟨some 13, none, .bini .neq (.tmp 9) (.tmp 12), 0, false⟩,⟨some 6, none, .mv (.tmp 13), 0, false⟩])
 .ret))
def t35 : AFn := ⟨4, t35B,
 [.tmp 6], true⟩
/-- viewport/least.rule  -/
def t33B : AC := (.seq (.regN [0, 1] [
 ⟨some 2, none, .boxR 2 (.tmp 0), 0, false⟩,⟨some 4, none, .mv (.con (.val (.int .i64 0))), 0, false⟩])
 (.seq (.seq (.regN [1, 2] [
 ⟨some 5, none, .mv (.tmp 1), 0, false⟩,⟨some 6, none, .bini .lss (.tmp 5) (.con (.val (.int .i64 0))), 0, false⟩])
 (.cond (.tmp 6)
 (.seq (.regN [] [
 ⟨some 4, none, .mv (.con (.val (.int .i64 (-1)))), 0, false⟩])
 .ret)
 .skip))
 (.seq (.regN [1, 2] [
 ⟨some 7, none, .fldA 1 (.tmp 2), 0, false⟩,⟨some 8, none, .ld1 (some 2) (.tmp 7), 0, false⟩,⟨some 9, none, .mv (.tmp 1), 0, false⟩,⟨some 10, none, .ixA 1 (.tmp 8) (.tmp 9), 0, false⟩,⟨some 11, none, .ld1 none (.tmp 10), 0, false⟩,⟨some 4, none, .mv (.tmp 11), 0, false⟩])
 .ret)))
def t33 : AFn := ⟨2, t33B,
 [.tmp 4], true⟩
/-- viewport/least.first  -/
def t31L1 : AC := (.seq (.regN [2, 3, 4, 8, 9, 10, 11, 42] [
 ⟨some 43, none, .bini .lss (.tmp 42) (.con (.val (.int .i64 256))), 0, false⟩])
 (.seq (.cond (.tmp 43)
 .skip
 (.exit 2))
 (.seq (.block 3
 (.seq (.regN [2, 3, 4, 8, 9, 10, 11, 42] [
 ⟨some 44, none, .mv (.tmp 42), 0, false⟩,⟨some 12, none, .mv (.tmp 44), 0, false⟩])
 (.seq (.regD [2, 3, 4, 8, 9, 10, 11, 12, 42] 0 [
 ⟨some 45, none, .ldA (some 3) 2 (.tmp 3), 0, false⟩,⟨some 46, none, .mv (.tmp 11), 0, false⟩,⟨some 47, none, .nilc (.tmp 46), 0, false⟩,⟨some 48, none, .fldA 0 (.tmp 47), 0, false⟩,⟨some 49, none, .ld1 none (.tmp 48), 0, false⟩,⟨some 50, none, .mv (.tmp 12), 0, false⟩,⟨some 51, none, .call 47 [(.tmp 45), (.tmp 49), (.tmp 50)], 0, false⟩,⟨some 52, none, .ldA (some 4) 2 (.tmp 4), 0, false⟩,⟨some 53, none, .mv (.tmp 11), 0, false⟩,⟨some 54, none, .nilc (.tmp 53), 0, false⟩,⟨some 55, none, .fldA 1 (.tmp 54), 0, false⟩,⟨some 56, none, .ld1 none (.tmp 55), 0, false⟩,⟨some 57, none, .mv (.tmp 12), 0, false⟩,⟨some 58, none, .call 47 [(.tmp 52), (.tmp 56), (.tmp 57)], 0, true⟩,⟨some 59, none, .build [(.val (.int .i64 0)), (.val (.int .i64 0))] [(0, 1, (.tmp 51)), (1, 1, (.tmp 58))], 0, false⟩,⟨some 13, none, .allocR [(.val (.int .i64 0)), (.val (.int .i64 0))], 0, false⟩,⟨none, none, .st (some 13) 2 (.tmp 13) (.tmp 59), 0, false⟩])
 (.seq (.regN [2, 3, 4, 8, 9, 10, 11, 12, 13, 42] [
 ⟨some 60, none, .mv (.tmp 8), 0, false⟩,⟨some 61, none, .ldA (some 13) 2 (.tmp 13), 0, false⟩,⟨some 62, none, .mlk true [1, 1] (.val (.bool false)) false (.tmp 60) (.tmp 61), 0, false⟩,⟨some 63, none, .not (.tmp 62), 0, false⟩])
 (.cond (.tmp 63)
 (.seq (.regN [2, 3, 4, 8, 9, 10, 11, 12, 13, 42] [
 ⟨some 64, none, .mv (.tmp 8), 0, false⟩,⟨some 65, none, .ldA (some 13) 2 (.tmp 13), 0, false⟩,⟨none, none, .mup true [1, 1] (.tmp 64) (.tmp 65) (.con (.val (.bool true))), 0, false⟩])
 (.regN [2, 3, 4, 8, 9, 10, 11, 12, 13, 42] [
 ⟨some 66, none, .mv (.tmp 9), 0, false⟩,⟨some 67, none, .ixR 2 1 (.tmp 13) (.con (.val (.int .i64 0))), 0, false⟩,⟨some 68, none, .ld1 (some 13) (.tmp 67), 0, false⟩,⟨some 69, none, .ixR 2 1 (.tmp 13) (.con (.val (.int .i64 1))), 0, false⟩,⟨some 70, none, .ld1 (some 13) (.tmp 69), 0, false⟩,⟨some 71, none, .mv (.tmp 12), 0, false⟩,⟨some 72, none, .cvi .u8 (.tmp 71), 0, false⟩,⟨some 73, none, .mv (.tmp 11), 0, false⟩,⟨some 74, none, .build [(.val (.int .i64 0)), (.val (.int .i64 0)), (.val (.int .u8 0)), (.val (.pointer none))] [(0, 1, (.tmp 68)), (1, 1, (.tmp 70)), (2, 1, (.tmp 72)), (3, 1, (.tmp 73))], 0, false⟩,⟨some 75, none, .boxH 4 (.tmp 74), 0, false⟩,⟨some 76, none, .buildH 1 1 [(.val (.pointer none))] [(0, 1, (.tmp 75))], 0, false⟩,⟨some 77, none, .app 1 8 (.tmp 66) (.tmp 76), 0, false⟩,⟨some 9, none, .mv (.tmp 77), 0, false⟩]))
 .skip)))))
 (.regN [2, 3, 4, 8, 9, 10, 11, 42] [
 ⟨some 78, none, .bini .add (.tmp 42) (.con (.val (.int .i64 1))), 0, false⟩,⟨some 42, none, .mv (.tmp 78), 0, false⟩]))))
def t31L2 : AC := (.seq (.seq (.regN [2, 3, 4, 8, 9, 10] [
 ⟨some 20, none, .mv (.tmp 10), 0, false⟩,⟨some 21, none, .mv (.tmp 9), 0, false⟩,⟨some 22, none, .len false (.tmp 21), 0, false⟩,⟨some 23, none, .bini .lss (.tmp 20) (.tmp 22), 0, false⟩])
 (.cond (.tmp 23)
 .skip
 (.exit 0)))
 (.seq (.block 1
 (.seq (.regN [2, 3, 4, 8, 9, 10] [
 ⟨some 26, none, .mv (.tmp 9), 0, false⟩,⟨some 27, none, .mv (.tmp 10), 0, false⟩,⟨some 28, none, .ixA 1 (.tmp 26) (.tmp 27), 0, false⟩,⟨some 29, none, .ld1 none (.tmp 28), 0, false⟩,⟨some 11, none, .mv (.tmp 29), 0, false⟩])
 (.seq (.seq (.regD [2, 3, 4, 8, 9, 10, 11] 0 [
 ⟨some 30, none, .mv (.tmp 2), 0, false⟩,⟨some 31, none, .mv (.tmp 11), 0, false⟩,⟨some 32, none, .nilc (.tmp 31), 0, false⟩,⟨some 33, none, .fldA 0 (.tmp 32), 0, false⟩,⟨some 34, none, .ld1 none (.tmp 33), 0, false⟩,⟨some 35, none, .mv (.tmp 11), 0, false⟩,⟨some 36, none, .nilc (.tmp 35), 0, false⟩,⟨some 37, none, .fldA 1 (.tmp 36), 0, false⟩,⟨some 38, none, .ld1 none (.tmp 37), 0, false⟩,⟨some 39, none, .callv (.tmp 30) [(.tmp 34), (.tmp 38)], 0, true⟩])
 (.cond (.tmp 39)
 (.seq (.regN [11] [
 ⟨some 40, none, .mv (.tmp 11), 0, false⟩,⟨some 41, none, .call 46 [(.tmp 40)], 0, false⟩,⟨some 6, none, .mv (.tmp 41), 0, false⟩,⟨some 7, none, .mv (.con (.val (.bool true))), 0, false⟩])
 .ret)
 .skip))
 (.seq (.regN [2, 3, 4, 8, 9, 10, 11] [
 ⟨some 42, none, .mv (.con (.val (.int .i64 0))), 0, false⟩])
 (.block 2
 (.loop [2, 3, 4, 8, 9, 10, 11, 42] t31L1))))))
 (.regN [2, 3, 4, 8, 9, 10] [
 ⟨some 24, none, .mv (.tmp 10), 0, false⟩,⟨some 25, none, .bini .add (.tmp 24) (.con (.val (.int .i64 1))), 0, false⟩,⟨some 10, none, .mv (.tmp 25), 0, false⟩])))
def t31B : AC := (.seq (.regN [0, 1, 2] [
 ⟨some 3, none, .boxR 2 (.tmp 0), 0, false⟩,⟨some 4, none, .boxR 2 (.tmp 1), 0, false⟩,⟨some 6, none, .mv (.con (.val (.string ⟨#[]⟩))), 0, false⟩,⟨some 7, none, .mv (.con (.val (.bool false))), 0, false⟩])
 (.seq (.regN [2, 3, 4] [
 ⟨some 14, none, .mkm, 0, false⟩,⟨some 15, none, .build [(.val (.int .i64 0)), (.val (.int .i64 0))] [(0, 1, (.con (.val (.int .i64 0)))), (1, 1, (.con (.val (.int .i64 0))))], 0, false⟩,⟨none, none, .mup true [1, 1] (.tmp 14) (.tmp 15) (.con (.val (.bool true))), 0, false⟩,⟨some 16, none, .mv (.tmp 14), 0, false⟩,⟨some 8, none, .mv (.tmp 16), 0, false⟩])
 (.seq (.regN [2, 3, 4, 8] [
 ⟨some 17, none, .build [(.val (.int .i64 0)), (.val (.int .i64 0)), (.val (.int .u8 0)), (.val (.pointer none))] [], 0, false⟩,⟨some 18, none, .boxH 4 (.tmp 17), 0, false⟩,⟨some 19, none, .buildH 1 1 [(.val (.pointer none))] [(0, 1, (.tmp 18))], 0, false⟩,⟨some 9, none, .mv (.tmp 19), 0, false⟩])
 (.seq (.seq (.regN [2, 3, 4, 8, 9] [
 ⟨some 10, none, .mv (.con (.val (.int .i64 0))), 0, false⟩])
 (.block 0
 (.loop [2, 3, 4, 8, 9, 10] t31L2)))
 (.seq (.regN [] [
 ⟨some 6, none, .mv (.con (.val (.string ⟨#[]⟩))), 0, false⟩,⟨some 7, none, .mv (.con (.val (.bool false))), 0, false⟩])
 .ret)))))
def t31 : AFn := ⟨3, t31B,
 [.tmp 6, .tmp 7], true⟩
/-- (*viewport/least.step).text  -/
def t46L1 : AC := (.seq (.seq (.regN [0, 3] [
 ⟨some 4, none, .mv (.tmp 0), 0, false⟩,⟨some 5, none, .nilc (.tmp 4), 0, false⟩,⟨some 6, none, .fldA 3 (.tmp 5), 0, false⟩,⟨some 7, none, .ld1 none (.tmp 6), 0, false⟩,⟨some 8, none, .eqp true (.tmp 7) (.con (.val (.pointer none))), 0, false⟩])
 (.cond (.tmp 8)
 .skip
 (.exit 0)))
 (.seq (.block 1
 (.regN [0, 3] [
 ⟨some 13, none, .mv (.tmp 3), 0, false⟩,⟨some 14, none, .mv (.tmp 0), 0, false⟩,⟨some 15, none, .nilc (.tmp 14), 0, false⟩,⟨some 16, none, .fldA 2 (.tmp 15), 0, false⟩,⟨some 17, none, .ld1 none (.tmp 16), 0, false⟩,⟨some 18, none, .buildS 1 [(.val (.int .u8 0))] [(0, 1, (.tmp 17))], 0, false⟩,⟨some 19, none, .app 1 1 (.tmp 13) (.tmp 18), 0, false⟩,⟨some 3, none, .mv (.tmp 19), 0, false⟩]))
 (.regN [0, 3] [
 ⟨some 9, none, .mv (.tmp 0), 0, false⟩,⟨some 10, none, .nilc (.tmp 9), 0, false⟩,⟨some 11, none, .fldA 3 (.tmp 10), 0, false⟩,⟨some 12, none, .ld1 none (.tmp 11), 0, false⟩,⟨some 0, none, .mv (.tmp 12), 0, false⟩])))
def t46B : AC := (.seq (.regN [0] [
 ⟨some 2, none, .mv (.con (.val (.string ⟨#[]⟩))), 0, false⟩])
 (.seq (.regN [0] [
 ⟨some 3, none, .mv (.con .e0), 0, false⟩])
 (.seq (.block 0
 (.loop [0, 3] t46L1))
 (.seq (.regN [3] [
 ⟨some 20, none, .mv (.tmp 3), 0, false⟩,⟨some 21, none, .call 59 [(.tmp 20)], 0, false⟩])
 (.seq (.regN [3] [
 ⟨some 22, none, .mv (.tmp 3), 0, false⟩,⟨some 23, none, .b2s (.tmp 22), 0, false⟩,⟨some 2, none, .mv (.tmp 23), 0, false⟩])
 .ret)))))
def t46 : AFn := ⟨1, t46B,
 [.tmp 2], true⟩
/-- slices.Reverse[[]byte,byte]  -/
def t59L1 : AC := (.seq (.seq (.regN [0, 2, 3] [
 ⟨some 7, none, .mv (.tmp 2), 0, false⟩,⟨some 8, none, .mv (.tmp 3), 0, false⟩,⟨some 9, none, .bini .lss (.tmp 7) (.tmp 8), 0, false⟩])
 (.cond (.tmp 9)
 .skip
 (.exit 0)))
 (.seq (.block 1
 (.regD [0, 2, 3] 0 [
 ⟨some 14, none, .mv (.tmp 0), 0, false⟩,⟨some 15, none, .mv (.tmp 2), 0, false⟩,⟨some 16, none, .mv (.tmp 0), 0, false⟩,⟨some 17, none, .mv (.tmp 3), 0, false⟩,⟨some 18, none, .mv (.tmp 0), 0, false⟩,⟨some 19, none, .mv (.tmp 3), 0, false⟩,⟨some 20, none, .ixA 1 (.tmp 18) (.tmp 19), 0, false⟩,⟨some 21, none, .ld1 none (.tmp 20), 0, false⟩,⟨some 22, none, .mv (.tmp 0), 0, false⟩,⟨some 23, none, .mv (.tmp 2), 0, false⟩,⟨some 24, none, .ixA 1 (.tmp 22) (.tmp 23), 0, false⟩,⟨some 25, none, .ld1 none (.tmp 24), 0, false⟩,⟨some 26, none, .ixA 1 (.tmp 14) (.tmp 15), 0, false⟩,⟨none, none, .st none 1 (.tmp 26) (.tmp 21), 0, false⟩,⟨some 27, none, .ixA 1 (.tmp 16) (.tmp 17), 0, false⟩,⟨none, none, .st none 1 (.tmp 27) (.tmp 25), 0, false⟩]))
 (.regN [0, 2, 3] [
 ⟨some 10, none, .mv (.tmp 2), 0, false⟩,⟨some 11, none, .bini .add (.tmp 10) (.con (.val (.int .i64 1))), 0, false⟩,⟨some 12, none, .mv (.tmp 3), 0, false⟩,⟨some 13, none, .bini .sub (.tmp 12) (.con (.val (.int .i64 1))), 0, false⟩,⟨some 2, none, .mv (.tmp 11), 0, false⟩,⟨some 3, none, .mv (.tmp 13), 0, false⟩])))
def t59B : AC := (.seq (.regN [0] [
 ⟨some 4, none, .mv (.tmp 0), 0, false⟩,⟨some 5, none, .len false (.tmp 4), 0, false⟩,⟨some 6, none, .bini .sub (.tmp 5) (.con (.val (.int .i64 1))), 0, false⟩,⟨some 2, none, .mv (.con (.val (.int .i64 0))), 0, false⟩,⟨some 3, none, .mv (.tmp 6), 0, false⟩])
 (.block 0
 (.loop [0, 2, 3] t59L1)))
def t59 : AFn := ⟨1, t59B,
 [], true⟩
/-- viewport/least.to  -/
def t47B : AC := (.seq (.regN [0, 1, 2] [
 ⟨some 3, none, .boxR 2 (.tmp 0), 0, false⟩,⟨some 6, none, .mv (.con (.val (.int .i64 0))), 0, false⟩])
 (.seq (.seq (.regN [1, 2, 3] [
 ⟨some 7, none, .mv (.tmp 1), 0, false⟩,⟨some 8, none, .bini .lss (.tmp 7) (.con (.val (.int .i64 0))), 0, false⟩])
 (.cond (.tmp 8)
 (.seq (.regN [] [
 ⟨some 6, none, .mv (.con (.val (.int .i64 (-1)))), 0, false⟩])
 .ret)
 .skip))
 (.seq (.regN [1, 2, 3] [
 ⟨some 9, none, .fldA 0 (.tmp 3), 0, false⟩,⟨some 10, none, .ld1 (some 3) (.tmp 9), 0, false⟩,⟨some 11, none, .mv (.tmp 1), 0, false⟩,⟨some 12, none, .bini .mul (.con (.val (.int .i64 256))) (.tmp 11), 0, false⟩,⟨some 13, none, .mv (.tmp 2), 0, false⟩,⟨some 14, none, .bini .add (.tmp 12) (.tmp 13), 0, false⟩,⟨some 15, none, .ixA 1 (.tmp 10) (.tmp 14), 0, false⟩,⟨some 16, none, .ld1 none (.tmp 15), 0, false⟩,⟨some 6, none, .mv (.tmp 16), 0, false⟩])
 .ret)))
def t47 : AFn := ⟨3, t47B,
 [.tmp 6], true⟩
/-- viewport/viewportref04.Same  -/
def t16L1 : AC := (.seq (.seq (.regN [2, 3, 5] [
 ⟨some 23, none, .mv (.tmp 5), 0, false⟩,⟨some 24, none, .fldA 0 (.tmp 2), 0, false⟩,⟨some 25, none, .ld1 (some 2) (.tmp 24), 0, false⟩,⟨some 26, none, .len false (.tmp 25), 0, false⟩,⟨some 27, none, .bini .lss (.tmp 23) (.tmp 26), 0, false⟩])
 (.cond (.tmp 27)
 .skip
 (.exit 0)))
 (.seq (.block 1
 (.seq (.regD [2, 3, 5] 0 [
 ⟨some 30, none, .fldA 0 (.tmp 2), 0, false⟩,⟨some 31, none, .ld1 (some 2) (.tmp 30), 0, false⟩,⟨some 32, none, .mv (.tmp 5), 0, false⟩,⟨some 33, none, .ixA 1 (.tmp 31) (.tmp 32), 0, false⟩,⟨some 34, none, .ld1 none (.tmp 33), 0, false⟩,⟨some 35, none, .fldA 0 (.tmp 3), 0, false⟩,⟨some 36, none, .ld1 (some 3) (.tmp 35), 0, false⟩,⟨some 37, none, .mv (.tmp 5), 0, false⟩,⟨some 38, none, .ixA 1 (.tmp 36) (.tmp 37), 0, false⟩,⟨some 39, none, .ld1 none (.tmp 38), 0, false⟩,⟨some 40, none, .bini .neq (.tmp 34) (.tmp 39), 0, false⟩])
 (.cond (.tmp 40)
 (.seq (.regN [] [
 ⟨some 4, none, .mv (.con (.val (.bool false))), 0, false⟩])
 .ret)
 .skip)))
 (.regN [2, 3, 5] [
 ⟨some 28, none, .mv (.tmp 5), 0, false⟩,⟨some 29, none, .bini .add (.tmp 28) (.con (.val (.int .i64 1))), 0, false⟩,⟨some 5, none, .mv (.tmp 29), 0, false⟩])))
def t16L2 : AC := (.seq (.seq (.regN [2, 3, 6] [
 ⟨some 41, none, .mv (.tmp 6), 0, false⟩,⟨some 42, none, .fldA 1 (.tmp 2), 0, false⟩,⟨some 43, none, .ld1 (some 2) (.tmp 42), 0, false⟩,⟨some 44, none, .len false (.tmp 43), 0, false⟩,⟨some 45, none, .bini .lss (.tmp 41) (.tmp 44), 0, false⟩])
 (.cond (.tmp 45)
 .skip
 (.exit 2)))
 (.seq (.block 3
 (.seq (.regD [2, 3, 6] 0 [
 ⟨some 48, none, .fldA 1 (.tmp 2), 0, false⟩,⟨some 49, none, .ld1 (some 2) (.tmp 48), 0, false⟩,⟨some 50, none, .mv (.tmp 6), 0, false⟩,⟨some 51, none, .ixA 1 (.tmp 49) (.tmp 50), 0, false⟩,⟨some 52, none, .ld1 none (.tmp 51), 0, false⟩,⟨some 53, none, .fldA 1 (.tmp 3), 0, false⟩,⟨some 54, none, .ld1 (some 3) (.tmp 53), 0, false⟩,⟨some 55, none, .mv (.tmp 6), 0, false⟩,⟨some 56, none, .ixA 1 (.tmp 54) (.tmp 55), 0, false⟩,⟨some 57, none, .ld1 none (.tmp 56), 0, false⟩,⟨some 58, none, .bini .neq (.tmp 52) (.tmp 57), 0, false⟩])
 (.cond (.tmp 58)
 (.seq (.regN [] [
 ⟨some 4, none, .mv (.con (.val (.bool false))), 0, false⟩])
 .ret)
 .skip)))
 (.regN [2, 3, 6] [
 ⟨some 46, none, .mv (.tmp 6), 0, false⟩,⟨some 47, none, .bini .add (.tmp 46) (.con (.val (.int .i64 1))), 0, false⟩,⟨some 6, none, .mv (.tmp 47), 0, false⟩])))
def t16B : AC := (.seq (.regN [0, 1] [
 ⟨some 2, none, .boxR 2 (.tmp 0), 0, false⟩,⟨some 3, none, .boxR 2 (.tmp 1), 0, false⟩,⟨some 4, none, .mv (.con (.val (.bool false))), 0, false⟩])
 (.seq (.seq (.regN [2, 3] [
 ⟨some 7, none, .fldA 0 (.tmp 2), 0, false⟩,⟨some 8, none, .ld1 (some 2) (.tmp 7), 0, false⟩,⟨some 9, none, .len false (.tmp 8), 0, false⟩,⟨some 10, none, .fldA 0 (.tmp 3), 0, false⟩,⟨some 11, none, .ld1 (some 3) (.tmp 10), 0, false⟩,⟨some 12, none, .len false (.tmp 11), 0, false⟩,⟨some 13, none, .bini .neq (.tmp 9) (.tmp 12), 0, false⟩,⟨some 14, none, .mv (.tmp 13), 0, false⟩,⟨some 15, some (14, false), .fldA 1 (.tmp 2), 0, false⟩,⟨some 16, some (14, false), .ld1 (some 2) (.tmp 15), 0, false⟩,⟨some 17, some (14, false), .len false (.tmp 16), 0, false⟩,⟨some 18, some (14, false), .fldA 1 (.tmp 3), 0, false⟩,⟨some 19, some (14, false), .ld1 (some 3) (.tmp 18), 0, false⟩,⟨some 20, some (14, false), .len false (.tmp 19), 0, false⟩,⟨some 21, some (14, false), .bini .neq (.tmp 17) (.tmp 20), 0, false⟩,⟨some 22, none, .pick (.tmp 14) (.con (.val (.bool true))) (.tmp 21), 0, false⟩])
 (.cond (.tmp 22)
 (.seq (.regN [] [
 ⟨some 4, none, .mv (.con (.val (.bool false))), 0, false⟩])
 .ret)
 .skip))
 (.seq (.seq (.regN [2, 3] [
 ⟨some 5, none, .mv (.con (.val (.int .i64 0))), 0, false⟩])
 (.block 0
 (.loop [2, 3, 5] t16L1)))
 (.seq (.seq (.regN [2, 3] [
 ⟨some 6, none, .mv (.con (.val (.int .i64 0))), 0, false⟩])
 (.block 2
 (.loop [2, 3, 6] t16L2)))
 (.seq (.regN [] [
 ⟨some 4, none, .mv (.con (.val (.bool true))), 0, false⟩])
 .ret)))))
def t16 : AFn := ⟨2, t16B,
 [.tmp 4], true⟩
/-- viewport/viewportkit.LightDfa  -/
def t10B : AC := (.seq (.regN [0, 1] [
 ⟨some 2, none, .boxR 2 (.tmp 0), 0, false⟩,⟨some 4, none, .mv (.con (.val (.bool false))), 0, false⟩])
 (.seq (.regN [1, 2] [
 ⟨some 5, none, .fldA 1 (.tmp 2), 0, false⟩,⟨some 6, none, .ld1 (some 2) (.tmp 5), 0, false⟩,⟨some 7, none, .len false (.tmp 6), 0, false⟩,⟨some 8, none, .mv (.tmp 1), 0, false⟩,⟨some 9, none, .bini .leq (.tmp 7) (.tmp 8), 0, false⟩,⟨some 10, none, .mv (.tmp 9), 0, false⟩,⟨some 11, some (10, true), .fldA 0 (.tmp 2), 0, false⟩,⟨some 12, some (10, true), .ld1 (some 2) (.tmp 11), 0, false⟩,⟨some 13, some (10, true), .len false (.tmp 12), 0, false⟩,⟨some 14, some (10, true), .mv (.tmp 1), 0, false⟩,⟨some 15, some (10, true), .bini .mul (.con (.val (.int .i64 256))) (.tmp 14), 0, false⟩,⟨some 16, some (10, true), .bini .leq (.tmp 13) (.tmp 15), 0, false⟩,⟨some 17, none, .pick (.tmp 10) (.tmp 16) (.con (.val (.bool false))), 0, false⟩,⟨some 4, none, .mv (.tmp 17), 0, false⟩])
 .ret))
def t10 : AFn := ⟨2, t10B,
 [.tmp 4], true⟩
end Go.Proofs.Ytdbbaopgmapmaaa
