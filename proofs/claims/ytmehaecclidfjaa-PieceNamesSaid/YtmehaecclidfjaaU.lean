import Derived.Test.YtmehaecclidfjaaIt
set_option linter.unusedSimpArgs false
set_option linter.unusedVariables false
namespace Go.Proofs.Ytmehaecclidfjaa
open Go Go.Hm
noncomputable section
def u4L1 : AC := (.seq (.seq (.regN [1, 5, 6, 7, 9] [
        ⟨(some 32), none, .mv (.tmp 9), 0, false⟩,
        ⟨(some 33), none, .mv (.tmp 1), 0, false⟩,
        ⟨(some 34), none, .len false (.tmp 33), 0, false⟩,
        ⟨(some 35), none, .bini .lss (.tmp 32) (.tmp 34), 0, false⟩])
      (.cond (.tmp 35)
        .skip
        (.exit 0)))
      (.seq (.block 1
        (.regD [1, 5, 6, 7, 9] 0 [
          ⟨(some 38), none, .ld1 none (.tmp 7), 0, false⟩,
          ⟨(some 39), none, .mv (.tmp 1), 0, false⟩,
          ⟨(some 40), none, .mv (.tmp 9), 0, false⟩,
          ⟨(some 41), none, .ixA 4 (.tmp 39) (.tmp 40), 0, false⟩,
          ⟨(some 42), none, .fldA 1 (.tmp 41), 0, false⟩,
          ⟨(some 43), none, .ld1 none (.tmp 42), 0, false⟩,
          ⟨(some 44), none, .mv (.tmp 1), 0, false⟩,
          ⟨(some 45), none, .mv (.tmp 9), 0, false⟩,
          ⟨(some 46), none, .ixA 4 (.tmp 44) (.tmp 45), 0, false⟩,
          ⟨(some 47), none, .fldA 2 (.tmp 46), 0, false⟩,
          ⟨(some 48), none, .ld1 none (.tmp 47), 0, false⟩,
          ⟨(some 49), none, .mv (.tmp 1), 0, false⟩,
          ⟨(some 50), none, .mv (.tmp 9), 0, false⟩,
          ⟨(some 51), none, .ixA 4 (.tmp 49) (.tmp 50), 0, false⟩,
          ⟨(some 52), none, .fldA 3 (.tmp 51), 0, false⟩,
          ⟨(some 53), none, .ld1 none (.tmp 52), 0, false⟩,
          ⟨(some 54), none, .call 12 [(.tmp 38), (.tmp 43), (.tmp 48), (.tmp 53)], 0, true⟩]))
      (.regN [1, 5, 6, 7, 9] [
        ⟨(some 36), none, .mv (.tmp 9), 0, false⟩,
        ⟨(some 37), none, .bini .add (.tmp 36) (.con (.val (.int .i64 1))), 0, false⟩,
        ⟨(some 9), none, .mv (.tmp 37), 0, false⟩])))
def u4B : AC := (.seq (.regN [0, 1, 2] [
    ⟨(some 5), none, .boxH 1 (.tmp 2), 0, false⟩,
    ⟨(some 6), none, .allocH [(.val (.bool false))], 0, false⟩])
  (.seq (.seq (.regN [0, 1, 5, 6] [
    ⟨(some 15), none, .call 1008 [], 0, false⟩,
    ⟨(some 16), none, .not (.tmp 15), 0, false⟩])
  (.cond (.tmp 16)
    (.seq (.regN [6] [
      ⟨none, none, .st none 1 (.tmp 6) (.con (.val (.bool false))), 0, false⟩])
    .ret)
    .skip))
  (.seq (.seq (.regN [0, 1, 5, 6] [
    ⟨(some 17), none, .mv (.tmp 0), 0, false⟩,
    ⟨(some 18), none, .mv (.tmp 1), 0, false⟩,
    ⟨(some 19), none, .call 9 [(.tmp 17), (.tmp 18)], 0, false⟩,
    ⟨(some 20), none, .not (.tmp 19), 0, false⟩])
  (.cond (.tmp 20)
    (.seq (.regN [6] [
      ⟨none, none, .st none 1 (.tmp 6) (.con (.val (.bool true))), 0, false⟩])
    .ret)
    .skip))
  (.seq (.regN [0, 1, 5, 6] [
    ⟨(some 22), none, .mv (.tmp 0), 0, false⟩,
    ⟨(some 23), none, .call 11 [(.tmp 22)], 0, false⟩,
    ⟨(some 21), none, .mv (.tmp 23), 0, false⟩,
    ⟨(some 24), none, .ext (.tmp 21) 0, 0, false⟩,
    ⟨(some 25), none, .ext (.tmp 21) 1, 0, false⟩,
    ⟨(some 7), none, .allocH [(.val (.pointer none))], 0, false⟩,
    ⟨none, none, .st none 1 (.tmp 7) (.tmp 24), 0, false⟩,
    ⟨(some 8), none, .mv (.tmp 25), 0, false⟩])
  (.seq (.seq (.regN [1, 5, 6, 7, 8] [
    ⟨(some 26), none, .mv (.tmp 8), 0, false⟩,
    ⟨(some 27), none, .bini .neq (.tmp 26) (.con (.val (.int .i64 0))), 0, false⟩,
    ⟨(some 28), none, .mv (.tmp 27), 0, false⟩,
    ⟨(some 29), (some (28, false)), .ld1 none (.tmp 7), 0, false⟩,
    ⟨(some 30), (some (28, false)), .eqp false (.tmp 29) (.con (.val (.pointer none))), 0, false⟩,
    ⟨(some 31), none, .pick (.tmp 28) (.con (.val (.bool true))) (.tmp 30), 0, false⟩])
  (.cond (.tmp 31)
    (.seq (.regN [6] [
      ⟨none, none, .st none 1 (.tmp 6) (.con (.val (.bool false))), 0, false⟩])
    .ret)
    .skip))
  (.seq (.seq (.regN [1, 5, 6, 7] [
    ⟨(some 9), none, .mv (.con (.val (.int .i64 0))), 0, false⟩])
  (.block 0
    (.loop [1, 5, 6, 7, 9] u4L1)))
  (.seq (.regN [5, 6, 7] [
    ⟨(some 55), none, .ld1 none (.tmp 7), 0, false⟩,
    ⟨(some 56), none, .call 13 [(.tmp 55)], 0, false⟩,
    ⟨(some 10), none, .allocH [(.val (.string ⟨#[]⟩))], 0, false⟩,
    ⟨none, none, .st none 1 (.tmp 10) (.tmp 56), 0, false⟩])
  (.seq (.regN [5, 6, 7, 10] [
    ⟨(some 57), none, .ld1 none (.tmp 7), 0, false⟩,
    ⟨(some 58), none, .call 15 [(.tmp 57)], 0, false⟩,
    ⟨(some 11), none, .mv (.tmp 58), 0, false⟩])
  (.seq (.seq (.regN [5, 6, 7, 10, 11] [
    ⟨(some 59), none, .mv (.tmp 11), 0, false⟩,
    ⟨(some 60), none, .eqf false (.tmp 59) (.con (.val .nilFunc)), 0, false⟩])
  (.cond (.tmp 60)
    (.seq (.regN [6] [
      ⟨none, none, .st none 1 (.tmp 6) (.con (.val (.bool false))), 0, false⟩])
    .ret)
    .skip))
  (.seq (.regN [5, 6, 7, 10, 11] [
    ⟨(some 61), none, .ld1 none (.tmp 5), 0, false⟩,
    ⟨(some 62), none, .call 16 [(.tmp 61), (.con (.val (.int .i64 8)))], 0, false⟩,
    ⟨none, none, .st none 1 (.tmp 5) (.tmp 62), 0, false⟩])
  (.seq (.regN [5, 6, 7, 10, 11] [
    ⟨(some 12), none, .allocH [(.val (.string ⟨#[]⟩))], 0, false⟩,
    ⟨(some 13), none, .allocH [(.val (.int .i64 0))], 0, false⟩,
    ⟨none, none, .st none 1 (.tmp 12) (.con (.val (.string ⟨#[]⟩))), 0, false⟩,
    ⟨none, none, .st none 1 (.tmp 13) (.con (.val (.int .i64 0))), 0, false⟩])
  (.seq (.seq (.regN [5, 6, 7, 10, 11, 12, 13] [
    ⟨(some 63), none, .mv (.tmp 11), 0, false⟩])
  (.block 2
    (.rangeF [5, 6, 7, 10, 12, 13, 63] pieceIt (.tmp 63) [64]
      (.regN [5, 6, 7, 10, 12, 13, 64] [
        ⟨(some 14), none, .mv (.tmp 64), 0, false⟩])
      (.block 3
        (.seq (.seq (.regN [5, 6, 7, 10, 12, 13, 14] [
          ⟨(some 65), none, .ld1 none (.tmp 13), 0, false⟩,
          ⟨(some 66), none, .ld1 none (.tmp 5), 0, false⟩,
          ⟨(some 67), none, .bini .eql (.tmp 65) (.tmp 66), 0, false⟩])
        (.cond (.tmp 67)
          (.exit 2)
          .skip))
        (.seq (.regN [6, 7, 10, 12, 13, 14] [
          ⟨(some 68), none, .ld1 none (.tmp 12), 0, false⟩,
          ⟨(some 69), none, .mv (.tmp 14), 0, false⟩,
          ⟨(some 70), none, .bins .add (.tmp 68) (.tmp 69), 0, false⟩,
          ⟨none, none, .st none 1 (.tmp 12) (.tmp 70), 0, false⟩])
        (.seq (.regN [6, 7, 10, 12, 13] [
          ⟨(some 71), none, .ld1 none (.tmp 13), 0, false⟩,
          ⟨(some 72), none, .bini .add (.tmp 71) (.con (.val (.int .i64 1))), 0, false⟩,
          ⟨none, none, .st none 1 (.tmp 13) (.tmp 72), 0, false⟩])
        (.seq (.regD [6, 7, 10, 12] 0 [
          ⟨(some 73), none, .ld1 none (.tmp 7), 0, false⟩,
          ⟨(some 74), none, .ld1 none (.tmp 7), 0, false⟩,
          ⟨(some 75), none, .call 17 [(.tmp 74)], 0, false⟩,
          ⟨(some 76), none, .mm false [(.con (.val (.int .i64 2))), (.tmp 75)], 0, false⟩,
          ⟨(some 77), none, .call 12 [(.tmp 73), (.con (.val (.int .i64 0))), (.tmp 76), (.con (.val (.string ⟨#[109, 111, 114, 101]⟩)))], 0, true⟩])
        (.seq (.regN [6, 10, 12] [
          ⟨(some 78), none, .ld1 none (.tmp 12), 0, false⟩,
          ⟨(some 79), none, .len true (.tmp 78), 0, false⟩,
          ⟨(some 80), none, .ld1 none (.tmp 10), 0, false⟩,
          ⟨(some 81), none, .len true (.tmp 80), 0, false⟩,
          ⟨(some 82), none, .bini .gtr (.tmp 79) (.tmp 81), 0, false⟩])
        (.cond (.tmp 82)
          (.seq (.regN [6] [
            ⟨none, none, .st none 1 (.tmp 6) (.con (.val (.bool false))), 0, false⟩])
          .ret)
          .skip))))))))))
  (.seq (.regD [5, 6, 10, 12, 13] 0 [
    ⟨(some 83), none, .ld1 none (.tmp 12), 0, false⟩,
    ⟨(some 84), none, .ld1 none (.tmp 10), 0, false⟩,
    ⟨(some 85), none, .ld1 none (.tmp 12), 0, false⟩,
    ⟨(some 86), none, .len true (.tmp 85), 0, false⟩,
    ⟨(some 87), none, .slS (.tmp 84) none (some (.tmp 86)), 0, false⟩,
    ⟨(some 88), none, .bins .eql (.tmp 83) (.tmp 87), 0, false⟩,
    ⟨(some 89), none, .mv (.tmp 88), 0, false⟩,
    ⟨(some 90), (some (89, true)), .ld1 none (.tmp 13), 0, false⟩,
    ⟨(some 91), (some (89, true)), .ld1 none (.tmp 5), 0, false⟩,
    ⟨(some 92), (some (89, true)), .bini .eql (.tmp 90) (.tmp 91), 0, false⟩,
    ⟨(some 93), (some (89, true)), .mv (.tmp 92), 0, false⟩,
    ⟨(some 94), (some (93, false)), .ld1 none (.tmp 12), 0, false⟩,
    ⟨(some 95), (some (93, false)), .ld1 none (.tmp 10), 0, false⟩,
    ⟨(some 96), (some (93, false)), .bins .eql (.tmp 94) (.tmp 95), 0, false⟩,
    ⟨(some 97), (some (89, true)), .pick (.tmp 93) (.con (.val (.bool true))) (.tmp 96), 0, false⟩,
    ⟨(some 98), none, .pick (.tmp 89) (.tmp 97) (.con (.val (.bool false))), 0, false⟩,
    ⟨none, none, .st none 1 (.tmp 6) (.tmp 98), 0, false⟩])
  .ret)))))))))))))
def u4 : AFn := ⟨3, u4B,
  [.cell 6 1 false], true⟩
def u6B : AC := (.seq (.regN [] [
    ⟨(some 0), none, .mv (.con (.val (.bool false))), 0, false⟩])
  (.seq (.seq (.regN [0] [
    ⟨(some 22), none, .call 8 [], 0, false⟩,
    ⟨(some 23), none, .not (.tmp 22), 0, false⟩])
  (.cond (.tmp 23)
    (.seq (.regN [] [
      ⟨(some 0), none, .mv (.con (.val (.bool false))), 0, false⟩])
    .ret)
    .skip))
  (.seq (.regN [0] [
    ⟨(some 25), none, .call 11 [(.con (.val (.string ⟨#[104, 101, 108, 108, 111]⟩)))], 0, false⟩,
    ⟨(some 24), none, .mv (.tmp 25), 0, false⟩,
    ⟨(some 26), none, .ext (.tmp 24) 0, 0, false⟩,
    ⟨(some 27), none, .ext (.tmp 24) 1, 0, false⟩,
    ⟨(some 1), none, .mv (.tmp 26), 0, false⟩,
    ⟨(some 2), none, .mv (.tmp 27), 0, false⟩])
  (.seq (.regN [0, 1] [
    ⟨(some 29), none, .mks 1 1 [(.val (.int .u8 0))] (.con (.val (.int .i64 65537))), 0, false⟩,
    ⟨(some 30), none, .b2s (.tmp 29), 0, false⟩,
    ⟨(some 31), none, .call 11 [(.tmp 30)], 0, false⟩,
    ⟨(some 28), none, .mv (.tmp 31), 0, false⟩,
    ⟨(some 32), none, .ext (.tmp 28) 0, 0, false⟩,
    ⟨(some 33), none, .ext (.tmp 28) 1, 0, false⟩,
    ⟨(some 3), none, .mv (.tmp 32), 0, false⟩,
    ⟨(some 4), none, .mv (.tmp 33), 0, false⟩])
  (.seq (.regN [0, 1, 4] [
    ⟨(some 34), none, .mv (.tmp 1), 0, false⟩,
    ⟨(some 35), none, .call 12 [(.tmp 34), (.con (.val (.int .i64 6))), (.con (.val (.int .i64 0))), (.con (.val (.string ⟨#[120]⟩)))], 0, false⟩,
    ⟨(some 5), none, .mv (.tmp 35), 0, false⟩])
  (.seq (.regN [0, 1, 4, 5] [
    ⟨(some 36), none, .mv (.tmp 1), 0, false⟩,
    ⟨(some 37), none, .call 12 [(.tmp 36), (.con (.val (.int .i64 2))), (.con (.val (.int .i64 4))), (.con (.val (.string ⟨#[120]⟩)))], 0, false⟩,
    ⟨(some 6), none, .mv (.tmp 37), 0, false⟩])
  (.seq (.regN [0, 1, 4, 5, 6] [
    ⟨(some 38), none, .mv (.tmp 1), 0, false⟩,
    ⟨(some 39), none, .mks 1 1 [(.val (.int .u8 0))] (.con (.val (.int .i64 65532))), 0, false⟩,
    ⟨(some 40), none, .b2s (.tmp 39), 0, false⟩,
    ⟨(some 41), none, .call 12 [(.tmp 38), (.con (.val (.int .i64 0))), (.con (.val (.int .i64 0))), (.tmp 40)], 0, false⟩,
    ⟨(some 7), none, .mv (.tmp 41), 0, false⟩])
  (.seq (.regN [0, 1, 4, 5, 6, 7] [
    ⟨(some 42), none, .mv (.tmp 1), 0, false⟩,
    ⟨(some 43), none, .call 12 [(.tmp 42), (.con (.val (.int .i64 5))), (.con (.val (.int .i64 0))), (.con (.val (.string ⟨#[33]⟩)))], 0, false⟩,
    ⟨(some 8), none, .mv (.tmp 43), 0, false⟩])
  (.seq (.regN [0, 1, 4, 5, 6, 7, 8] [
    ⟨(some 44), none, .mv (.tmp 1), 0, false⟩,
    ⟨(some 45), none, .call 19 [(.tmp 44)], 0, false⟩,
    ⟨(some 9), none, .mv (.tmp 45), 0, false⟩])
  (.seq (.regN [0, 1, 4, 5, 6, 7, 8, 9] [
    ⟨(some 46), none, .mv (.tmp 9), 0, false⟩,
    ⟨(some 47), none, .call 12 [(.tmp 46), (.con (.val (.int .i64 0))), (.con (.val (.int .i64 6))), (.con (.val (.string ⟨#[]⟩)))], 0, false⟩])
  (.seq (.regN [0, 1, 4, 5, 6, 7, 8, 9] [
    ⟨(some 49), none, .mv (.tmp 1), 0, false⟩,
    ⟨(some 50), none, .call 14 [(.tmp 49), (.con (.val (.int .i64 1))), (.con (.val (.int .i64 3)))], 0, false⟩,
    ⟨(some 48), none, .mv (.tmp 50), 0, false⟩,
    ⟨(some 51), none, .ext (.tmp 48) 0, 0, false⟩,
    ⟨(some 52), none, .ext (.tmp 48) 1, 0, false⟩,
    ⟨(some 10), none, .mv (.tmp 51), 0, false⟩,
    ⟨(some 11), none, .mv (.tmp 52), 0, false⟩])
  (.seq (.regN [0, 1, 4, 5, 6, 7, 8, 9, 10, 11] [
    ⟨(some 54), none, .mv (.tmp 1), 0, false⟩,
    ⟨(some 55), none, .call 14 [(.tmp 54), (.con (.val (.int .i64 3))), (.con (.val (.int .i64 2)))], 0, false⟩,
    ⟨(some 53), none, .mv (.tmp 55), 0, false⟩,
    ⟨(some 56), none, .ext (.tmp 53) 0, 0, false⟩,
    ⟨(some 57), none, .ext (.tmp 53) 1, 0, false⟩,
    ⟨(some 12), none, .mv (.tmp 56), 0, false⟩,
    ⟨(some 13), none, .mv (.tmp 57), 0, false⟩])
  (.seq (.regN [0, 1, 4, 5, 6, 7, 8, 9, 10, 11, 13] [
    ⟨(some 59), none, .mv (.tmp 1), 0, false⟩,
    ⟨(some 60), none, .call 18 [(.tmp 59), (.con (.val (.int .i64 5)))], 0, false⟩,
    ⟨(some 58), none, .mv (.tmp 60), 0, false⟩,
    ⟨(some 61), none, .ext (.tmp 58) 0, 0, false⟩,
    ⟨(some 62), none, .ext (.tmp 58) 1, 0, false⟩,
    ⟨(some 14), none, .mv (.tmp 61), 0, false⟩,
    ⟨(some 15), none, .mv (.tmp 62), 0, false⟩])
  (.seq (.regN [0, 1, 4, 5, 6, 7, 8, 9, 10, 11, 13, 14, 15] [
    ⟨(some 64), none, .mv (.tmp 1), 0, false⟩,
    ⟨(some 65), none, .call 18 [(.tmp 64), (.con (.val (.int .i64 6)))], 0, false⟩,
    ⟨(some 63), none, .mv (.tmp 65), 0, false⟩,
    ⟨(some 66), none, .ext (.tmp 63) 0, 0, false⟩,
    ⟨(some 67), none, .ext (.tmp 63) 1, 0, false⟩,
    ⟨(some 16), none, .mv (.tmp 66), 0, false⟩,
    ⟨(some 17), none, .mv (.tmp 67), 0, false⟩])
  (.seq (.regN [0, 1, 4, 5, 6, 7, 8, 9, 10, 11, 13, 14, 15, 17] [
    ⟨(some 68), none, .mv (.tmp 1), 0, false⟩,
    ⟨(some 69), none, .call 20 [(.tmp 68)], 0, false⟩])
  (.seq (.regN [0, 1, 4, 5, 6, 7, 8, 9, 10, 11, 13, 14, 15, 17] [
    ⟨(some 18), none, .allocH [(.val (.int .i64 0))], 0, false⟩,
    ⟨none, none, .st none 1 (.tmp 18) (.con (.val (.int .i64 0))), 0, false⟩])
  (.seq (.regN [0, 1, 4, 5, 6, 7, 8, 9, 10, 11, 13, 14, 15, 17, 18] [
    ⟨(some 70), none, .mv (.tmp 1), 0, false⟩,
    ⟨(some 71), none, .call 15 [(.tmp 70)], 0, false⟩,
    ⟨(some 19), none, .mv (.tmp 71), 0, false⟩])
  (.seq (.seq (.regN [0, 1, 4, 5, 6, 7, 8, 9, 10, 11, 13, 14, 15, 17, 18, 19] [
    ⟨(some 72), none, .mv (.tmp 19), 0, false⟩,
    ⟨(some 73), none, .eqf false (.tmp 72) (.con (.val .nilFunc)), 0, false⟩])
  (.cond (.tmp 73)
    (.seq (.regN [] [
      ⟨(some 0), none, .mv (.con (.val (.bool false))), 0, false⟩])
    .ret)
    .skip))
  (.seq (.seq (.regN [0, 1, 4, 5, 6, 7, 8, 9, 10, 11, 13, 14, 15, 17, 18, 19] [
    ⟨(some 74), none, .mv (.tmp 19), 0, false⟩])
  (.block 0
    (.rangeF [0, 1, 4, 5, 6, 7, 8, 9, 10, 11, 13, 14, 15, 17, 18, 74] pieceIt (.tmp 74) [75]
      .skip
      (.block 1
        (.regN [18] [
          ⟨(some 76), none, .ld1 none (.tmp 18), 0, false⟩,
          ⟨(some 77), none, .bini .add (.tmp 76) (.con (.val (.int .i64 1))), 0, false⟩,
          ⟨none, none, .st none 1 (.tmp 18) (.tmp 77), 0, false⟩])))))
  (.seq (.regN [1, 4, 5, 6, 7, 8, 9, 10, 11, 13, 14, 15, 17, 18] [
    ⟨(some 79), none, .mv (.tmp 9), 0, false⟩,
    ⟨(some 80), none, .call 21 [(.tmp 79)], 0, false⟩,
    ⟨(some 78), none, .mv (.tmp 80), 0, false⟩,
    ⟨(some 81), none, .ext (.tmp 78) 0, 0, false⟩,
    ⟨(some 82), none, .ext (.tmp 78) 1, 0, false⟩,
    ⟨(some 20), none, .mv (.tmp 81), 0, false⟩,
    ⟨(some 21), none, .mv (.tmp 82), 0, false⟩])
  (.seq (.regN [1, 4, 5, 6, 7, 8, 9, 10, 11, 13, 14, 15, 17, 18, 20, 21] [
    ⟨(some 83), none, .mv (.tmp 4), 0, false⟩,
    ⟨(some 84), none, .bini .eql (.tmp 83) (.con (.val (.int .i64 3))), 0, false⟩,
    ⟨(some 85), none, .mv (.tmp 84), 0, false⟩,
    ⟨(some 86), (some (85, true)), .mv (.tmp 5), 0, false⟩,
    ⟨(some 87), (some (85, true)), .bini .eql (.tmp 86) (.con (.val (.int .i64 2))), 0, false⟩,
    ⟨(some 88), none, .pick (.tmp 85) (.tmp 87) (.con (.val (.bool false))), 0, false⟩,
    ⟨(some 89), none, .mv (.tmp 88), 0, false⟩,
    ⟨(some 90), (some (89, true)), .mv (.tmp 6), 0, false⟩,
    ⟨(some 91), (some (89, true)), .bini .eql (.tmp 90) (.con (.val (.int .i64 2))), 0, false⟩,
    ⟨(some 92), none, .pick (.tmp 89) (.tmp 91) (.con (.val (.bool false))), 0, false⟩,
    ⟨(some 93), none, .mv (.tmp 92), 0, false⟩,
    ⟨(some 94), (some (93, true)), .mv (.tmp 7), 0, false⟩,
    ⟨(some 95), (some (93, true)), .bini .eql (.tmp 94) (.con (.val (.int .i64 3))), 0, false⟩,
    ⟨(some 96), none, .pick (.tmp 93) (.tmp 95) (.con (.val (.bool false))), 0, false⟩,
    ⟨(some 97), none, .mv (.tmp 96), 0, false⟩,
    ⟨(some 98), (some (97, true)), .mv (.tmp 8), 0, false⟩,
    ⟨(some 99), (some (97, true)), .bini .eql (.tmp 98) (.con (.val (.int .i64 0))), 0, false⟩,
    ⟨(some 100), none, .pick (.tmp 97) (.tmp 99) (.con (.val (.bool false))), 0, false⟩,
    ⟨(some 101), none, .mv (.tmp 100), 0, false⟩,
    ⟨(some 102), (some (101, true)), .mv (.tmp 1), 0, false⟩,
    ⟨(some 103), (some (101, true)), .call 13 [(.tmp 102)], 0, false⟩,
    ⟨(some 104), (some (101, true)), .bins .eql (.tmp 103) (.con (.val (.string ⟨#[104, 101, 108, 108, 111, 33]⟩))), 0, false⟩,
    ⟨(some 105), none, .pick (.tmp 101) (.tmp 104) (.con (.val (.bool false))), 0, false⟩,
    ⟨(some 106), none, .mv (.tmp 105), 0, false⟩,
    ⟨(some 107), (some (106, true)), .mv (.tmp 9), 0, false⟩,
    ⟨(some 108), (some (106, true)), .call 17 [(.tmp 107)], 0, false⟩,
    ⟨(some 109), (some (106, true)), .bini .eql (.tmp 108) (.con (.val (.int .i64 0))), 0, false⟩,
    ⟨(some 110), none, .pick (.tmp 106) (.tmp 109) (.con (.val (.bool false))), 0, false⟩,
    ⟨(some 111), none, .mv (.tmp 110), 0, false⟩,
    ⟨(some 112), (some (111, true)), .mv (.tmp 21), 0, false⟩,
    ⟨(some 113), none, .pick (.tmp 111) (.tmp 112) (.con (.val (.bool false))), 0, false⟩,
    ⟨(some 114), none, .mv (.tmp 113), 0, false⟩,
    ⟨(some 115), (some (114, true)), .mv (.tmp 20), 0, false⟩,
    ⟨(some 116), (some (114, true)), .bins .eql (.tmp 115) (.con (.val (.string ⟨#[]⟩))), 0, false⟩,
    ⟨(some 117), none, .pick (.tmp 114) (.tmp 116) (.con (.val (.bool false))), 0, false⟩,
    ⟨(some 118), none, .mv (.tmp 117), 0, false⟩,
    ⟨(some 119), (some (118, true)), .mv (.tmp 11), 0, false⟩,
    ⟨(some 120), (some (118, true)), .bini .eql (.tmp 119) (.con (.val (.int .i64 0))), 0, false⟩,
    ⟨(some 121), none, .pick (.tmp 118) (.tmp 120) (.con (.val (.bool false))), 0, false⟩,
    ⟨(some 122), none, .mv (.tmp 121), 0, false⟩,
    ⟨(some 123), (some (122, true)), .mv (.tmp 10), 0, false⟩,
    ⟨(some 124), (some (122, true)), .bins .eql (.tmp 123) (.con (.val (.string ⟨#[101, 108]⟩))), 0, false⟩,
    ⟨(some 125), none, .pick (.tmp 122) (.tmp 124) (.con (.val (.bool false))), 0, false⟩,
    ⟨(some 126), none, .mv (.tmp 125), 0, false⟩,
    ⟨(some 127), (some (126, true)), .mv (.tmp 13), 0, false⟩,
    ⟨(some 128), (some (126, true)), .bini .eql (.tmp 127) (.con (.val (.int .i64 2))), 0, false⟩,
    ⟨(some 129), none, .pick (.tmp 126) (.tmp 128) (.con (.val (.bool false))), 0, false⟩,
    ⟨(some 130), none, .mv (.tmp 129), 0, false⟩,
    ⟨(some 131), (some (130, true)), .mv (.tmp 15), 0, false⟩,
    ⟨(some 132), none, .pick (.tmp 130) (.tmp 131) (.con (.val (.bool false))), 0, false⟩,
    ⟨(some 133), none, .mv (.tmp 132), 0, false⟩,
    ⟨(some 134), (some (133, true)), .mv (.tmp 14), 0, false⟩,
    ⟨(some 135), (some (133, true)), .bini .eql (.tmp 134) (.con (.val (.int .u8 33))), 0, false⟩,
    ⟨(some 136), none, .pick (.tmp 133) (.tmp 135) (.con (.val (.bool false))), 0, false⟩,
    ⟨(some 137), none, .mv (.tmp 136), 0, false⟩,
    ⟨(some 138), (some (137, true)), .mv (.tmp 17), 0, false⟩,
    ⟨(some 139), (some (137, true)), .not (.tmp 138), 0, false⟩,
    ⟨(some 140), none, .pick (.tmp 137) (.tmp 139) (.con (.val (.bool false))), 0, false⟩,
    ⟨(some 141), none, .mv (.tmp 140), 0, false⟩,
    ⟨(some 142), (some (141, true)), .ld1 none (.tmp 18), 0, false⟩,
    ⟨(some 143), (some (141, true)), .bini .eql (.tmp 142) (.con (.val (.int .i64 1))), 0, false⟩,
    ⟨(some 144), none, .pick (.tmp 141) (.tmp 143) (.con (.val (.bool false))), 0, false⟩,
    ⟨(some 0), none, .mv (.tmp 144), 0, false⟩])
  .ret)))))))))))))))))))))
def u6 : AFn := ⟨0, u6B,
  [.tmp 0], true⟩
def u7L1 : AC := (.seq (.seq (.regN [1, 2, 3, 4, 11, 13, 15] [
        ⟨(some 54), none, .mv (.tmp 15), 0, false⟩,
        ⟨(some 55), none, .mv (.tmp 1), 0, false⟩,
        ⟨(some 56), none, .len false (.tmp 55), 0, false⟩,
        ⟨(some 57), none, .bini .lss (.tmp 54) (.tmp 56), 0, false⟩])
      (.cond (.tmp 57)
        .skip
        (.exit 0)))
      (.seq (.block 1
        (.seq (.seq (.regN [1, 2, 3, 4, 11, 13, 15] [
          ⟨(some 60), none, .mv (.tmp 1), 0, false⟩,
          ⟨(some 61), none, .mv (.tmp 15), 0, false⟩,
          ⟨(some 62), none, .ixA 4 (.tmp 60) (.tmp 61), 0, false⟩,
          ⟨(some 63), none, .fldA 0 (.tmp 62), 0, false⟩,
          ⟨(some 64), none, .ld1 none (.tmp 63), 0, false⟩,
          ⟨(some 65), none, .call 16 [(.tmp 64), (.con (.val (.int .i64 5)))], 0, false⟩])
        (.block 2
          (.seq (.regN [1, 2, 3, 4, 11, 13, 15, 65] [
            ⟨(some 102), none, .bini .eql (.tmp 65) (.con (.val (.int .i64 3))), 0, false⟩,
            ⟨(some 101), none, .mv (.tmp 102), 0, false⟩])
          (.cond (.tmp 101)
            (.regN [1, 2, 3, 4, 11, 13, 15] [
              ⟨(some 103), none, .mv (.tmp 11), 0, false⟩,
              ⟨(some 104), none, .call 20 [(.tmp 103)], 0, false⟩])
            (.seq (.regN [1, 2, 3, 4, 11, 13, 15, 65] [
              ⟨(some 106), none, .bini .eql (.tmp 65) (.con (.val (.int .i64 4))), 0, false⟩,
              ⟨(some 105), none, .mv (.tmp 106), 0, false⟩])
            (.cond (.tmp 105)
              (.seq (.regN [1, 2, 3, 4, 11, 13, 15] [
                ⟨(some 107), none, .mv (.tmp 11), 0, false⟩,
                ⟨(some 108), none, .call 19 [(.tmp 107)], 0, false⟩,
                ⟨(some 16), none, .mv (.tmp 108), 0, false⟩])
              (.seq (.regN [1, 2, 3, 4, 11, 13, 15, 16] [
                ⟨(some 109), none, .mv (.tmp 11), 0, false⟩,
                ⟨(some 110), none, .mv (.tmp 11), 0, false⟩,
                ⟨(some 111), none, .call 17 [(.tmp 110)], 0, false⟩,
                ⟨(some 112), none, .call 12 [(.tmp 109), (.con (.val (.int .i64 0))), (.tmp 111), (.con (.val (.string ⟨#[122, 122]⟩)))], 0, false⟩])
              (.seq (.regN [1, 2, 3, 4, 13, 15, 16] [
                ⟨(some 113), none, .mv (.tmp 16), 0, false⟩,
                ⟨(some 11), none, .mv (.tmp 113), 0, false⟩])
              (.seq (.regN [1, 2, 3, 4, 11, 13, 15] [
                ⟨(some 114), none, .mv (.tmp 11), 0, false⟩,
                ⟨(some 115), none, .eqp false (.tmp 114) (.con (.val (.pointer none))), 0, false⟩])
              (.cond (.tmp 115)
                (.seq (.regN [] [
                  ⟨(some 10), none, .mv (.con (.val (.bool false))), 0, false⟩])
                .ret)
                .skip)))))
              (.seq (.regD [1, 2, 3, 4, 11, 13, 15] 0 [
                ⟨(some 66), none, .mv (.tmp 11), 0, false⟩,
                ⟨(some 67), none, .mv (.tmp 1), 0, false⟩,
                ⟨(some 68), none, .mv (.tmp 15), 0, false⟩,
                ⟨(some 69), none, .ixA 4 (.tmp 67) (.tmp 68), 0, false⟩,
                ⟨(some 70), none, .fldA 1 (.tmp 69), 0, false⟩,
                ⟨(some 71), none, .ld1 none (.tmp 70), 0, false⟩,
                ⟨(some 72), none, .mv (.tmp 1), 0, false⟩,
                ⟨(some 73), none, .mv (.tmp 15), 0, false⟩,
                ⟨(some 74), none, .ixA 4 (.tmp 72) (.tmp 73), 0, false⟩,
                ⟨(some 75), none, .fldA 2 (.tmp 74), 0, false⟩,
                ⟨(some 76), none, .ld1 none (.tmp 75), 0, false⟩,
                ⟨(some 77), none, .mv (.tmp 1), 0, false⟩,
                ⟨(some 78), none, .mv (.tmp 15), 0, false⟩,
                ⟨(some 79), none, .ixA 4 (.tmp 77) (.tmp 78), 0, false⟩,
                ⟨(some 80), none, .fldA 3 (.tmp 79), 0, false⟩,
                ⟨(some 81), none, .ld1 none (.tmp 80), 0, false⟩,
                ⟨(some 82), none, .call 12 [(.tmp 66), (.tmp 71), (.tmp 76), (.tmp 81)], 0, true⟩,
                ⟨(some 83), none, .mv (.tmp 13), 0, false⟩,
                ⟨(some 84), none, .mv (.tmp 1), 0, false⟩,
                ⟨(some 85), none, .mv (.tmp 15), 0, false⟩,
                ⟨(some 86), none, .ixA 4 (.tmp 84) (.tmp 85), 0, false⟩,
                ⟨(some 87), none, .fldA 1 (.tmp 86), 0, false⟩,
                ⟨(some 88), none, .ld1 none (.tmp 87), 0, true⟩,
                ⟨(some 89), none, .mv (.tmp 1), 0, false⟩,
                ⟨(some 90), none, .mv (.tmp 15), 0, false⟩,
                ⟨(some 91), none, .ixA 4 (.tmp 89) (.tmp 90), 0, false⟩,
                ⟨(some 92), none, .fldA 2 (.tmp 91), 0, false⟩,
                ⟨(some 93), none, .ld1 none (.tmp 92), 0, true⟩,
                ⟨(some 94), none, .mv (.tmp 1), 0, false⟩,
                ⟨(some 95), none, .mv (.tmp 15), 0, false⟩,
                ⟨(some 96), none, .ixA 4 (.tmp 94) (.tmp 95), 0, false⟩,
                ⟨(some 97), none, .fldA 3 (.tmp 96), 0, false⟩,
                ⟨(some 98), none, .ld1 none (.tmp 97), 0, true⟩,
                ⟨(some 99), none, .call 23 [(.tmp 83), (.tmp 88), (.tmp 93), (.tmp 98)], 0, true⟩,
                ⟨(some 100), none, .bini .neq (.tmp 82) (.tmp 99), 0, false⟩])
              (.cond (.tmp 100)
                (.seq (.regN [] [
                  ⟨(some 10), none, .mv (.con (.val (.bool false))), 0, false⟩])
                .ret)
                .skip))))))))
        (.seq (.regN [1, 2, 3, 4, 11, 13, 15] [
          ⟨(some 117), none, .mv (.tmp 11), 0, false⟩,
          ⟨(some 118), none, .mv (.tmp 2), 0, false⟩,
          ⟨(some 119), none, .mv (.tmp 3), 0, false⟩,
          ⟨(some 120), none, .call 14 [(.tmp 117), (.tmp 118), (.tmp 119)], 0, false⟩,
          ⟨(some 116), none, .mv (.tmp 120), 0, false⟩,
          ⟨(some 121), none, .ext (.tmp 116) 0, 0, false⟩,
          ⟨(some 122), none, .ext (.tmp 116) 1, 0, false⟩,
          ⟨(some 17), none, .mv (.tmp 121), 0, false⟩,
          ⟨(some 18), none, .mv (.tmp 122), 0, false⟩])
        (.seq (.regN [1, 2, 3, 4, 11, 13, 15, 17, 18] [
          ⟨(some 124), none, .mv (.tmp 13), 0, false⟩,
          ⟨(some 125), none, .mv (.tmp 2), 0, false⟩,
          ⟨(some 126), none, .mv (.tmp 3), 0, false⟩,
          ⟨(some 127), none, .call 24 [(.tmp 124), (.tmp 125), (.tmp 126)], 0, false⟩,
          ⟨(some 123), none, .mv (.tmp 127), 0, false⟩,
          ⟨(some 128), none, .ext (.tmp 123) 0, 0, false⟩,
          ⟨(some 129), none, .ext (.tmp 123) 1, 0, false⟩,
          ⟨(some 19), none, .mv (.tmp 128), 0, false⟩,
          ⟨(some 20), none, .mv (.tmp 129), 0, false⟩])
        (.seq (.regN [1, 2, 3, 4, 11, 13, 15, 17, 18, 19, 20] [
          ⟨(some 131), none, .mv (.tmp 11), 0, false⟩,
          ⟨(some 132), none, .mv (.tmp 4), 0, false⟩,
          ⟨(some 133), none, .call 18 [(.tmp 131), (.tmp 132)], 0, false⟩,
          ⟨(some 130), none, .mv (.tmp 133), 0, false⟩,
          ⟨(some 134), none, .ext (.tmp 130) 0, 0, false⟩,
          ⟨(some 135), none, .ext (.tmp 130) 1, 0, false⟩,
          ⟨(some 21), none, .mv (.tmp 134), 0, false⟩,
          ⟨(some 22), none, .mv (.tmp 135), 0, false⟩])
        (.seq (.regN [1, 2, 3, 4, 11, 13, 15, 17, 18, 19, 20, 21, 22] [
          ⟨(some 137), none, .mv (.tmp 13), 0, false⟩,
          ⟨(some 138), none, .mv (.tmp 4), 0, false⟩,
          ⟨(some 139), none, .call 25 [(.tmp 137), (.tmp 138)], 0, false⟩,
          ⟨(some 136), none, .mv (.tmp 139), 0, false⟩,
          ⟨(some 140), none, .ext (.tmp 136) 0, 0, false⟩,
          ⟨(some 141), none, .ext (.tmp 136) 1, 0, false⟩,
          ⟨(some 23), none, .mv (.tmp 140), 0, false⟩,
          ⟨(some 24), none, .mv (.tmp 141), 0, false⟩])
        (.seq (.regN [1, 2, 3, 4, 11, 13, 15, 17, 18, 19, 20, 21, 22, 23, 24] [
          ⟨(some 143), none, .mv (.tmp 11), 0, false⟩,
          ⟨(some 144), none, .call 21 [(.tmp 143)], 0, false⟩,
          ⟨(some 142), none, .mv (.tmp 144), 0, false⟩,
          ⟨(some 145), none, .ext (.tmp 142) 0, 0, false⟩,
          ⟨(some 146), none, .ext (.tmp 142) 1, 0, false⟩,
          ⟨(some 25), none, .mv (.tmp 145), 0, false⟩,
          ⟨(some 26), none, .mv (.tmp 146), 0, false⟩])
        (.seq (.regD [1, 2, 3, 4, 11, 13, 15, 17, 18, 19, 20, 21, 22, 23, 24, 25, 26] 0 [
          ⟨(some 147), none, .mv (.tmp 11), 0, false⟩,
          ⟨(some 148), none, .call 13 [(.tmp 147)], 0, false⟩,
          ⟨(some 149), none, .mv (.tmp 13), 0, false⟩,
          ⟨(some 150), none, .nilc (.tmp 149), 0, false⟩,
          ⟨(some 151), none, .fldA 0 (.tmp 150), 0, false⟩,
          ⟨(some 152), none, .ld1 none (.tmp 151), 0, false⟩,
          ⟨(some 153), none, .bins .neq (.tmp 148) (.tmp 152), 0, false⟩,
          ⟨(some 154), none, .mv (.tmp 153), 0, false⟩,
          ⟨(some 155), (some (154, false)), .mv (.tmp 11), 0, false⟩,
          ⟨(some 156), (some (154, false)), .call 17 [(.tmp 155)], 0, false⟩,
          ⟨(some 157), (some (154, false)), .mv (.tmp 13), 0, false⟩,
          ⟨(some 158), (some (154, false)), .nilc (.tmp 157), 0, false⟩,
          ⟨(some 159), (some (154, false)), .fldA 0 (.tmp 158), 0, false⟩,
          ⟨(some 160), (some (154, false)), .ld1 none (.tmp 159), 0, false⟩,
          ⟨(some 161), (some (154, false)), .len true (.tmp 160), 0, false⟩,
          ⟨(some 162), (some (154, false)), .bini .neq (.tmp 156) (.tmp 161), 0, false⟩,
          ⟨(some 163), none, .pick (.tmp 154) (.con (.val (.bool true))) (.tmp 162), 0, false⟩,
          ⟨(some 164), none, .mv (.tmp 163), 0, false⟩,
          ⟨(some 165), (some (164, false)), .mv (.tmp 17), 0, false⟩,
          ⟨(some 166), (some (164, false)), .mv (.tmp 19), 0, false⟩,
          ⟨(some 167), (some (164, false)), .bins .neq (.tmp 165) (.tmp 166), 0, false⟩,
          ⟨(some 168), none, .pick (.tmp 164) (.con (.val (.bool true))) (.tmp 167), 0, false⟩,
          ⟨(some 169), none, .mv (.tmp 168), 0, false⟩,
          ⟨(some 170), (some (169, false)), .mv (.tmp 18), 0, false⟩,
          ⟨(some 171), (some (169, false)), .mv (.tmp 20), 0, false⟩,
          ⟨(some 172), (some (169, false)), .bini .neq (.tmp 170) (.tmp 171), 0, false⟩,
          ⟨(some 173), none, .pick (.tmp 169) (.con (.val (.bool true))) (.tmp 172), 0, false⟩,
          ⟨(some 174), none, .mv (.tmp 173), 0, false⟩,
          ⟨(some 175), (some (174, false)), .mv (.tmp 21), 0, false⟩,
          ⟨(some 176), (some (174, false)), .mv (.tmp 23), 0, false⟩,
          ⟨(some 177), (some (174, false)), .bini .neq (.tmp 175) (.tmp 176), 0, false⟩,
          ⟨(some 178), none, .pick (.tmp 174) (.con (.val (.bool true))) (.tmp 177), 0, false⟩,
          ⟨(some 179), none, .mv (.tmp 178), 0, false⟩,
          ⟨(some 180), (some (179, false)), .mv (.tmp 22), 0, false⟩,
          ⟨(some 181), (some (179, false)), .mv (.tmp 24), 0, false⟩,
          ⟨(some 182), (some (179, false)), .eqb true (.tmp 180) (.tmp 181), 0, false⟩,
          ⟨(some 183), none, .pick (.tmp 179) (.con (.val (.bool true))) (.tmp 182), 0, false⟩,
          ⟨(some 184), none, .mv (.tmp 183), 0, false⟩,
          ⟨(some 185), (some (184, false)), .mv (.tmp 26), 0, false⟩,
          ⟨(some 186), (some (184, false)), .not (.tmp 185), 0, false⟩,
          ⟨(some 187), none, .pick (.tmp 184) (.con (.val (.bool true))) (.tmp 186), 0, false⟩,
          ⟨(some 188), none, .mv (.tmp 187), 0, false⟩,
          ⟨(some 189), (some (188, false)), .mv (.tmp 25), 0, false⟩,
          ⟨(some 190), (some (188, false)), .mv (.tmp 13), 0, false⟩,
          ⟨(some 191), (some (188, false)), .nilc (.tmp 190), 0, false⟩,
          ⟨(some 192), (some (188, false)), .fldA 0 (.tmp 191), 0, false⟩,
          ⟨(some 193), (some (188, false)), .ld1 none (.tmp 192), 0, false⟩,
          ⟨(some 194), (some (188, false)), .bins .neq (.tmp 189) (.tmp 193), 0, false⟩,
          ⟨(some 195), none, .pick (.tmp 188) (.con (.val (.bool true))) (.tmp 194), 0, false⟩])
        (.cond (.tmp 195)
          (.seq (.regN [] [
            ⟨(some 10), none, .mv (.con (.val (.bool false))), 0, false⟩])
          .ret)
          .skip)))))))))
      (.regN [1, 2, 3, 4, 11, 13, 15] [
        ⟨(some 58), none, .mv (.tmp 15), 0, false⟩,
        ⟨(some 59), none, .bini .add (.tmp 58) (.con (.val (.int .i64 1))), 0, false⟩,
        ⟨(some 15), none, .mv (.tmp 59), 0, false⟩])))
def u7B : AC := (.seq (.regN [0, 1, 2, 3, 4] [
    ⟨(some 10), none, .mv (.con (.val (.bool false))), 0, false⟩])
  (.seq (.seq (.regN [0, 1, 2, 3, 4] [
    ⟨(some 27), none, .call 8 [], 0, false⟩,
    ⟨(some 28), none, .not (.tmp 27), 0, false⟩])
  (.cond (.tmp 28)
    (.seq (.regN [] [
      ⟨(some 10), none, .mv (.con (.val (.bool false))), 0, false⟩])
    .ret)
    .skip))
  (.seq (.seq (.regN [0, 1, 2, 3, 4] [
    ⟨(some 29), none, .mv (.tmp 0), 0, false⟩,
    ⟨(some 30), none, .mv (.tmp 1), 0, false⟩,
    ⟨(some 31), none, .call 9 [(.tmp 29), (.tmp 30)], 0, false⟩,
    ⟨(some 32), none, .not (.tmp 31), 0, false⟩])
  (.cond (.tmp 32)
    (.seq (.regN [] [
      ⟨(some 10), none, .mv (.con (.val (.bool true))), 0, false⟩])
    .ret)
    .skip))
  (.seq (.regN [0, 1, 2, 3, 4] [
    ⟨(some 34), none, .mv (.tmp 0), 0, false⟩,
    ⟨(some 35), none, .call 11 [(.tmp 34)], 0, false⟩,
    ⟨(some 33), none, .mv (.tmp 35), 0, false⟩,
    ⟨(some 36), none, .ext (.tmp 33) 0, 0, false⟩,
    ⟨(some 37), none, .ext (.tmp 33) 1, 0, false⟩,
    ⟨(some 11), none, .mv (.tmp 36), 0, false⟩,
    ⟨(some 12), none, .mv (.tmp 37), 0, false⟩])
  (.seq (.regN [0, 1, 2, 3, 4, 11, 12] [
    ⟨(some 39), none, .mv (.tmp 0), 0, false⟩,
    ⟨(some 40), none, .call 22 [(.tmp 39)], 0, false⟩,
    ⟨(some 38), none, .mv (.tmp 40), 0, false⟩,
    ⟨(some 41), none, .ext (.tmp 38) 0, 0, false⟩,
    ⟨(some 42), none, .ext (.tmp 38) 1, 0, false⟩,
    ⟨(some 13), none, .mv (.tmp 41), 0, false⟩,
    ⟨(some 14), none, .mv (.tmp 42), 0, false⟩])
  (.seq (.seq (.regN [1, 2, 3, 4, 11, 12, 13, 14] [
    ⟨(some 43), none, .mv (.tmp 12), 0, false⟩,
    ⟨(some 44), none, .mv (.tmp 14), 0, false⟩,
    ⟨(some 45), none, .bini .neq (.tmp 43) (.tmp 44), 0, false⟩,
    ⟨(some 46), none, .mv (.tmp 45), 0, false⟩,
    ⟨(some 47), (some (46, false)), .mv (.tmp 11), 0, false⟩,
    ⟨(some 48), (some (46, false)), .eqp false (.tmp 47) (.con (.val (.pointer none))), 0, false⟩,
    ⟨(some 49), none, .pick (.tmp 46) (.con (.val (.bool true))) (.tmp 48), 0, false⟩,
    ⟨(some 50), none, .mv (.tmp 49), 0, false⟩,
    ⟨(some 51), (some (50, false)), .mv (.tmp 13), 0, false⟩,
    ⟨(some 52), (some (50, false)), .eqp false (.tmp 51) (.con (.val (.pointer none))), 0, false⟩,
    ⟨(some 53), none, .pick (.tmp 50) (.con (.val (.bool true))) (.tmp 52), 0, false⟩])
  (.cond (.tmp 53)
    (.seq (.regN [] [
      ⟨(some 10), none, .mv (.con (.val (.bool false))), 0, false⟩])
    .ret)
    .skip))
  (.seq (.seq (.regN [1, 2, 3, 4, 11, 13] [
    ⟨(some 15), none, .mv (.con (.val (.int .i64 0))), 0, false⟩])
  (.block 0
    (.loop [1, 2, 3, 4, 11, 13, 15] u7L1)))
  (.seq (.regN [] [
    ⟨(some 10), none, .mv (.con (.val (.bool true))), 0, false⟩])
  .ret))))))))
def u7 : AFn := ⟨5, u7B,
  [.tmp 10], true⟩
def u21B : AC := (.seq (.regN [0] [
    ⟨(some 2), none, .allocH [(.val (.string ⟨#[]⟩))], 0, false⟩,
    ⟨(some 3), none, .allocH [(.val (.bool false))], 0, false⟩])
  (.seq (.regN [0, 2, 3] [
    ⟨(some 8), none, .mv (.tmp 0), 0, false⟩,
    ⟨(some 9), none, .call 15 [(.tmp 8)], 0, false⟩,
    ⟨(some 4), none, .mv (.tmp 9), 0, false⟩])
  (.seq (.seq (.regN [2, 3, 4] [
    ⟨(some 10), none, .mv (.tmp 4), 0, false⟩,
    ⟨(some 11), none, .eqf false (.tmp 10) (.con (.val .nilFunc)), 0, false⟩])
  (.cond (.tmp 11)
    (.seq (.regN [2, 3] [
      ⟨none, none, .st none 1 (.tmp 2) (.con (.val (.string ⟨#[]⟩))), 0, false⟩,
      ⟨none, none, .st none 1 (.tmp 3) (.con (.val (.bool false))), 0, false⟩])
    .ret)
    .skip))
  (.seq (.regN [2, 3, 4] [
    ⟨(some 5), none, .allocH [(.val (.string ⟨#[]⟩))], 0, false⟩,
    ⟨(some 6), none, .allocH [(.val (.int .i64 0))], 0, false⟩,
    ⟨none, none, .st none 1 (.tmp 5) (.con (.val (.string ⟨#[]⟩))), 0, false⟩,
    ⟨none, none, .st none 1 (.tmp 6) (.con (.val (.int .i64 0))), 0, false⟩])
  (.seq (.seq (.regN [2, 3, 4, 5, 6] [
    ⟨(some 12), none, .mv (.tmp 4), 0, false⟩])
  (.block 0
    (.rangeF [2, 3, 5, 6, 12] pieceIt (.tmp 12) [13]
      (.regN [2, 3, 5, 6, 13] [
        ⟨(some 7), none, .mv (.tmp 13), 0, false⟩])
      (.block 1
        (.seq (.regN [2, 3, 5, 6, 7] [
          ⟨(some 14), none, .ld1 none (.tmp 6), 0, false⟩,
          ⟨(some 15), none, .bini .add (.tmp 14) (.con (.val (.int .i64 1))), 0, false⟩,
          ⟨none, none, .st none 1 (.tmp 6) (.tmp 15), 0, false⟩])
        (.seq (.seq (.regN [2, 3, 5, 6, 7] [
          ⟨(some 16), none, .mv (.tmp 7), 0, false⟩,
          ⟨(some 17), none, .bins .eql (.tmp 16) (.con (.val (.string ⟨#[]⟩))), 0, false⟩,
          ⟨(some 18), none, .mv (.tmp 17), 0, false⟩,
          ⟨(some 19), (some (18, false)), .ld1 none (.tmp 6), 0, false⟩,
          ⟨(some 20), (some (18, false)), .bini .gtr (.tmp 19) (.con (.val (.int .i64 65536))), 0, false⟩,
          ⟨(some 21), none, .pick (.tmp 18) (.con (.val (.bool true))) (.tmp 20), 0, false⟩])
        (.cond (.tmp 21)
          (.seq (.regN [2, 3] [
            ⟨none, none, .st none 1 (.tmp 2) (.con (.val (.string ⟨#[]⟩))), 0, false⟩,
            ⟨none, none, .st none 1 (.tmp 3) (.con (.val (.bool false))), 0, false⟩])
          .ret)
          .skip))
        (.regN [5, 7] [
          ⟨(some 22), none, .ld1 none (.tmp 5), 0, false⟩,
          ⟨(some 23), none, .mv (.tmp 7), 0, false⟩,
          ⟨(some 24), none, .bins .add (.tmp 22) (.tmp 23), 0, false⟩,
          ⟨none, none, .st none 1 (.tmp 5) (.tmp 24), 0, false⟩])))))))
  (.seq (.regN [2, 3, 5] [
    ⟨(some 25), none, .ld1 none (.tmp 5), 0, false⟩,
    ⟨none, none, .st none 1 (.tmp 2) (.tmp 25), 0, false⟩,
    ⟨none, none, .st none 1 (.tmp 3) (.con (.val (.bool true))), 0, false⟩])
  .ret))))))
def u21 : AFn := ⟨1, u21B,
  [.cell 2 1 false, .cell 3 1 false], true⟩
def tab2 : List (Nat × AFn) := [(4, u4), (6, u6), (7, u7), (21, u21)]
def A2 : FuncId → Option AFn := assoc tab2
def fs2 : List Nat := [4, 6, 7, 21]
abbrev X2 : Orc := butX fs2 C
abbrev C2 : Orc := callW X2 A2
theorem B4 : A2 4 = some u4 := rfl
theorem B6 : A2 6 = some u6 := rfl
theorem B7 : A2 7 = some u7 := rfl
theorem B21 : A2 21 = some u21 := rfl
theorem up {lk lim : Nat} {f : FuncId} {args : List AV} {H : Heap} {r : AV × Heap} (hf : fs2.contains f = false) (h : C lk lim f args H = some r) : C2 lk lim f args H = some r := callW_prim (butX_of hf h)
end
end Go.Proofs.Ytmehaecclidfjaa
