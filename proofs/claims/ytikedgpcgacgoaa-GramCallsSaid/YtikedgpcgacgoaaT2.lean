/- The functions of a program, compiled: printed by wip/hm/tools/Gen.lean. -/
import Derived.Test.YtikedgpcgacgoaaT1
namespace Go.Proofs.Ytikedgpcgacgoaa
open Go Go.Hm
/-- viewport/viewportref11.Check  -/
def t27L1 : AC := (.seq (.seq (.regN [1, 3] [
        ⟨(some 26), none, .mv (.tmp 3), 0, false⟩,
        ⟨(some 27), none, .fldA 3 (.tmp 1), 0, false⟩,
        ⟨(some 28), none, .ld1 (some 1) (.tmp 27), 0, false⟩,
        ⟨(some 29), none, .len false (.tmp 28), 0, false⟩,
        ⟨(some 30), none, .bini .lss (.tmp 26) (.tmp 29), 0, false⟩])
      (.cond (.tmp 30)
        .skip
        (.exit 0)))
      (.seq (.block 1
        (.seq (.regN [1, 3] [
          ⟨(some 33), none, .fldA 3 (.tmp 1), 0, false⟩,
          ⟨(some 34), none, .ld1 (some 1) (.tmp 33), 0, false⟩,
          ⟨(some 35), none, .mv (.tmp 3), 0, false⟩,
          ⟨(some 36), none, .ixA 2 (.tmp 34) (.tmp 35), 0, false⟩,
          ⟨(some 37), none, .fldA 1 (.tmp 36), 0, false⟩,
          ⟨(some 38), none, .ld1 none (.tmp 37), 0, false⟩,
          ⟨(some 39), none, .len false (.tmp 38), 0, false⟩,
          ⟨(some 40), none, .bini .gtr (.tmp 39) (.con (.val (.int .i64 8))), 0, false⟩])
        (.cond (.tmp 40)
          (.seq (.regN [] [
            ⟨(some 2), none, .mv (.con (.val (.int .i64 3))), 0, false⟩])
          .ret)
          .skip)))
      (.regN [1, 3] [
        ⟨(some 31), none, .mv (.tmp 3), 0, false⟩,
        ⟨(some 32), none, .bini .add (.tmp 31) (.con (.val (.int .i64 1))), 0, false⟩,
        ⟨(some 3), none, .mv (.tmp 32), 0, false⟩])))
def t27L2 : AC := (.seq (.seq (.regN [1, 4, 5, 6] [
              ⟨(some 82), none, .mv (.tmp 6), 0, false⟩,
              ⟨(some 83), none, .fldA 1 (.tmp 5), 0, false⟩,
              ⟨(some 84), none, .ld1 (some 5) (.tmp 83), 0, false⟩,
              ⟨(some 85), none, .len false (.tmp 84), 0, false⟩,
              ⟨(some 86), none, .bini .lss (.tmp 82) (.tmp 85), 0, false⟩])
            (.cond (.tmp 86)
              .skip
              (.exit 4)))
            (.seq (.block 5
              (.seq (.regD [1, 4, 5, 6] 0 [
                ⟨(some 89), none, .fldA 1 (.tmp 5), 0, false⟩,
                ⟨(some 90), none, .ld1 (some 5) (.tmp 89), 0, false⟩,
                ⟨(some 91), none, .mv (.tmp 6), 0, false⟩,
                ⟨(some 92), none, .ixA 1 (.tmp 90) (.tmp 91), 0, false⟩,
                ⟨(some 93), none, .ld1 none (.tmp 92), 0, false⟩,
                ⟨(some 94), none, .bini .lss (.tmp 93) (.con (.val (.int .i64 0))), 0, false⟩,
                ⟨(some 95), none, .mv (.tmp 94), 0, false⟩,
                ⟨(some 96), (some (95, false)), .fldA 1 (.tmp 5), 0, false⟩,
                ⟨(some 97), (some (95, false)), .ld1 (some 5) (.tmp 96), 0, false⟩,
                ⟨(some 98), (some (95, false)), .mv (.tmp 6), 0, false⟩,
                ⟨(some 99), (some (95, false)), .ixA 1 (.tmp 97) (.tmp 98), 0, false⟩,
                ⟨(some 100), (some (95, false)), .ld1 none (.tmp 99), 0, false⟩,
                ⟨(some 101), (some (95, false)), .fldA 0 (.tmp 1), 0, false⟩,
                ⟨(some 102), (some (95, false)), .ld1 (some 1) (.tmp 101), 0, false⟩,
                ⟨(some 103), (some (95, false)), .fldA 1 (.tmp 1), 0, false⟩,
                ⟨(some 104), (some (95, false)), .ld1 (some 1) (.tmp 103), 0, false⟩,
                ⟨(some 105), (some (95, false)), .bini .add (.tmp 102) (.tmp 104), 0, false⟩,
                ⟨(some 106), (some (95, false)), .bini .geq (.tmp 100) (.tmp 105), 0, false⟩,
                ⟨(some 107), none, .pick (.tmp 95) (.con (.val (.bool true))) (.tmp 106), 0, false⟩])
              (.cond (.tmp 107)
                (.seq (.regN [] [
                  ⟨(some 2), none, .mv (.con (.val (.int .i64 2))), 0, false⟩])
                .ret)
                .skip)))
            (.regN [1, 4, 5, 6] [
              ⟨(some 87), none, .mv (.tmp 6), 0, false⟩,
              ⟨(some 88), none, .bini .add (.tmp 87) (.con (.val (.int .i64 1))), 0, false⟩,
              ⟨(some 6), none, .mv (.tmp 88), 0, false⟩])))
def t27L3 : AC := (.seq (.seq (.regN [1, 4] [
        ⟨(some 60), none, .mv (.tmp 4), 0, false⟩,
        ⟨(some 61), none, .fldA 3 (.tmp 1), 0, false⟩,
        ⟨(some 62), none, .ld1 (some 1) (.tmp 61), 0, false⟩,
        ⟨(some 63), none, .len false (.tmp 62), 0, false⟩,
        ⟨(some 64), none, .bini .lss (.tmp 60) (.tmp 63), 0, false⟩])
      (.cond (.tmp 64)
        .skip
        (.exit 2)))
      (.seq (.block 3
        (.seq (.regN [1, 4] [
          ⟨(some 67), none, .fldA 3 (.tmp 1), 0, false⟩,
          ⟨(some 68), none, .ld1 (some 1) (.tmp 67), 0, false⟩,
          ⟨(some 69), none, .mv (.tmp 4), 0, false⟩,
          ⟨(some 70), none, .ixA 2 (.tmp 68) (.tmp 69), 0, false⟩,
          ⟨(some 71), none, .ldA none 2 (.tmp 70), 0, false⟩,
          ⟨(some 5), none, .allocR [(.val (.int .i64 0)), .e0], 0, false⟩,
          ⟨none, none, .st (some 5) 2 (.tmp 5) (.tmp 71), 0, false⟩])
        (.seq (.seq (.regN [1, 4, 5] [
          ⟨(some 72), none, .fldA 0 (.tmp 5), 0, false⟩,
          ⟨(some 73), none, .ld1 (some 5) (.tmp 72), 0, false⟩,
          ⟨(some 74), none, .bini .lss (.tmp 73) (.con (.val (.int .i64 0))), 0, false⟩,
          ⟨(some 75), none, .mv (.tmp 74), 0, false⟩,
          ⟨(some 76), (some (75, false)), .fldA 0 (.tmp 5), 0, false⟩,
          ⟨(some 77), (some (75, false)), .ld1 (some 5) (.tmp 76), 0, false⟩,
          ⟨(some 78), (some (75, false)), .fldA 1 (.tmp 1), 0, false⟩,
          ⟨(some 79), (some (75, false)), .ld1 (some 1) (.tmp 78), 0, false⟩,
          ⟨(some 80), (some (75, false)), .bini .geq (.tmp 77) (.tmp 79), 0, false⟩,
          ⟨(some 81), none, .pick (.tmp 75) (.con (.val (.bool true))) (.tmp 80), 0, false⟩])
        (.cond (.tmp 81)
          (.seq (.regN [] [
            ⟨(some 2), none, .mv (.con (.val (.int .i64 2))), 0, false⟩])
          .ret)
          .skip))
        (.seq (.regN [1, 4, 5] [
          ⟨(some 6), none, .mv (.con (.val (.int .i64 0))), 0, false⟩])
        (.block 4
          (.loop [1, 4, 5, 6] t27L2))))))
      (.regN [1, 4] [
        ⟨(some 65), none, .mv (.tmp 4), 0, false⟩,
        ⟨(some 66), none, .bini .add (.tmp 65) (.con (.val (.int .i64 1))), 0, false⟩,
        ⟨(some 4), none, .mv (.tmp 66), 0, false⟩])))
def t27B : AC := (.seq (.regN [0] [
    ⟨(some 1), none, .boxR 4 (.tmp 0), 0, false⟩,
    ⟨(some 2), none, .mv (.con (.val (.int .i64 0))), 0, false⟩])
  (.seq (.seq (.regN [1] [
    ⟨(some 7), none, .fldA 0 (.tmp 1), 0, false⟩,
    ⟨(some 8), none, .ld1 (some 1) (.tmp 7), 0, false⟩,
    ⟨(some 9), none, .bini .gtr (.tmp 8) (.con (.val (.int .i64 8))), 0, false⟩,
    ⟨(some 10), none, .mv (.tmp 9), 0, false⟩,
    ⟨(some 11), (some (10, false)), .fldA 1 (.tmp 1), 0, false⟩,
    ⟨(some 12), (some (10, false)), .ld1 (some 1) (.tmp 11), 0, false⟩,
    ⟨(some 13), (some (10, false)), .bini .gtr (.tmp 12) (.con (.val (.int .i64 16))), 0, false⟩,
    ⟨(some 14), none, .pick (.tmp 10) (.con (.val (.bool true))) (.tmp 13), 0, false⟩,
    ⟨(some 15), none, .mv (.tmp 14), 0, false⟩,
    ⟨(some 16), (some (15, false)), .fldA 2 (.tmp 1), 0, false⟩,
    ⟨(some 17), (some (15, false)), .ld1 (some 1) (.tmp 16), 0, false⟩,
    ⟨(some 18), (some (15, false)), .bini .gtr (.tmp 17) (.con (.val (.int .i64 3))), 0, false⟩,
    ⟨(some 19), none, .pick (.tmp 15) (.con (.val (.bool true))) (.tmp 18), 0, false⟩,
    ⟨(some 20), none, .mv (.tmp 19), 0, false⟩,
    ⟨(some 21), (some (20, false)), .fldA 3 (.tmp 1), 0, false⟩,
    ⟨(some 22), (some (20, false)), .ld1 (some 1) (.tmp 21), 0, false⟩,
    ⟨(some 23), (some (20, false)), .len false (.tmp 22), 0, false⟩,
    ⟨(some 24), (some (20, false)), .bini .gtr (.tmp 23) (.con (.val (.int .i64 64))), 0, false⟩,
    ⟨(some 25), none, .pick (.tmp 20) (.con (.val (.bool true))) (.tmp 24), 0, false⟩])
  (.cond (.tmp 25)
    (.seq (.regN [] [
      ⟨(some 2), none, .mv (.con (.val (.int .i64 3))), 0, false⟩])
    .ret)
    .skip))
  (.seq (.seq (.regN [1] [
    ⟨(some 3), none, .mv (.con (.val (.int .i64 0))), 0, false⟩])
  (.block 0
    (.loop [1, 3] t27L1)))
  (.seq (.seq (.regN [1] [
    ⟨(some 41), none, .fldA 0 (.tmp 1), 0, false⟩,
    ⟨(some 42), none, .ld1 (some 1) (.tmp 41), 0, false⟩,
    ⟨(some 43), none, .bini .lss (.tmp 42) (.con (.val (.int .i64 1))), 0, false⟩,
    ⟨(some 44), none, .mv (.tmp 43), 0, false⟩,
    ⟨(some 45), (some (44, false)), .fldA 1 (.tmp 1), 0, false⟩,
    ⟨(some 46), (some (44, false)), .ld1 (some 1) (.tmp 45), 0, false⟩,
    ⟨(some 47), (some (44, false)), .bini .lss (.tmp 46) (.con (.val (.int .i64 1))), 0, false⟩,
    ⟨(some 48), none, .pick (.tmp 44) (.con (.val (.bool true))) (.tmp 47), 0, false⟩,
    ⟨(some 49), none, .mv (.tmp 48), 0, false⟩,
    ⟨(some 50), (some (49, false)), .fldA 2 (.tmp 1), 0, false⟩,
    ⟨(some 51), (some (49, false)), .ld1 (some 1) (.tmp 50), 0, false⟩,
    ⟨(some 52), (some (49, false)), .bini .lss (.tmp 51) (.con (.val (.int .i64 1))), 0, false⟩,
    ⟨(some 53), none, .pick (.tmp 49) (.con (.val (.bool true))) (.tmp 52), 0, false⟩,
    ⟨(some 54), none, .mv (.tmp 53), 0, false⟩,
    ⟨(some 55), (some (54, false)), .fldA 3 (.tmp 1), 0, false⟩,
    ⟨(some 56), (some (54, false)), .ld1 (some 1) (.tmp 55), 0, false⟩,
    ⟨(some 57), (some (54, false)), .len false (.tmp 56), 0, false⟩,
    ⟨(some 58), (some (54, false)), .bini .lss (.tmp 57) (.con (.val (.int .i64 1))), 0, false⟩,
    ⟨(some 59), none, .pick (.tmp 54) (.con (.val (.bool true))) (.tmp 58), 0, false⟩])
  (.cond (.tmp 59)
    (.seq (.regN [] [
      ⟨(some 2), none, .mv (.con (.val (.int .i64 2))), 0, false⟩])
    .ret)
    .skip))
  (.seq (.seq (.regN [1] [
    ⟨(some 4), none, .mv (.con (.val (.int .i64 0))), 0, false⟩])
  (.block 2
    (.loop [1, 4] t27L3)))
  (.seq (.regN [] [
    ⟨(some 2), none, .mv (.con (.val (.int .i64 0))), 0, false⟩])
  .ret))))))
def t27 : AFn := ⟨1, t27B,
  [.tmp 2], true⟩
/-- viewport/viewportref11.Productive  -/
def t30B : AC := (.seq (.regN [0] [
    ⟨(some 1), none, .boxR 4 (.tmp 0), 0, false⟩,
    ⟨(some 2), none, .mv (.con .e0), 0, false⟩])
  (.seq (.regN [1] [
    ⟨(some 3), none, .ldA (some 1) 4 (.tmp 1), 0, false⟩,
    ⟨(some 4), none, .call 49 [(.tmp 3), (.con (.val (.bool true)))], 0, false⟩,
    ⟨(some 2), none, .mv (.tmp 4), 0, false⟩])
  .ret))
def t30 : AFn := ⟨1, t30B,
  [.tmp 2], true⟩
/-- viewport/viewportref11.derive  -/
def t49L1 : AC := (.seq (.seq (.regN [1, 2, 5, 6, 7, 8, 9, 10] [
                    ⟨(some 37), none, .mv (.tmp 10), 0, false⟩,
                    ⟨(some 38), none, .fldA 1 (.tmp 8), 0, false⟩,
                    ⟨(some 39), none, .ld1 (some 8) (.tmp 38), 0, false⟩,
                    ⟨(some 40), none, .len false (.tmp 39), 0, false⟩,
                    ⟨(some 41), none, .bini .lss (.tmp 37) (.tmp 40), 0, false⟩,
                    ⟨(some 42), none, .mv (.tmp 41), 0, false⟩,
                    ⟨(some 43), (some (42, true)), .mv (.tmp 9), 0, false⟩,
                    ⟨(some 44), none, .pick (.tmp 42) (.tmp 43) (.con (.val (.bool false))), 0, false⟩])
                  (.cond (.tmp 44)
                    .skip
                    (.exit 4)))
                  (.seq (.block 5
                    (.seq (.regN [1, 2, 5, 6, 7, 8, 10] [
                      ⟨(some 47), none, .fldA 1 (.tmp 8), 0, false⟩,
                      ⟨(some 48), none, .ld1 (some 8) (.tmp 47), 0, false⟩,
                      ⟨(some 49), none, .mv (.tmp 10), 0, false⟩,
                      ⟨(some 50), none, .ixA 1 (.tmp 48) (.tmp 49), 0, false⟩,
                      ⟨(some 51), none, .ld1 none (.tmp 50), 0, false⟩,
                      ⟨(some 11), none, .mv (.tmp 51), 0, false⟩])
                    (.regN [1, 2, 5, 6, 7, 8, 10, 11] [
                      ⟨(some 52), none, .mv (.tmp 11), 0, false⟩,
                      ⟨(some 53), none, .fldA 0 (.tmp 2), 0, false⟩,
                      ⟨(some 54), none, .ld1 (some 2) (.tmp 53), 0, false⟩,
                      ⟨(some 55), none, .bini .lss (.tmp 52) (.tmp 54), 0, false⟩,
                      ⟨(some 56), none, .mv (.tmp 55), 0, false⟩,
                      ⟨(some 57), (some (56, true)), .mv (.tmp 1), 0, false⟩,
                      ⟨(some 58), none, .pick (.tmp 56) (.tmp 57) (.con (.val (.bool false))), 0, false⟩,
                      ⟨(some 59), none, .mv (.tmp 58), 0, false⟩,
                      ⟨(some 60), (some (59, false)), .mv (.tmp 11), 0, false⟩,
                      ⟨(some 61), (some (59, false)), .fldA 0 (.tmp 2), 0, false⟩,
                      ⟨(some 62), (some (59, false)), .ld1 (some 2) (.tmp 61), 0, false⟩,
                      ⟨(some 63), (some (59, false)), .bini .geq (.tmp 60) (.tmp 62), 0, false⟩,
                      ⟨(some 64), (some (59, false)), .mv (.tmp 63), 0, false⟩,
                      ⟨(some 65), (some (64, true)), .mv (.tmp 5), 0, false⟩,
                      ⟨(some 66), (some (64, true)), .mv (.tmp 11), 0, false⟩,
                      ⟨(some 67), (some (64, true)), .fldA 0 (.tmp 2), 0, false⟩,
                      ⟨(some 68), (some (64, true)), .ld1 (some 2) (.tmp 67), 0, false⟩,
                      ⟨(some 69), (some (64, true)), .bini .sub (.tmp 66) (.tmp 68), 0, false⟩,
                      ⟨(some 70), (some (64, true)), .ixA 1 (.tmp 65) (.tmp 69), 0, false⟩,
                      ⟨(some 71), (some (64, true)), .ld1 none (.tmp 70), 0, false⟩,
                      ⟨(some 72), (some (59, false)), .pick (.tmp 64) (.tmp 71) (.con (.val (.bool false))), 0, false⟩,
                      ⟨(some 73), none, .pick (.tmp 59) (.con (.val (.bool true))) (.tmp 72), 0, false⟩,
                      ⟨(some 9), none, .mv (.tmp 73), 0, false⟩])))
                  (.regN [1, 2, 5, 6, 7, 8, 9, 10] [
                    ⟨(some 45), none, .mv (.tmp 10), 0, false⟩,
                    ⟨(some 46), none, .bini .add (.tmp 45) (.con (.val (.int .i64 1))), 0, false⟩,
                    ⟨(some 10), none, .mv (.tmp 46), 0, false⟩])))
def t49L2 : AC := (.seq (.seq (.regN [1, 2, 5, 6, 7] [
              ⟨(some 19), none, .mv (.tmp 7), 0, false⟩,
              ⟨(some 20), none, .fldA 3 (.tmp 2), 0, false⟩,
              ⟨(some 21), none, .ld1 (some 2) (.tmp 20), 0, false⟩,
              ⟨(some 22), none, .len false (.tmp 21), 0, false⟩,
              ⟨(some 23), none, .bini .lss (.tmp 19) (.tmp 22), 0, false⟩])
            (.cond (.tmp 23)
              .skip
              (.exit 2)))
            (.seq (.block 3
              (.seq (.regN [1, 2, 5, 6, 7] [
                ⟨(some 26), none, .fldA 3 (.tmp 2), 0, false⟩,
                ⟨(some 27), none, .ld1 (some 2) (.tmp 26), 0, false⟩,
                ⟨(some 28), none, .mv (.tmp 7), 0, false⟩,
                ⟨(some 29), none, .ixA 2 (.tmp 27) (.tmp 28), 0, false⟩,
                ⟨(some 30), none, .ldA none 2 (.tmp 29), 0, false⟩,
                ⟨(some 8), none, .allocR [(.val (.int .i64 0)), .e0], 0, false⟩,
                ⟨none, none, .st (some 8) 2 (.tmp 8) (.tmp 30), 0, false⟩])
              (.seq (.regN [1, 2, 5, 6, 7, 8] [
                ⟨(some 31), none, .mv (.tmp 5), 0, false⟩,
                ⟨(some 32), none, .fldA 0 (.tmp 8), 0, false⟩,
                ⟨(some 33), none, .ld1 (some 8) (.tmp 32), 0, false⟩,
                ⟨(some 34), none, .ixA 1 (.tmp 31) (.tmp 33), 0, false⟩,
                ⟨(some 35), none, .ld1 none (.tmp 34), 0, false⟩,
                ⟨(some 36), none, .not (.tmp 35), 0, false⟩,
                ⟨(some 9), none, .mv (.tmp 36), 0, false⟩])
              (.seq (.seq (.regN [1, 2, 5, 6, 7, 8, 9] [
                ⟨(some 10), none, .mv (.con (.val (.int .i64 0))), 0, false⟩])
              (.block 4
                (.loop [1, 2, 5, 6, 7, 8, 9, 10] t49L1)))
              (.seq (.regN [1, 2, 5, 6, 7, 8, 9] [
                ⟨(some 74), none, .mv (.tmp 9), 0, false⟩])
              (.cond (.tmp 74)
                (.regN [1, 2, 5, 7, 8] [
                  ⟨(some 75), none, .mv (.tmp 5), 0, false⟩,
                  ⟨(some 76), none, .fldA 0 (.tmp 8), 0, false⟩,
                  ⟨(some 77), none, .ld1 (some 8) (.tmp 76), 0, false⟩,
                  ⟨(some 78), none, .ixA 1 (.tmp 75) (.tmp 77), 0, false⟩,
                  ⟨none, none, .st none 1 (.tmp 78) (.con (.val (.bool true))), 0, false⟩,
                  ⟨(some 6), none, .mv (.con (.val (.bool true))), 0, false⟩])
                .skip))))))
            (.regN [1, 2, 5, 6, 7] [
              ⟨(some 24), none, .mv (.tmp 7), 0, false⟩,
              ⟨(some 25), none, .bini .add (.tmp 24) (.con (.val (.int .i64 1))), 0, false⟩,
              ⟨(some 7), none, .mv (.tmp 25), 0, false⟩])))
def t49L3 : AC := (.seq (.seq (.regN [1, 2, 5, 6] [
        ⟨(some 18), none, .mv (.tmp 6), 0, false⟩])
      (.cond (.tmp 18)
        .skip
        (.exit 0)))
      (.block 1
        (.seq (.regN [1, 2, 5] [
          ⟨(some 6), none, .mv (.con (.val (.bool false))), 0, false⟩])
        (.seq (.regN [1, 2, 5, 6] [
          ⟨(some 7), none, .mv (.con (.val (.int .i64 0))), 0, false⟩])
        (.block 2
          (.loop [1, 2, 5, 6, 7] t49L2))))))
def t49B : AC := (.seq (.regN [0, 1] [
    ⟨(some 2), none, .boxR 4 (.tmp 0), 0, false⟩,
    ⟨(some 4), none, .mv (.con .e0), 0, false⟩])
  (.seq (.seq (.regN [1, 2] [
    ⟨(some 12), none, .ldA (some 2) 4 (.tmp 2), 0, false⟩,
    ⟨(some 13), none, .call 27 [(.tmp 12)], 0, false⟩,
    ⟨(some 14), none, .bini .neq (.tmp 13) (.con (.val (.int .i64 0))), 0, false⟩])
  (.cond (.tmp 14)
    (.seq (.regN [] [
      ⟨(some 4), none, .mv (.con .e0), 0, false⟩])
    .ret)
    .skip))
  (.seq (.regN [1, 2] [
    ⟨(some 15), none, .fldA 1 (.tmp 2), 0, false⟩,
    ⟨(some 16), none, .ld1 (some 2) (.tmp 15), 0, false⟩,
    ⟨(some 17), none, .mks 1 1 [(.val (.bool false))] (.tmp 16), 0, false⟩,
    ⟨(some 5), none, .mv (.tmp 17), 0, false⟩])
  (.seq (.seq (.regN [1, 2, 5] [
    ⟨(some 6), none, .mv (.con (.val (.bool true))), 0, false⟩])
  (.block 0
    (.loop [1, 2, 5, 6] t49L3)))
  (.seq (.regN [5] [
    ⟨(some 79), none, .mv (.tmp 5), 0, false⟩,
    ⟨(some 4), none, .mv (.tmp 79), 0, false⟩])
  .ret)))))
def t49 : AFn := ⟨2, t49B,
  [.tmp 4], true⟩
/-- viewport/viewportref11.Reachable  -/
def t31L1 : AC := (.seq (.seq (.regN [1, 3, 4, 5, 6, 7] [
                    ⟨(some 30), none, .mv (.tmp 7), 0, false⟩,
                    ⟨(some 31), none, .fldA 1 (.tmp 6), 0, false⟩,
                    ⟨(some 32), none, .ld1 (some 6) (.tmp 31), 0, false⟩,
                    ⟨(some 33), none, .len false (.tmp 32), 0, false⟩,
                    ⟨(some 34), none, .bini .lss (.tmp 30) (.tmp 33), 0, false⟩,
                    ⟨(some 35), none, .mv (.tmp 34), 0, false⟩,
                    ⟨(some 36), (some (35, true)), .mv (.tmp 3), 0, false⟩,
                    ⟨(some 37), (some (35, true)), .fldA 0 (.tmp 6), 0, false⟩,
                    ⟨(some 38), (some (35, true)), .ld1 (some 6) (.tmp 37), 0, false⟩,
                    ⟨(some 39), (some (35, true)), .ixA 1 (.tmp 36) (.tmp 38), 0, false⟩,
                    ⟨(some 40), (some (35, true)), .ld1 none (.tmp 39), 0, false⟩,
                    ⟨(some 41), none, .pick (.tmp 35) (.tmp 40) (.con (.val (.bool false))), 0, false⟩])
                  (.cond (.tmp 41)
                    .skip
                    (.exit 4)))
                  (.seq (.block 5
                    (.seq (.regD [1, 3, 4, 5, 6, 7] 0 [
                      ⟨(some 44), none, .fldA 1 (.tmp 6), 0, false⟩,
                      ⟨(some 45), none, .ld1 (some 6) (.tmp 44), 0, false⟩,
                      ⟨(some 46), none, .mv (.tmp 7), 0, false⟩,
                      ⟨(some 47), none, .ixA 1 (.tmp 45) (.tmp 46), 0, false⟩,
                      ⟨(some 48), none, .ld1 none (.tmp 47), 0, false⟩,
                      ⟨(some 49), none, .fldA 0 (.tmp 1), 0, false⟩,
                      ⟨(some 50), none, .ld1 (some 1) (.tmp 49), 0, false⟩,
                      ⟨(some 51), none, .bini .sub (.tmp 48) (.tmp 50), 0, false⟩,
                      ⟨(some 8), none, .mv (.tmp 51), 0, false⟩])
                    (.seq (.regN [1, 3, 4, 5, 6, 7, 8] [
                      ⟨(some 52), none, .mv (.tmp 8), 0, false⟩,
                      ⟨(some 53), none, .bini .geq (.tmp 52) (.con (.val (.int .i64 0))), 0, false⟩,
                      ⟨(some 54), none, .mv (.tmp 53), 0, false⟩,
                      ⟨(some 55), (some (54, true)), .mv (.tmp 3), 0, false⟩,
                      ⟨(some 56), (some (54, true)), .mv (.tmp 8), 0, false⟩,
                      ⟨(some 57), (some (54, true)), .ixA 1 (.tmp 55) (.tmp 56), 0, false⟩,
                      ⟨(some 58), (some (54, true)), .ld1 none (.tmp 57), 0, false⟩,
                      ⟨(some 59), (some (54, true)), .not (.tmp 58), 0, false⟩,
                      ⟨(some 60), none, .pick (.tmp 54) (.tmp 59) (.con (.val (.bool false))), 0, false⟩])
                    (.cond (.tmp 60)
                      (.regN [1, 3, 5, 6, 7, 8] [
                        ⟨(some 61), none, .mv (.tmp 3), 0, false⟩,
                        ⟨(some 62), none, .mv (.tmp 8), 0, false⟩,
                        ⟨(some 63), none, .ixA 1 (.tmp 61) (.tmp 62), 0, false⟩,
                        ⟨none, none, .st none 1 (.tmp 63) (.con (.val (.bool true))), 0, false⟩,
                        ⟨(some 4), none, .mv (.con (.val (.bool true))), 0, false⟩])
                      .skip))))
                  (.regN [1, 3, 4, 5, 6, 7] [
                    ⟨(some 42), none, .mv (.tmp 7), 0, false⟩,
                    ⟨(some 43), none, .bini .add (.tmp 42) (.con (.val (.int .i64 1))), 0, false⟩,
                    ⟨(some 7), none, .mv (.tmp 43), 0, false⟩])))
def t31L2 : AC := (.seq (.seq (.regN [1, 3, 4, 5] [
              ⟨(some 18), none, .mv (.tmp 5), 0, false⟩,
              ⟨(some 19), none, .fldA 3 (.tmp 1), 0, false⟩,
              ⟨(some 20), none, .ld1 (some 1) (.tmp 19), 0, false⟩,
              ⟨(some 21), none, .len false (.tmp 20), 0, false⟩,
              ⟨(some 22), none, .bini .lss (.tmp 18) (.tmp 21), 0, false⟩])
            (.cond (.tmp 22)
              .skip
              (.exit 2)))
            (.seq (.block 3
              (.seq (.regN [1, 3, 4, 5] [
                ⟨(some 25), none, .fldA 3 (.tmp 1), 0, false⟩,
                ⟨(some 26), none, .ld1 (some 1) (.tmp 25), 0, false⟩,
                ⟨(some 27), none, .mv (.tmp 5), 0, false⟩,
                ⟨(some 28), none, .ixA 2 (.tmp 26) (.tmp 27), 0, false⟩,
                ⟨(some 29), none, .ldA none 2 (.tmp 28), 0, false⟩,
                ⟨(some 6), none, .allocR [(.val (.int .i64 0)), .e0], 0, false⟩,
                ⟨none, none, .st (some 6) 2 (.tmp 6) (.tmp 29), 0, false⟩])
              (.seq (.regN [1, 3, 4, 5, 6] [
                ⟨(some 7), none, .mv (.con (.val (.int .i64 0))), 0, false⟩])
              (.block 4
                (.loop [1, 3, 4, 5, 6, 7] t31L1)))))
            (.regN [1, 3, 4, 5] [
              ⟨(some 23), none, .mv (.tmp 5), 0, false⟩,
              ⟨(some 24), none, .bini .add (.tmp 23) (.con (.val (.int .i64 1))), 0, false⟩,
              ⟨(some 5), none, .mv (.tmp 24), 0, false⟩])))
def t31L3 : AC := (.seq (.seq (.regN [1, 3, 4] [
        ⟨(some 17), none, .mv (.tmp 4), 0, false⟩])
      (.cond (.tmp 17)
        .skip
        (.exit 0)))
      (.block 1
        (.seq (.regN [1, 3] [
          ⟨(some 4), none, .mv (.con (.val (.bool false))), 0, false⟩])
        (.seq (.regN [1, 3, 4] [
          ⟨(some 5), none, .mv (.con (.val (.int .i64 0))), 0, false⟩])
        (.block 2
          (.loop [1, 3, 4, 5] t31L2))))))
def t31B : AC := (.seq (.regN [0] [
    ⟨(some 1), none, .boxR 4 (.tmp 0), 0, false⟩,
    ⟨(some 2), none, .mv (.con .e0), 0, false⟩])
  (.seq (.seq (.regN [1] [
    ⟨(some 9), none, .ldA (some 1) 4 (.tmp 1), 0, false⟩,
    ⟨(some 10), none, .call 27 [(.tmp 9)], 0, false⟩,
    ⟨(some 11), none, .bini .neq (.tmp 10) (.con (.val (.int .i64 0))), 0, false⟩])
  (.cond (.tmp 11)
    (.seq (.regN [] [
      ⟨(some 2), none, .mv (.con .e0), 0, false⟩])
    .ret)
    .skip))
  (.seq (.regN [1] [
    ⟨(some 12), none, .fldA 1 (.tmp 1), 0, false⟩,
    ⟨(some 13), none, .ld1 (some 1) (.tmp 12), 0, false⟩,
    ⟨(some 14), none, .mks 1 1 [(.val (.bool false))] (.tmp 13), 0, false⟩,
    ⟨(some 3), none, .mv (.tmp 14), 0, false⟩])
  (.seq (.regN [1, 3] [
    ⟨(some 15), none, .mv (.tmp 3), 0, false⟩,
    ⟨(some 16), none, .ixA 1 (.tmp 15) (.con (.val (.int .i64 0))), 0, false⟩,
    ⟨none, none, .st none 1 (.tmp 16) (.con (.val (.bool true))), 0, false⟩])
  (.seq (.seq (.regN [1, 3] [
    ⟨(some 4), none, .mv (.con (.val (.bool true))), 0, false⟩])
  (.block 0
    (.loop [1, 3, 4] t31L3)))
  (.seq (.regN [3] [
    ⟨(some 64), none, .mv (.tmp 3), 0, false⟩,
    ⟨(some 2), none, .mv (.tmp 64), 0, false⟩])
  .ret))))))
def t31 : AFn := ⟨1, t31B,
  [.tmp 2], true⟩
/-- viewport/viewportref11.Left  -/
def t26L1 : AC := (.seq (.seq (.regN [1, 4, 5, 6] [
        ⟨(some 23), none, .mv (.tmp 6), 0, false⟩,
        ⟨(some 24), none, .fldA 1 (.tmp 1), 0, false⟩,
        ⟨(some 25), none, .ld1 (some 1) (.tmp 24), 0, false⟩,
        ⟨(some 26), none, .bini .lss (.tmp 23) (.tmp 25), 0, false⟩])
      (.cond (.tmp 26)
        .skip
        (.exit 0)))
      (.seq (.block 1
        (.regN [1, 4, 5, 6] [
          ⟨(some 29), none, .mv (.tmp 5), 0, false⟩,
          ⟨(some 30), none, .mv (.tmp 6), 0, false⟩,
          ⟨(some 31), none, .fldA 1 (.tmp 1), 0, false⟩,
          ⟨(some 32), none, .ld1 (some 1) (.tmp 31), 0, false⟩,
          ⟨(some 33), none, .mks 1 1 [(.val (.bool false))] (.tmp 32), 0, false⟩,
          ⟨(some 34), none, .ixA 1 (.tmp 29) (.tmp 30), 0, false⟩,
          ⟨none, none, .st none 1 (.tmp 34) (.tmp 33), 0, false⟩]))
      (.regN [1, 4, 5, 6] [
        ⟨(some 27), none, .mv (.tmp 6), 0, false⟩,
        ⟨(some 28), none, .bini .add (.tmp 27) (.con (.val (.int .i64 1))), 0, false⟩,
        ⟨(some 6), none, .mv (.tmp 28), 0, false⟩])))
def t26L2 : AC := (.seq (.seq (.regD [1, 4, 5, 7, 8, 9] 0 [
              ⟨(some 47), none, .mv (.tmp 9), 0, false⟩,
              ⟨(some 48), none, .fldA 1 (.tmp 8), 0, false⟩,
              ⟨(some 49), none, .ld1 (some 8) (.tmp 48), 0, false⟩,
              ⟨(some 50), none, .len false (.tmp 49), 0, false⟩,
              ⟨(some 51), none, .bini .lss (.tmp 47) (.tmp 50), 0, false⟩,
              ⟨(some 52), none, .mv (.tmp 51), 0, false⟩,
              ⟨(some 53), (some (52, true)), .fldA 1 (.tmp 8), 0, false⟩,
              ⟨(some 54), (some (52, true)), .ld1 (some 8) (.tmp 53), 0, false⟩,
              ⟨(some 55), (some (52, true)), .mv (.tmp 9), 0, false⟩,
              ⟨(some 56), (some (52, true)), .ixA 1 (.tmp 54) (.tmp 55), 0, false⟩,
              ⟨(some 57), (some (52, true)), .ld1 none (.tmp 56), 0, false⟩,
              ⟨(some 58), (some (52, true)), .fldA 0 (.tmp 1), 0, false⟩,
              ⟨(some 59), (some (52, true)), .ld1 (some 1) (.tmp 58), 0, false⟩,
              ⟨(some 60), (some (52, true)), .bini .geq (.tmp 57) (.tmp 59), 0, false⟩,
              ⟨(some 61), none, .pick (.tmp 52) (.tmp 60) (.con (.val (.bool false))), 0, false⟩])
            (.cond (.tmp 61)
              .skip
              (.exit 4)))
            (.seq (.block 5
              (.seq (.regD [1, 4, 5, 7, 8, 9] 0 [
                ⟨(some 64), none, .fldA 1 (.tmp 8), 0, false⟩,
                ⟨(some 65), none, .ld1 (some 8) (.tmp 64), 0, false⟩,
                ⟨(some 66), none, .mv (.tmp 9), 0, false⟩,
                ⟨(some 67), none, .ixA 1 (.tmp 65) (.tmp 66), 0, false⟩,
                ⟨(some 68), none, .ld1 none (.tmp 67), 0, false⟩,
                ⟨(some 69), none, .fldA 0 (.tmp 1), 0, false⟩,
                ⟨(some 70), none, .ld1 (some 1) (.tmp 69), 0, false⟩,
                ⟨(some 71), none, .bini .sub (.tmp 68) (.tmp 70), 0, false⟩,
                ⟨(some 10), none, .mv (.tmp 71), 0, false⟩])
              (.seq (.regN [1, 4, 5, 7, 8, 9, 10] [
                ⟨(some 72), none, .mv (.tmp 5), 0, false⟩,
                ⟨(some 73), none, .fldA 0 (.tmp 8), 0, false⟩,
                ⟨(some 74), none, .ld1 (some 8) (.tmp 73), 0, false⟩,
                ⟨(some 75), none, .ixA 1 (.tmp 72) (.tmp 74), 0, false⟩,
                ⟨(some 76), none, .ld1 none (.tmp 75), 0, false⟩,
                ⟨(some 77), none, .mv (.tmp 10), 0, false⟩,
                ⟨(some 78), none, .ixA 1 (.tmp 76) (.tmp 77), 0, false⟩,
                ⟨none, none, .st none 1 (.tmp 78) (.con (.val (.bool true))), 0, false⟩])
              (.seq (.regN [1, 4, 5, 7, 8, 9, 10] [
                ⟨(some 79), none, .mv (.tmp 4), 0, false⟩,
                ⟨(some 80), none, .mv (.tmp 10), 0, false⟩,
                ⟨(some 81), none, .ixA 1 (.tmp 79) (.tmp 80), 0, false⟩,
                ⟨(some 82), none, .ld1 none (.tmp 81), 0, false⟩,
                ⟨(some 83), none, .not (.tmp 82), 0, false⟩])
              (.cond (.tmp 83)
                (.exit 4)
                .skip)))))
            (.regN [1, 4, 5, 7, 8, 9] [
              ⟨(some 62), none, .mv (.tmp 9), 0, false⟩,
              ⟨(some 63), none, .bini .add (.tmp 62) (.con (.val (.int .i64 1))), 0, false⟩,
              ⟨(some 9), none, .mv (.tmp 63), 0, false⟩])))
def t26L3 : AC := (.seq (.seq (.regN [1, 4, 5, 7] [
        ⟨(some 35), none, .mv (.tmp 7), 0, false⟩,
        ⟨(some 36), none, .fldA 3 (.tmp 1), 0, false⟩,
        ⟨(some 37), none, .ld1 (some 1) (.tmp 36), 0, false⟩,
        ⟨(some 38), none, .len false (.tmp 37), 0, false⟩,
        ⟨(some 39), none, .bini .lss (.tmp 35) (.tmp 38), 0, false⟩])
      (.cond (.tmp 39)
        .skip
        (.exit 2)))
      (.seq (.block 3
        (.seq (.regN [1, 4, 5, 7] [
          ⟨(some 42), none, .fldA 3 (.tmp 1), 0, false⟩,
          ⟨(some 43), none, .ld1 (some 1) (.tmp 42), 0, false⟩,
          ⟨(some 44), none, .mv (.tmp 7), 0, false⟩,
          ⟨(some 45), none, .ixA 2 (.tmp 43) (.tmp 44), 0, false⟩,
          ⟨(some 46), none, .ldA none 2 (.tmp 45), 0, false⟩,
          ⟨(some 8), none, .allocR [(.val (.int .i64 0)), .e0], 0, false⟩,
          ⟨none, none, .st (some 8) 2 (.tmp 8) (.tmp 46), 0, false⟩])
        (.seq (.regN [1, 4, 5, 7, 8] [
          ⟨(some 9), none, .mv (.con (.val (.int .i64 0))), 0, false⟩])
        (.block 4
          (.loop [1, 4, 5, 7, 8, 9] t26L2)))))
      (.regN [1, 4, 5, 7] [
        ⟨(some 40), none, .mv (.tmp 7), 0, false⟩,
        ⟨(some 41), none, .bini .add (.tmp 40) (.con (.val (.int .i64 1))), 0, false⟩,
        ⟨(some 7), none, .mv (.tmp 41), 0, false⟩])))
def t26L4 : AC := (.seq (.seq (.regN [1, 5, 11, 12, 13] [
                    ⟨(some 96), none, .mv (.tmp 13), 0, false⟩,
                    ⟨(some 97), none, .fldA 1 (.tmp 1), 0, false⟩,
                    ⟨(some 98), none, .ld1 (some 1) (.tmp 97), 0, false⟩,
                    ⟨(some 99), none, .bini .lss (.tmp 96) (.tmp 98), 0, false⟩])
                  (.cond (.tmp 99)
                    .skip
                    (.exit 10)))
                  (.seq (.block 11
                    (.regD [1, 5, 11, 12, 13] 0 [
                      ⟨(some 102), none, .mv (.tmp 5), 0, false⟩,
                      ⟨(some 103), none, .mv (.tmp 12), 0, false⟩,
                      ⟨(some 104), none, .ixA 1 (.tmp 102) (.tmp 103), 0, false⟩,
                      ⟨(some 105), none, .ld1 none (.tmp 104), 0, false⟩,
                      ⟨(some 106), none, .mv (.tmp 13), 0, false⟩,
                      ⟨(some 107), none, .mv (.tmp 5), 0, false⟩,
                      ⟨(some 108), none, .mv (.tmp 12), 0, false⟩,
                      ⟨(some 109), none, .ixA 1 (.tmp 107) (.tmp 108), 0, false⟩,
                      ⟨(some 110), none, .ld1 none (.tmp 109), 0, false⟩,
                      ⟨(some 111), none, .mv (.tmp 13), 0, false⟩,
                      ⟨(some 112), none, .ixA 1 (.tmp 110) (.tmp 111), 0, false⟩,
                      ⟨(some 113), none, .ld1 none (.tmp 112), 0, false⟩,
                      ⟨(some 114), none, .mv (.tmp 113), 0, false⟩,
                      ⟨(some 115), (some (114, false)), .mv (.tmp 5), 0, false⟩,
                      ⟨(some 116), (some (114, false)), .mv (.tmp 12), 0, false⟩,
                      ⟨(some 117), (some (114, false)), .ixA 1 (.tmp 115) (.tmp 116), 0, false⟩,
                      ⟨(some 118), (some (114, false)), .ld1 none (.tmp 117), 0, false⟩,
                      ⟨(some 119), (some (114, false)), .mv (.tmp 11), 0, false⟩,
                      ⟨(some 120), (some (114, false)), .ixA 1 (.tmp 118) (.tmp 119), 0, false⟩,
                      ⟨(some 121), (some (114, false)), .ld1 none (.tmp 120), 0, false⟩,
                      ⟨(some 122), (some (114, false)), .mv (.tmp 121), 0, false⟩,
                      ⟨(some 123), (some (122, true)), .mv (.tmp 5), 0, false⟩,
                      ⟨(some 124), (some (122, true)), .mv (.tmp 11), 0, false⟩,
                      ⟨(some 125), (some (122, true)), .ixA 1 (.tmp 123) (.tmp 124), 0, false⟩,
                      ⟨(some 126), (some (122, true)), .ld1 none (.tmp 125), 0, false⟩,
                      ⟨(some 127), (some (122, true)), .mv (.tmp 13), 0, false⟩,
                      ⟨(some 128), (some (122, true)), .ixA 1 (.tmp 126) (.tmp 127), 0, false⟩,
                      ⟨(some 129), (some (122, true)), .ld1 none (.tmp 128), 0, false⟩,
                      ⟨(some 130), (some (114, false)), .pick (.tmp 122) (.tmp 129) (.con (.val (.bool false))), 0, false⟩,
                      ⟨(some 131), none, .pick (.tmp 114) (.con (.val (.bool true))) (.tmp 130), 0, false⟩,
                      ⟨(some 132), none, .ixA 1 (.tmp 105) (.tmp 106), 0, false⟩,
                      ⟨none, none, .st none 1 (.tmp 132) (.tmp 131), 0, false⟩]))
                  (.regN [1, 5, 11, 12, 13] [
                    ⟨(some 100), none, .mv (.tmp 13), 0, false⟩,
                    ⟨(some 101), none, .bini .add (.tmp 100) (.con (.val (.int .i64 1))), 0, false⟩,
                    ⟨(some 13), none, .mv (.tmp 101), 0, false⟩])))
def t26L5 : AC := (.seq (.seq (.regN [1, 5, 11, 12] [
              ⟨(some 90), none, .mv (.tmp 12), 0, false⟩,
              ⟨(some 91), none, .fldA 1 (.tmp 1), 0, false⟩,
              ⟨(some 92), none, .ld1 (some 1) (.tmp 91), 0, false⟩,
              ⟨(some 93), none, .bini .lss (.tmp 90) (.tmp 92), 0, false⟩])
            (.cond (.tmp 93)
              .skip
              (.exit 8)))
            (.seq (.block 9
              (.seq (.regN [1, 5, 11, 12] [
                ⟨(some 13), none, .mv (.con (.val (.int .i64 0))), 0, false⟩])
              (.block 10
                (.loop [1, 5, 11, 12, 13] t26L4))))
            (.regN [1, 5, 11, 12] [
              ⟨(some 94), none, .mv (.tmp 12), 0, false⟩,
              ⟨(some 95), none, .bini .add (.tmp 94) (.con (.val (.int .i64 1))), 0, false⟩,
              ⟨(some 12), none, .mv (.tmp 95), 0, false⟩])))
def t26L6 : AC := (.seq (.seq (.regN [1, 5, 11] [
        ⟨(some 84), none, .mv (.tmp 11), 0, false⟩,
        ⟨(some 85), none, .fldA 1 (.tmp 1), 0, false⟩,
        ⟨(some 86), none, .ld1 (some 1) (.tmp 85), 0, false⟩,
        ⟨(some 87), none, .bini .lss (.tmp 84) (.tmp 86), 0, false⟩])
      (.cond (.tmp 87)
        .skip
        (.exit 6)))
      (.seq (.block 7
        (.seq (.regN [1, 5, 11] [
          ⟨(some 12), none, .mv (.con (.val (.int .i64 0))), 0, false⟩])
        (.block 8
          (.loop [1, 5, 11, 12] t26L5))))
      (.regN [1, 5, 11] [
        ⟨(some 88), none, .mv (.tmp 11), 0, false⟩,
        ⟨(some 89), none, .bini .add (.tmp 88) (.con (.val (.int .i64 1))), 0, false⟩,
        ⟨(some 11), none, .mv (.tmp 89), 0, false⟩])))
def t26L7 : AC := (.seq (.seq (.regN [1, 5, 14] [
        ⟨(some 133), none, .mv (.tmp 14), 0, false⟩,
        ⟨(some 134), none, .fldA 1 (.tmp 1), 0, false⟩,
        ⟨(some 135), none, .ld1 (some 1) (.tmp 134), 0, false⟩,
        ⟨(some 136), none, .bini .lss (.tmp 133) (.tmp 135), 0, false⟩])
      (.cond (.tmp 136)
        .skip
        (.exit 12)))
      (.seq (.block 13
        (.seq (.regN [1, 5, 14] [
          ⟨(some 139), none, .mv (.tmp 5), 0, false⟩,
          ⟨(some 140), none, .mv (.tmp 14), 0, false⟩,
          ⟨(some 141), none, .ixA 1 (.tmp 139) (.tmp 140), 0, false⟩,
          ⟨(some 142), none, .ld1 none (.tmp 141), 0, false⟩,
          ⟨(some 143), none, .mv (.tmp 14), 0, false⟩,
          ⟨(some 144), none, .ixA 1 (.tmp 142) (.tmp 143), 0, false⟩,
          ⟨(some 145), none, .ld1 none (.tmp 144), 0, false⟩])
        (.cond (.tmp 145)
          (.seq (.regN [14] [
            ⟨(some 146), none, .mv (.tmp 14), 0, false⟩,
            ⟨(some 2), none, .mv (.tmp 146), 0, false⟩,
            ⟨(some 3), none, .mv (.con (.val (.bool true))), 0, false⟩])
          .ret)
          .skip)))
      (.regN [1, 5, 14] [
        ⟨(some 137), none, .mv (.tmp 14), 0, false⟩,
        ⟨(some 138), none, .bini .add (.tmp 137) (.con (.val (.int .i64 1))), 0, false⟩,
        ⟨(some 14), none, .mv (.tmp 138), 0, false⟩])))
def t26B : AC := (.seq (.regN [0] [
    ⟨(some 1), none, .boxR 4 (.tmp 0), 0, false⟩,
    ⟨(some 2), none, .mv (.con (.val (.int .i64 0))), 0, false⟩,
    ⟨(some 3), none, .mv (.con (.val (.bool false))), 0, false⟩])
  (.seq (.seq (.regN [1] [
    ⟨(some 15), none, .ldA (some 1) 4 (.tmp 1), 0, false⟩,
    ⟨(some 16), none, .call 27 [(.tmp 15)], 0, false⟩,
    ⟨(some 17), none, .bini .neq (.tmp 16) (.con (.val (.int .i64 0))), 0, false⟩])
  (.cond (.tmp 17)
    (.seq (.regN [] [
      ⟨(some 2), none, .mv (.con (.val (.int .i64 0))), 0, false⟩,
      ⟨(some 3), none, .mv (.con (.val (.bool false))), 0, false⟩])
    .ret)
    .skip))
  (.seq (.regN [1] [
    ⟨(some 18), none, .ldA (some 1) 4 (.tmp 1), 0, false⟩,
    ⟨(some 19), none, .call 29 [(.tmp 18)], 0, false⟩,
    ⟨(some 4), none, .mv (.tmp 19), 0, false⟩])
  (.seq (.regN [1, 4] [
    ⟨(some 20), none, .fldA 1 (.tmp 1), 0, false⟩,
    ⟨(some 21), none, .ld1 (some 1) (.tmp 20), 0, false⟩,
    ⟨(some 22), none, .mks 1 24 [.e0] (.tmp 21), 0, false⟩,
    ⟨(some 5), none, .mv (.tmp 22), 0, false⟩])
  (.seq (.seq (.regN [1, 4, 5] [
    ⟨(some 6), none, .mv (.con (.val (.int .i64 0))), 0, false⟩])
  (.block 0
    (.loop [1, 4, 5, 6] t26L1)))
  (.seq (.seq (.regN [1, 4, 5] [
    ⟨(some 7), none, .mv (.con (.val (.int .i64 0))), 0, false⟩])
  (.block 2
    (.loop [1, 4, 5, 7] t26L3)))
  (.seq (.seq (.regN [1, 5] [
    ⟨(some 11), none, .mv (.con (.val (.int .i64 0))), 0, false⟩])
  (.block 6
    (.loop [1, 5, 11] t26L6)))
  (.seq (.seq (.regN [1, 5] [
    ⟨(some 14), none, .mv (.con (.val (.int .i64 0))), 0, false⟩])
  (.block 12
    (.loop [1, 5, 14] t26L7)))
  (.seq (.regN [] [
    ⟨(some 2), none, .mv (.con (.val (.int .i64 0))), 0, false⟩,
    ⟨(some 3), none, .mv (.con (.val (.bool false))), 0, false⟩])
  .ret)))))))))
def t26 : AFn := ⟨1, t26B,
  [.tmp 2, .tmp 3], true⟩
/-- viewport/viewportref11.Nullable  -/
def t29B : AC := (.seq (.regN [0] [
    ⟨(some 1), none, .boxR 4 (.tmp 0), 0, false⟩,
    ⟨(some 2), none, .mv (.con .e0), 0, false⟩])
  (.seq (.regN [1] [
    ⟨(some 3), none, .ldA (some 1) 4 (.tmp 1), 0, false⟩,
    ⟨(some 4), none, .call 49 [(.tmp 3), (.con (.val (.bool false)))], 0, false⟩,
    ⟨(some 2), none, .mv (.tmp 4), 0, false⟩])
  .ret))
def t29 : AFn := ⟨1, t29B,
  [.tmp 2], true⟩
/-- viewport/viewportref11.Of  -/
def t28L1 : AC := (.seq (.seq (.regN [1, 2, 5, 6] [
        ⟨(some 10), none, .mv (.tmp 6), 0, false⟩,
        ⟨(some 11), none, .fldA 3 (.tmp 2), 0, false⟩,
        ⟨(some 12), none, .ld1 (some 2) (.tmp 11), 0, false⟩,
        ⟨(some 13), none, .len false (.tmp 12), 0, false⟩,
        ⟨(some 14), none, .bini .lss (.tmp 10) (.tmp 13), 0, false⟩])
      (.cond (.tmp 14)
        .skip
        (.exit 0)))
      (.seq (.block 1
        (.seq (.regN [1, 2, 5, 6] [
          ⟨(some 17), none, .fldA 3 (.tmp 2), 0, false⟩,
          ⟨(some 18), none, .ld1 (some 2) (.tmp 17), 0, false⟩,
          ⟨(some 19), none, .mv (.tmp 6), 0, false⟩,
          ⟨(some 20), none, .ixA 2 (.tmp 18) (.tmp 19), 0, false⟩,
          ⟨(some 21), none, .fldA 0 (.tmp 20), 0, false⟩,
          ⟨(some 22), none, .ld1 none (.tmp 21), 0, false⟩,
          ⟨(some 23), none, .mv (.tmp 1), 0, false⟩,
          ⟨(some 24), none, .bini .eql (.tmp 22) (.tmp 23), 0, false⟩])
        (.cond (.tmp 24)
          (.regN [1, 2, 5, 6] [
            ⟨(some 25), none, .mv (.tmp 5), 0, false⟩,
            ⟨(some 26), none, .mv (.tmp 6), 0, false⟩,
            ⟨(some 27), none, .buildS 1 [(.val (.int .i64 0))] [(0, 1, (.tmp 26))], 0, false⟩,
            ⟨(some 28), none, .app 1 8 (.tmp 25) (.tmp 27), 0, false⟩,
            ⟨(some 5), none, .mv (.tmp 28), 0, false⟩])
          .skip)))
      (.regN [1, 2, 5, 6] [
        ⟨(some 15), none, .mv (.tmp 6), 0, false⟩,
        ⟨(some 16), none, .bini .add (.tmp 15) (.con (.val (.int .i64 1))), 0, false⟩,
        ⟨(some 6), none, .mv (.tmp 16), 0, false⟩])))
def t28B : AC := (.seq (.regN [0, 1] [
    ⟨(some 2), none, .boxR 4 (.tmp 0), 0, false⟩,
    ⟨(some 4), none, .mv (.con .e0), 0, false⟩])
  (.seq (.seq (.regN [1, 2] [
    ⟨(some 7), none, .ldA (some 2) 4 (.tmp 2), 0, false⟩,
    ⟨(some 8), none, .call 27 [(.tmp 7)], 0, false⟩,
    ⟨(some 9), none, .bini .neq (.tmp 8) (.con (.val (.int .i64 0))), 0, false⟩])
  (.cond (.tmp 9)
    (.seq (.regN [] [
      ⟨(some 4), none, .mv (.con .e0), 0, false⟩])
    .ret)
    .skip))
  (.seq (.regN [1, 2] [
    ⟨(some 5), none, .mv (.con .e0), 0, false⟩])
  (.seq (.seq (.regN [1, 2, 5] [
    ⟨(some 6), none, .mv (.con (.val (.int .i64 0))), 0, false⟩])
  (.block 0
    (.loop [1, 2, 5, 6] t28L1)))
  (.seq (.regN [5] [
    ⟨(some 29), none, .mv (.tmp 5), 0, false⟩,
    ⟨(some 4), none, .mv (.tmp 29), 0, false⟩])
  .ret)))))
def t28 : AFn := ⟨2, t28B,
  [.tmp 4], true⟩
/-- viewport/viewportkit.Same[int]  -/
def t24L1 : AC := (.seq (.seq (.regN [0, 1, 5] [
        ⟨(some 11), none, .mv (.tmp 5), 0, false⟩,
        ⟨(some 12), none, .mv (.tmp 0), 0, false⟩,
        ⟨(some 13), none, .len false (.tmp 12), 0, false⟩,
        ⟨(some 14), none, .bini .lss (.tmp 11) (.tmp 13), 0, false⟩])
      (.cond (.tmp 14)
        .skip
        (.exit 0)))
      (.seq (.block 1
        (.seq (.regD [0, 1, 5] 0 [
          ⟨(some 17), none, .mv (.tmp 0), 0, false⟩,
          ⟨(some 18), none, .mv (.tmp 5), 0, false⟩,
          ⟨(some 19), none, .ixA 1 (.tmp 17) (.tmp 18), 0, false⟩,
          ⟨(some 20), none, .ld1 none (.tmp 19), 0, false⟩,
          ⟨(some 21), none, .mv (.tmp 1), 0, false⟩,
          ⟨(some 22), none, .mv (.tmp 5), 0, false⟩,
          ⟨(some 23), none, .ixA 1 (.tmp 21) (.tmp 22), 0, false⟩,
          ⟨(some 24), none, .ld1 none (.tmp 23), 0, false⟩,
          ⟨(some 25), none, .bini .neq (.tmp 20) (.tmp 24), 0, false⟩])
        (.cond (.tmp 25)
          (.seq (.regN [] [
            ⟨(some 4), none, .mv (.con (.val (.bool false))), 0, false⟩])
          .ret)
          .skip)))
      (.regN [0, 1, 5] [
        ⟨(some 15), none, .mv (.tmp 5), 0, false⟩,
        ⟨(some 16), none, .bini .add (.tmp 15) (.con (.val (.int .i64 1))), 0, false⟩,
        ⟨(some 5), none, .mv (.tmp 16), 0, false⟩])))
def t24B : AC := (.seq (.regN [0, 1] [
    ⟨(some 4), none, .mv (.con (.val (.bool false))), 0, false⟩])
  (.seq (.seq (.regN [0, 1] [
    ⟨(some 6), none, .mv (.tmp 0), 0, false⟩,
    ⟨(some 7), none, .len false (.tmp 6), 0, false⟩,
    ⟨(some 8), none, .mv (.tmp 1), 0, false⟩,
    ⟨(some 9), none, .len false (.tmp 8), 0, false⟩,
    ⟨(some 10), none, .bini .neq (.tmp 7) (.tmp 9), 0, false⟩])
  (.cond (.tmp 10)
    (.seq (.regN [] [
      ⟨(some 4), none, .mv (.con (.val (.bool false))), 0, false⟩])
    .ret)
    .skip))
  (.seq (.seq (.regN [0, 1] [
    ⟨(some 5), none, .mv (.con (.val (.int .i64 0))), 0, false⟩])
  (.block 0
    (.loop [0, 1, 5] t24L1)))
  (.seq (.regN [] [
    ⟨(some 4), none, .mv (.con (.val (.bool true))), 0, false⟩])
  .ret))))
def t24 : AFn := ⟨2, t24B,
  [.tmp 4], true⟩
/-- viewport/viewportref11.Same  -/
def t32L1 : AC := (.seq (.seq (.regN [2, 3, 5, 6, 7, 8] [
              ⟨(some 68), none, .mv (.tmp 8), 0, false⟩,
              ⟨(some 69), none, .fldA 1 (.tmp 6), 0, false⟩,
              ⟨(some 70), none, .ld1 (some 6) (.tmp 69), 0, false⟩,
              ⟨(some 71), none, .len false (.tmp 70), 0, false⟩,
              ⟨(some 72), none, .bini .lss (.tmp 68) (.tmp 71), 0, false⟩])
            (.cond (.tmp 72)
              .skip
              (.exit 2)))
            (.seq (.block 3
              (.seq (.regD [2, 3, 5, 6, 7, 8] 0 [
                ⟨(some 75), none, .fldA 1 (.tmp 6), 0, false⟩,
                ⟨(some 76), none, .ld1 (some 6) (.tmp 75), 0, false⟩,
                ⟨(some 77), none, .mv (.tmp 8), 0, false⟩,
                ⟨(some 78), none, .ixA 1 (.tmp 76) (.tmp 77), 0, false⟩,
                ⟨(some 79), none, .ld1 none (.tmp 78), 0, false⟩,
                ⟨(some 80), none, .fldA 1 (.tmp 7), 0, false⟩,
                ⟨(some 81), none, .ld1 (some 7) (.tmp 80), 0, false⟩,
                ⟨(some 82), none, .mv (.tmp 8), 0, false⟩,
                ⟨(some 83), none, .ixA 1 (.tmp 81) (.tmp 82), 0, false⟩,
                ⟨(some 84), none, .ld1 none (.tmp 83), 0, false⟩,
                ⟨(some 85), none, .bini .neq (.tmp 79) (.tmp 84), 0, false⟩])
              (.cond (.tmp 85)
                (.seq (.regN [] [
                  ⟨(some 4), none, .mv (.con (.val (.bool false))), 0, false⟩])
                .ret)
                .skip)))
            (.regN [2, 3, 5, 6, 7, 8] [
              ⟨(some 73), none, .mv (.tmp 8), 0, false⟩,
              ⟨(some 74), none, .bini .add (.tmp 73) (.con (.val (.int .i64 1))), 0, false⟩,
              ⟨(some 8), none, .mv (.tmp 74), 0, false⟩])))
def t32L2 : AC := (.seq (.seq (.regN [2, 3, 5] [
        ⟨(some 37), none, .mv (.tmp 5), 0, false⟩,
        ⟨(some 38), none, .fldA 3 (.tmp 2), 0, false⟩,
        ⟨(some 39), none, .ld1 (some 2) (.tmp 38), 0, false⟩,
        ⟨(some 40), none, .len false (.tmp 39), 0, false⟩,
        ⟨(some 41), none, .bini .lss (.tmp 37) (.tmp 40), 0, false⟩])
      (.cond (.tmp 41)
        .skip
        (.exit 0)))
      (.seq (.block 1
        (.seq (.regD [2, 3, 5] 0 [
          ⟨(some 44), none, .fldA 3 (.tmp 2), 0, false⟩,
          ⟨(some 45), none, .ld1 (some 2) (.tmp 44), 0, false⟩,
          ⟨(some 46), none, .mv (.tmp 5), 0, false⟩,
          ⟨(some 47), none, .ixA 2 (.tmp 45) (.tmp 46), 0, false⟩,
          ⟨(some 48), none, .ldA none 2 (.tmp 47), 0, false⟩,
          ⟨(some 49), none, .fldA 3 (.tmp 3), 0, false⟩,
          ⟨(some 50), none, .ld1 (some 3) (.tmp 49), 0, false⟩,
          ⟨(some 51), none, .mv (.tmp 5), 0, false⟩,
          ⟨(some 52), none, .ixA 2 (.tmp 50) (.tmp 51), 0, false⟩,
          ⟨(some 53), none, .ldA none 2 (.tmp 52), 0, false⟩,
          ⟨(some 6), none, .allocR [(.val (.int .i64 0)), .e0], 0, false⟩,
          ⟨(some 7), none, .allocR [(.val (.int .i64 0)), .e0], 0, false⟩,
          ⟨none, none, .st (some 6) 2 (.tmp 6) (.tmp 48), 0, false⟩,
          ⟨none, none, .st (some 7) 2 (.tmp 7) (.tmp 53), 0, false⟩])
        (.seq (.seq (.regN [2, 3, 5, 6, 7] [
          ⟨(some 54), none, .fldA 0 (.tmp 6), 0, false⟩,
          ⟨(some 55), none, .ld1 (some 6) (.tmp 54), 0, false⟩,
          ⟨(some 56), none, .fldA 0 (.tmp 7), 0, false⟩,
          ⟨(some 57), none, .ld1 (some 7) (.tmp 56), 0, false⟩,
          ⟨(some 58), none, .bini .neq (.tmp 55) (.tmp 57), 0, false⟩,
          ⟨(some 59), none, .mv (.tmp 58), 0, false⟩,
          ⟨(some 60), (some (59, false)), .fldA 1 (.tmp 6), 0, false⟩,
          ⟨(some 61), (some (59, false)), .ld1 (some 6) (.tmp 60), 0, false⟩,
          ⟨(some 62), (some (59, false)), .len false (.tmp 61), 0, false⟩,
          ⟨(some 63), (some (59, false)), .fldA 1 (.tmp 7), 0, false⟩,
          ⟨(some 64), (some (59, false)), .ld1 (some 7) (.tmp 63), 0, false⟩,
          ⟨(some 65), (some (59, false)), .len false (.tmp 64), 0, false⟩,
          ⟨(some 66), (some (59, false)), .bini .neq (.tmp 62) (.tmp 65), 0, false⟩,
          ⟨(some 67), none, .pick (.tmp 59) (.con (.val (.bool true))) (.tmp 66), 0, false⟩])
        (.cond (.tmp 67)
          (.seq (.regN [] [
            ⟨(some 4), none, .mv (.con (.val (.bool false))), 0, false⟩])
          .ret)
          .skip))
        (.seq (.regN [2, 3, 5, 6, 7] [
          ⟨(some 8), none, .mv (.con (.val (.int .i64 0))), 0, false⟩])
        (.block 2
          (.loop [2, 3, 5, 6, 7, 8] t32L1))))))
      (.regN [2, 3, 5] [
        ⟨(some 42), none, .mv (.tmp 5), 0, false⟩,
        ⟨(some 43), none, .bini .add (.tmp 42) (.con (.val (.int .i64 1))), 0, false⟩,
        ⟨(some 5), none, .mv (.tmp 43), 0, false⟩])))
def t32B : AC := (.seq (.regN [0, 1] [
    ⟨(some 2), none, .boxR 4 (.tmp 0), 0, false⟩,
    ⟨(some 3), none, .boxR 4 (.tmp 1), 0, false⟩,
    ⟨(some 4), none, .mv (.con (.val (.bool false))), 0, false⟩])
  (.seq (.seq (.regN [2, 3] [
    ⟨(some 9), none, .fldA 0 (.tmp 2), 0, false⟩,
    ⟨(some 10), none, .ld1 (some 2) (.tmp 9), 0, false⟩,
    ⟨(some 11), none, .fldA 0 (.tmp 3), 0, false⟩,
    ⟨(some 12), none, .ld1 (some 3) (.tmp 11), 0, false⟩,
    ⟨(some 13), none, .bini .neq (.tmp 10) (.tmp 12), 0, false⟩,
    ⟨(some 14), none, .mv (.tmp 13), 0, false⟩,
    ⟨(some 15), (some (14, false)), .fldA 1 (.tmp 2), 0, false⟩,
    ⟨(some 16), (some (14, false)), .ld1 (some 2) (.tmp 15), 0, false⟩,
    ⟨(some 17), (some (14, false)), .fldA 1 (.tmp 3), 0, false⟩,
    ⟨(some 18), (some (14, false)), .ld1 (some 3) (.tmp 17), 0, false⟩,
    ⟨(some 19), (some (14, false)), .bini .neq (.tmp 16) (.tmp 18), 0, false⟩,
    ⟨(some 20), none, .pick (.tmp 14) (.con (.val (.bool true))) (.tmp 19), 0, false⟩,
    ⟨(some 21), none, .mv (.tmp 20), 0, false⟩,
    ⟨(some 22), (some (21, false)), .fldA 2 (.tmp 2), 0, false⟩,
    ⟨(some 23), (some (21, false)), .ld1 (some 2) (.tmp 22), 0, false⟩,
    ⟨(some 24), (some (21, false)), .fldA 2 (.tmp 3), 0, false⟩,
    ⟨(some 25), (some (21, false)), .ld1 (some 3) (.tmp 24), 0, false⟩,
    ⟨(some 26), (some (21, false)), .bini .neq (.tmp 23) (.tmp 25), 0, false⟩,
    ⟨(some 27), none, .pick (.tmp 21) (.con (.val (.bool true))) (.tmp 26), 0, false⟩,
    ⟨(some 28), none, .mv (.tmp 27), 0, false⟩,
    ⟨(some 29), (some (28, false)), .fldA 3 (.tmp 2), 0, false⟩,
    ⟨(some 30), (some (28, false)), .ld1 (some 2) (.tmp 29), 0, false⟩,
    ⟨(some 31), (some (28, false)), .len false (.tmp 30), 0, false⟩,
    ⟨(some 32), (some (28, false)), .fldA 3 (.tmp 3), 0, false⟩,
    ⟨(some 33), (some (28, false)), .ld1 (some 3) (.tmp 32), 0, false⟩,
    ⟨(some 34), (some (28, false)), .len false (.tmp 33), 0, false⟩,
    ⟨(some 35), (some (28, false)), .bini .neq (.tmp 31) (.tmp 34), 0, false⟩,
    ⟨(some 36), none, .pick (.tmp 28) (.con (.val (.bool true))) (.tmp 35), 0, false⟩])
  (.cond (.tmp 36)
    (.seq (.regN [] [
      ⟨(some 4), none, .mv (.con (.val (.bool false))), 0, false⟩])
    .ret)
    .skip))
  (.seq (.seq (.regN [2, 3] [
    ⟨(some 5), none, .mv (.con (.val (.int .i64 0))), 0, false⟩])
  (.block 0
    (.loop [2, 3, 5] t32L2)))
  (.seq (.regN [] [
    ⟨(some 4), none, .mv (.con (.val (.bool true))), 0, false⟩])
  .ret))))
def t32 : AFn := ⟨2, t32B,
  [.tmp 4], true⟩
/-- viewport/viewportlaw11.GramNames  -/
def t7B : AC := (.seq (.regN [] [
    ⟨(some 0), none, .mv (.con (.val (.bool false))), 0, false⟩])
  (.seq (.seq (.regN [] [
    ⟨(some 12), none, .call 9 [], 0, false⟩,
    ⟨(some 13), none, .not (.tmp 12), 0, false⟩])
  (.cond (.tmp 13)
    (.seq (.regN [] [
      ⟨(some 0), none, .mv (.con (.val (.bool false))), 0, false⟩])
    .ret)
    .skip))
  (.seq (.regN [] [
    ⟨(some 14), none, .call 23 [], 0, false⟩,
    ⟨(some 1), none, .allocR [(.val (.int .i64 0)), (.val (.int .i64 0)), (.val (.int .i64 0)), .e0], 0, false⟩,
    ⟨none, none, .st (some 1) 4 (.tmp 1) (.tmp 14), 0, false⟩])
  (.seq (.regN [1] [
    ⟨(some 16), none, .ldA (some 1) 4 (.tmp 1), 0, false⟩,
    ⟨(some 17), none, .call 19 [(.tmp 16)], 0, false⟩,
    ⟨(some 15), none, .mv (.tmp 17), 0, false⟩,
    ⟨(some 18), none, .ext (.tmp 15) 0, 0, false⟩,
    ⟨(some 19), none, .ext (.tmp 15) 1, 0, false⟩,
    ⟨(some 2), none, .mv (.tmp 18), 0, false⟩,
    ⟨(some 3), none, .mv (.tmp 19), 0, false⟩])
  (.seq (.regN [1, 3] [
    ⟨(some 20), none, .fldA 1 (.tmp 1), 0, false⟩,
    ⟨none, none, .st (some 1) 1 (.tmp 20) (.con (.val (.int .i64 4))), 0, false⟩])
  (.seq (.regN [1, 3] [
    ⟨(some 22), none, .ldA (some 1) 4 (.tmp 1), 0, false⟩,
    ⟨(some 23), none, .call 19 [(.tmp 22)], 0, false⟩,
    ⟨(some 21), none, .mv (.tmp 23), 0, false⟩,
    ⟨(some 24), none, .ext (.tmp 21) 0, 0, false⟩,
    ⟨(some 25), none, .ext (.tmp 21) 1, 0, false⟩,
    ⟨(some 4), none, .mv (.tmp 24), 0, false⟩,
    ⟨(some 5), none, .mv (.tmp 25), 0, false⟩])
  (.seq (.regN [1, 3, 4, 5] [
    ⟨(some 26), none, .call 1023 [], 0, false⟩,
    ⟨(some 6), none, .allocR [(.val (.int .i64 0)), (.val (.int .i64 0)), (.val (.int .i64 0)), .e0], 0, false⟩,
    ⟨none, none, .st (some 6) 4 (.tmp 6) (.tmp 26), 0, false⟩])
  (.seq (.regN [1, 3, 4, 5, 6] [
    ⟨(some 27), none, .fldA 3 (.tmp 6), 0, false⟩,
    ⟨(some 28), none, .ld1 (some 6) (.tmp 27), 0, false⟩,
    ⟨(some 29), none, .buildS 2 [(.val (.int .i64 0)), (.val (.int .i64 0))] [(0, 1, (.con (.val (.int .i64 3)))), (1, 1, (.con (.val (.int .i64 2))))], 0, false⟩,
    ⟨(some 30), none, .ixA 2 (.tmp 28) (.con (.val (.int .i64 0))), 0, false⟩,
    ⟨(some 31), none, .fldA 1 (.tmp 30), 0, false⟩,
    ⟨none, none, .st none 1 (.tmp 31) (.tmp 29), 0, false⟩])
  (.seq (.regN [1, 3, 4, 5, 6] [
    ⟨(some 33), none, .ldA (some 6) 4 (.tmp 6), 0, false⟩,
    ⟨(some 34), none, .call 13 [(.tmp 33)], 0, false⟩,
    ⟨(some 32), none, .mv (.tmp 34), 0, false⟩,
    ⟨(some 35), none, .ext (.tmp 32) 0, 0, false⟩,
    ⟨(some 36), none, .ext (.tmp 32) 1, 0, false⟩,
    ⟨(some 7), none, .mv (.tmp 35), 0, false⟩,
    ⟨(some 8), none, .mv (.tmp 36), 0, false⟩])
  (.seq (.regN [1, 3, 4, 5, 6, 7, 8] [
    ⟨(some 37), none, .call 23 [], 0, false⟩,
    ⟨(some 9), none, .allocR [(.val (.int .i64 0)), (.val (.int .i64 0)), (.val (.int .i64 0)), .e0], 0, false⟩,
    ⟨none, none, .st (some 9) 4 (.tmp 9) (.tmp 37), 0, false⟩])
  (.seq (.regN [1, 3, 4, 5, 6, 7, 8, 9] [
    ⟨(some 38), none, .fldA 2 (.tmp 9), 0, false⟩,
    ⟨none, none, .st (some 9) 1 (.tmp 38) (.con (.val (.int .i64 4))), 0, false⟩])
  (.seq (.regN [1, 3, 4, 5, 6, 7, 8, 9] [
    ⟨(some 39), none, .call 1023 [], 0, false⟩,
    ⟨(some 10), none, .allocR [(.val (.int .i64 0)), (.val (.int .i64 0)), (.val (.int .i64 0)), .e0], 0, false⟩,
    ⟨none, none, .st (some 10) 4 (.tmp 10) (.tmp 39), 0, false⟩])
  (.seq (.regN [1, 3, 4, 5, 6, 7, 8, 9, 10] [
    ⟨(some 40), none, .fldA 3 (.tmp 10), 0, false⟩,
    ⟨(some 41), none, .ld1 (some 10) (.tmp 40), 0, false⟩,
    ⟨(some 42), none, .buildS 1 [(.val (.int .i64 0))] [(0, 1, (.con (.val (.int .i64 4))))], 0, false⟩,
    ⟨(some 43), none, .ixA 2 (.tmp 41) (.con (.val (.int .i64 2))), 0, false⟩,
    ⟨(some 44), none, .fldA 1 (.tmp 43), 0, false⟩,
    ⟨none, none, .st none 1 (.tmp 44) (.tmp 42), 0, false⟩])
  (.seq (.regN [1, 3, 4, 5, 6, 7, 8, 9, 10] [
    ⟨(some 45), none, .call 23 [], 0, false⟩,
    ⟨(some 46), none, .call 21 [(.tmp 45)], 0, false⟩,
    ⟨(some 11), none, .allocR [(.val (.int .i64 0)), (.val (.int .i64 0)), (.val (.int .i64 0)), .e0], 0, false⟩,
    ⟨none, none, .st (some 11) 4 (.tmp 11) (.tmp 46), 0, false⟩])
  (.seq (.seq (.regN [1, 3, 4, 5, 6, 7, 8, 9, 10, 11] [
    ⟨(some 47), none, .fldA 3 (.tmp 11), 0, false⟩,
    ⟨(some 48), none, .ld1 (some 11) (.tmp 47), 0, false⟩,
    ⟨(some 49), none, .len false (.tmp 48), 0, false⟩,
    ⟨(some 50), none, .bini .eql (.tmp 49) (.con (.val (.int .i64 0))), 0, false⟩,
    ⟨(some 51), none, .mv (.tmp 50), 0, false⟩,
    ⟨(some 52), (some (51, false)), .fldA 3 (.tmp 11), 0, false⟩,
    ⟨(some 53), (some (51, false)), .ld1 (some 11) (.tmp 52), 0, false⟩,
    ⟨(some 54), (some (51, false)), .ixA 2 (.tmp 53) (.con (.val (.int .i64 0))), 0, false⟩,
    ⟨(some 55), (some (51, false)), .fldA 1 (.tmp 54), 0, false⟩,
    ⟨(some 56), (some (51, false)), .ld1 none (.tmp 55), 0, false⟩,
    ⟨(some 57), (some (51, false)), .len false (.tmp 56), 0, false⟩,
    ⟨(some 58), (some (51, false)), .bini .eql (.tmp 57) (.con (.val (.int .i64 0))), 0, false⟩,
    ⟨(some 59), none, .pick (.tmp 51) (.con (.val (.bool true))) (.tmp 58), 0, false⟩])
  (.cond (.tmp 59)
    (.seq (.regN [] [
      ⟨(some 0), none, .mv (.con (.val (.bool false))), 0, false⟩])
    .ret)
    .skip))
  (.seq (.regN [1, 3, 4, 5, 6, 7, 8, 9, 10, 11] [
    ⟨(some 60), none, .fldA 3 (.tmp 11), 0, false⟩,
    ⟨(some 61), none, .ld1 (some 11) (.tmp 60), 0, false⟩,
    ⟨(some 62), none, .ixA 2 (.tmp 61) (.con (.val (.int .i64 0))), 0, false⟩,
    ⟨(some 63), none, .fldA 1 (.tmp 62), 0, false⟩,
    ⟨(some 64), none, .ld1 none (.tmp 63), 0, false⟩,
    ⟨(some 65), none, .ixA 1 (.tmp 64) (.con (.val (.int .i64 0))), 0, false⟩,
    ⟨none, none, .st none 1 (.tmp 65) (.con (.val (.int .i64 1))), 0, false⟩])
  (.seq (.regD [1, 3, 4, 5, 6, 7, 8, 9, 10, 11] 0 [
    ⟨(some 66), none, .mv (.tmp 3), 0, false⟩,
    ⟨(some 67), none, .mv (.tmp 66), 0, false⟩,
    ⟨(some 68), (some (67, true)), .mv (.tmp 4), 0, false⟩,
    ⟨(some 69), (some (67, true)), .bini .eql (.tmp 68) (.con (.val (.int .i64 2))), 0, false⟩,
    ⟨(some 70), none, .pick (.tmp 67) (.tmp 69) (.con (.val (.bool false))), 0, false⟩,
    ⟨(some 71), none, .mv (.tmp 70), 0, false⟩,
    ⟨(some 72), (some (71, true)), .mv (.tmp 5), 0, false⟩,
    ⟨(some 73), (some (71, true)), .not (.tmp 72), 0, false⟩,
    ⟨(some 74), none, .pick (.tmp 71) (.tmp 73) (.con (.val (.bool false))), 0, false⟩,
    ⟨(some 75), none, .mv (.tmp 74), 0, false⟩,
    ⟨(some 76), (some (75, true)), .mv (.tmp 7), 0, false⟩,
    ⟨(some 77), (some (75, true)), .bini .eql (.tmp 76) (.con (.val (.int .i64 0))), 0, false⟩,
    ⟨(some 78), none, .pick (.tmp 75) (.tmp 77) (.con (.val (.bool false))), 0, false⟩,
    ⟨(some 79), none, .mv (.tmp 78), 0, false⟩,
    ⟨(some 80), (some (79, true)), .mv (.tmp 8), 0, false⟩,
    ⟨(some 81), none, .pick (.tmp 79) (.tmp 80) (.con (.val (.bool false))), 0, false⟩,
    ⟨(some 82), none, .mv (.tmp 81), 0, false⟩,
    ⟨(some 83), (some (82, true)), .ldA (some 9) 4 (.tmp 9), 0, false⟩,
    ⟨(some 84), (some (82, true)), .call 11 [(.tmp 83)], 0, true⟩,
    ⟨(some 85), (some (82, true)), .bini .eql (.tmp 84) (.con (.val (.int .i64 3))), 0, false⟩,
    ⟨(some 86), none, .pick (.tmp 82) (.tmp 85) (.con (.val (.bool false))), 0, false⟩,
    ⟨(some 87), none, .mv (.tmp 86), 0, false⟩,
    ⟨(some 88), (some (87, true)), .ldA (some 10) 4 (.tmp 10), 0, false⟩,
    ⟨(some 89), (some (87, true)), .call 11 [(.tmp 88)], 0, true⟩,
    ⟨(some 90), (some (87, true)), .bini .eql (.tmp 89) (.con (.val (.int .i64 2))), 0, false⟩,
    ⟨(some 91), none, .pick (.tmp 87) (.tmp 90) (.con (.val (.bool false))), 0, false⟩,
    ⟨(some 92), none, .mv (.tmp 91), 0, false⟩,
    ⟨(some 93), (some (92, true)), .build [(.val (.int .i64 0)), (.val (.int .i64 0)), (.val (.int .i64 0)), .e0] [], 0, false⟩,
    ⟨(some 94), (some (92, true)), .call 11 [(.tmp 93)], 0, true⟩,
    ⟨(some 95), (some (92, true)), .bini .eql (.tmp 94) (.con (.val (.int .i64 2))), 0, false⟩,
    ⟨(some 96), none, .pick (.tmp 92) (.tmp 95) (.con (.val (.bool false))), 0, false⟩,
    ⟨(some 97), none, .mv (.tmp 96), 0, false⟩,
    ⟨(some 98), (some (97, true)), .call 23 [], 0, true⟩,
    ⟨(some 99), (some (97, true)), .call 18 [(.tmp 98), (.con (.val (.int .i64 1)))], 0, true⟩,
    ⟨(some 100), (some (97, true)), .buildS 2 [(.val (.int .i64 0)), (.val (.int .i64 0))] [(0, 1, (.con (.val (.int .i64 1)))), (1, 1, (.con (.val (.int .i64 2))))], 0, false⟩,
    ⟨(some 101), (some (97, true)), .call 24 [(.tmp 99), (.tmp 100)], 0, true⟩,
    ⟨(some 102), none, .pick (.tmp 97) (.tmp 101) (.con (.val (.bool false))), 0, false⟩,
    ⟨(some 103), none, .mv (.tmp 102), 0, false⟩,
    ⟨(some 104), (some (103, true)), .call 23 [], 0, true⟩,
    ⟨(some 105), (some (103, true)), .call 18 [(.tmp 104), (.con (.val (.int .i64 7)))], 0, true⟩,
    ⟨(some 106), (some (103, true)), .len false (.tmp 105), 0, false⟩,
    ⟨(some 107), (some (103, true)), .bini .eql (.tmp 106) (.con (.val (.int .i64 0))), 0, false⟩,
    ⟨(some 108), none, .pick (.tmp 103) (.tmp 107) (.con (.val (.bool false))), 0, false⟩,
    ⟨(some 109), none, .mv (.tmp 108), 0, false⟩,
    ⟨(some 110), (some (109, true)), .ldA (some 6) 4 (.tmp 6), 0, false⟩,
    ⟨(some 111), (some (109, true)), .call 16 [(.tmp 110)], 0, true⟩,
    ⟨(some 112), (some (109, true)), .buildS 2 [(.val (.bool false)), (.val (.bool false))] [(0, 1, (.con (.val (.bool false)))), (1, 1, (.con (.val (.bool true))))], 0, false⟩,
    ⟨(some 113), (some (109, true)), .call 15 [(.tmp 111), (.tmp 112)], 0, true⟩,
    ⟨(some 114), none, .pick (.tmp 109) (.tmp 113) (.con (.val (.bool false))), 0, false⟩,
    ⟨(some 115), none, .mv (.tmp 114), 0, false⟩,
    ⟨(some 116), (some (115, true)), .ldA (some 1) 4 (.tmp 1), 0, false⟩,
    ⟨(some 117), (some (115, true)), .call 17 [(.tmp 116)], 0, true⟩,
    ⟨(some 118), (some (115, true)), .buildS 4 [(.val (.bool false)), (.val (.bool false)), (.val (.bool false)), (.val (.bool false))] [(0, 1, (.con (.val (.bool true)))), (1, 1, (.con (.val (.bool true)))), (2, 1, (.con (.val (.bool false)))), (3, 1, (.con (.val (.bool false))))], 0, false⟩,
    ⟨(some 119), (some (115, true)), .call 15 [(.tmp 117), (.tmp 118)], 0, true⟩,
    ⟨(some 120), none, .pick (.tmp 115) (.tmp 119) (.con (.val (.bool false))), 0, false⟩,
    ⟨(some 121), none, .mv (.tmp 120), 0, false⟩,
    ⟨(some 122), (some (121, true)), .call 23 [], 0, true⟩,
    ⟨(some 123), (some (121, true)), .call 23 [], 0, true⟩,
    ⟨(some 124), (some (121, true)), .call 22 [(.tmp 122), (.tmp 123)], 0, true⟩,
    ⟨(some 125), none, .pick (.tmp 121) (.tmp 124) (.con (.val (.bool false))), 0, false⟩,
    ⟨(some 126), none, .mv (.tmp 125), 0, false⟩,
    ⟨(some 127), (some (126, true)), .ldA (some 11) 4 (.tmp 11), 0, false⟩,
    ⟨(some 128), (some (126, true)), .call 23 [], 0, true⟩,
    ⟨(some 129), (some (126, true)), .call 22 [(.tmp 127), (.tmp 128)], 0, true⟩,
    ⟨(some 130), (some (126, true)), .not (.tmp 129), 0, false⟩,
    ⟨(some 131), none, .pick (.tmp 126) (.tmp 130) (.con (.val (.bool false))), 0, false⟩,
    ⟨(some 132), none, .mv (.tmp 131), 0, false⟩,
    ⟨(some 133), (some (132, true)), .ldA (some 10) 4 (.tmp 10), 0, false⟩,
    ⟨(some 134), (some (132, true)), .call 12 [(.tmp 133)], 0, true⟩,
    ⟨(some 135), (some (132, true)), .len false (.tmp 134), 0, false⟩,
    ⟨(some 136), (some (132, true)), .bini .eql (.tmp 135) (.con (.val (.int .i64 0))), 0, false⟩,
    ⟨(some 137), none, .pick (.tmp 132) (.tmp 136) (.con (.val (.bool false))), 0, false⟩,
    ⟨(some 0), none, .mv (.tmp 137), 0, false⟩])
  .ret)))))))))))))))))
def t7 : AFn := ⟨0, t7B,
  [.tmp 0], true⟩
/-- viewport/viewportlaw11.example  -/
def t1023B : AC := (.seq (.regN [] [
    ⟨(some 0), none, .allocR [(.val (.int .i64 0)), (.val (.int .i64 0)), (.val (.int .i64 0)), .e0], 0, false⟩])
  (.seq (.regN [0] [
    ⟨(some 1), none, .buildS 2 [(.val (.int .i64 0)), (.val (.int .i64 0))] [(0, 1, (.con (.val (.int .i64 3)))), (1, 1, (.con (.val (.int .i64 0))))], 0, false⟩,
    ⟨(some 2), none, .build [(.val (.int .i64 0)), .e0] [(0, 1, (.con (.val (.int .i64 0)))), (1, 1, (.tmp 1))], 0, false⟩,
    ⟨(some 3), none, .build [(.val (.int .i64 0)), .e0] [(0, 1, (.con (.val (.int .i64 1))))], 0, false⟩,
    ⟨(some 4), none, .buildS 2 [(.val (.int .i64 0)), (.val (.int .i64 0))] [(0, 1, (.con (.val (.int .i64 1)))), (1, 1, (.con (.val (.int .i64 3))))], 0, false⟩,
    ⟨(some 5), none, .build [(.val (.int .i64 0)), .e0] [(0, 1, (.con (.val (.int .i64 1)))), (1, 1, (.tmp 4))], 0, false⟩,
    ⟨(some 6), none, .buildH 3 2 [(.val (.int .i64 0)), .e0, (.val (.int .i64 0)), .e0, (.val (.int .i64 0)), .e0] [(0, 2, (.tmp 2)), (2, 2, (.tmp 3)), (4, 2, (.tmp 5))], 0, false⟩,
    ⟨(some 7), none, .build [(.val (.int .i64 0)), (.val (.int .i64 0)), (.val (.int .i64 0)), .e0] [(0, 1, (.con (.val (.int .i64 2)))), (1, 1, (.con (.val (.int .i64 2)))), (2, 1, (.con (.val (.int .i64 1)))), (3, 1, (.tmp 6))], 0, false⟩,
    ⟨none, none, .st (some 0) 4 (.tmp 0) (.tmp 7), 0, false⟩])
  .ret))
def t1023 : AFn := ⟨0, t1023B,
  [.cell 0 4 true], false⟩
end Go.Proofs.Ytikedgpcgacgoaa
