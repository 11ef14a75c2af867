/- The functions of a program, compiled: printed by wip/hm/tools/Gen.lean. -/
import Derived.Test.YtoiolinclpiohaaT1
namespace Go.Proofs.Ytoiolinclpiohaa
open Go Go.Hm
/-- viewport/viewportref03.Ends  -/
def t50L1 : AC := (.seq (.seq (.regN [1, 2, 5, 6] [
        ⟨(some 8), none, .mv (.tmp 6), 0, false⟩,
        ⟨(some 9), none, .mv (.tmp 1), 0, false⟩,
        ⟨(some 10), none, .len false (.tmp 9), 0, false⟩,
        ⟨(some 11), none, .bini .lss (.tmp 8) (.tmp 10), 0, false⟩])
      (.cond (.tmp 11)
        .skip
        (.exit 0)))
      (.seq (.block 1
        (.seq (.regD [1, 2, 5, 6] 0 [
          ⟨(some 14), none, .mv (.tmp 1), 0, false⟩,
          ⟨(some 15), none, .mv (.tmp 6), 0, false⟩,
          ⟨(some 16), none, .ixA 1 (.tmp 14) (.tmp 15), 0, false⟩,
          ⟨(some 17), none, .ld1 none (.tmp 16), 0, false⟩,
          ⟨(some 18), none, .bini .geq (.tmp 17) (.con (.val (.int .i64 0))), 0, false⟩,
          ⟨(some 19), none, .mv (.tmp 18), 0, false⟩,
          ⟨(some 20), (some (19, true)), .mv (.tmp 1), 0, false⟩,
          ⟨(some 21), (some (19, true)), .mv (.tmp 6), 0, false⟩,
          ⟨(some 22), (some (19, true)), .ixA 1 (.tmp 20) (.tmp 21), 0, false⟩,
          ⟨(some 23), (some (19, true)), .ld1 none (.tmp 22), 0, false⟩,
          ⟨(some 24), (some (19, true)), .fldA 2 (.tmp 2), 0, false⟩,
          ⟨(some 25), (some (19, true)), .ld1 (some 2) (.tmp 24), 0, false⟩,
          ⟨(some 26), (some (19, true)), .len false (.tmp 25), 0, false⟩,
          ⟨(some 27), (some (19, true)), .bini .lss (.tmp 23) (.tmp 26), 0, false⟩,
          ⟨(some 28), none, .pick (.tmp 19) (.tmp 27) (.con (.val (.bool false))), 0, false⟩])
        (.cond (.tmp 28)
          (.seq (.regD [1, 2, 5, 6] 0 [
            ⟨(some 29), none, .fldA 2 (.tmp 2), 0, false⟩,
            ⟨(some 30), none, .ld1 (some 2) (.tmp 29), 0, false⟩,
            ⟨(some 31), none, .mv (.tmp 1), 0, false⟩,
            ⟨(some 32), none, .mv (.tmp 6), 0, false⟩,
            ⟨(some 33), none, .ixA 1 (.tmp 31) (.tmp 32), 0, false⟩,
            ⟨(some 34), none, .ld1 none (.tmp 33), 0, false⟩,
            ⟨(some 35), none, .ixA 1 (.tmp 30) (.tmp 34), 0, false⟩,
            ⟨(some 36), none, .ld1 none (.tmp 35), 0, false⟩,
            ⟨(some 7), none, .mv (.tmp 36), 0, false⟩])
          (.seq (.regN [1, 2, 5, 6, 7] [
            ⟨(some 37), none, .mv (.tmp 7), 0, false⟩,
            ⟨(some 38), none, .bini .geq (.tmp 37) (.con (.val (.int .i64 0))), 0, false⟩,
            ⟨(some 39), none, .mv (.tmp 38), 0, false⟩,
            ⟨(some 40), (some (39, true)), .mv (.tmp 5), 0, false⟩,
            ⟨(some 41), (some (39, true)), .bini .lss (.tmp 40) (.con (.val (.int .i64 0))), 0, false⟩,
            ⟨(some 42), (some (39, true)), .mv (.tmp 41), 0, false⟩,
            ⟨(some 43), (some (42, false)), .mv (.tmp 7), 0, false⟩,
            ⟨(some 44), (some (42, false)), .mv (.tmp 5), 0, false⟩,
            ⟨(some 45), (some (42, false)), .bini .lss (.tmp 43) (.tmp 44), 0, false⟩,
            ⟨(some 46), (some (39, true)), .pick (.tmp 42) (.con (.val (.bool true))) (.tmp 45), 0, false⟩,
            ⟨(some 47), none, .pick (.tmp 39) (.tmp 46) (.con (.val (.bool false))), 0, false⟩])
          (.cond (.tmp 47)
            (.regN [1, 2, 6, 7] [
              ⟨(some 48), none, .mv (.tmp 7), 0, false⟩,
              ⟨(some 5), none, .mv (.tmp 48), 0, false⟩])
            .skip)))
          .skip)))
      (.regN [1, 2, 5, 6] [
        ⟨(some 12), none, .mv (.tmp 6), 0, false⟩,
        ⟨(some 13), none, .bini .add (.tmp 12) (.con (.val (.int .i64 1))), 0, false⟩,
        ⟨(some 6), none, .mv (.tmp 13), 0, false⟩])))
def t50B : AC := (.seq (.regN [0, 1] [
    ⟨(some 2), none, .boxR 3 (.tmp 0), 0, false⟩,
    ⟨(some 4), none, .mv (.con (.val (.int .i64 0))), 0, false⟩])
  (.seq (.regN [1, 2] [
    ⟨(some 5), none, .mv (.con (.val (.int .i64 (-1)))), 0, false⟩])
  (.seq (.seq (.regN [1, 2, 5] [
    ⟨(some 6), none, .mv (.con (.val (.int .i64 0))), 0, false⟩])
  (.block 0
    (.loop [1, 2, 5, 6] t50L1)))
  (.seq (.regN [5] [
    ⟨(some 49), none, .mv (.tmp 5), 0, false⟩,
    ⟨(some 4), none, .mv (.tmp 49), 0, false⟩])
  .ret))))
def t50 : AFn := ⟨2, t50B,
  [.tmp 4], true⟩
/-- viewport/viewportref03.Go  -/
def t51L1 : AC := (.seq (.seq (.regN [1, 2, 3, 7, 8, 9, 10] [
              ⟨(some 46), none, .mv (.tmp 10), 0, false⟩,
              ⟨(some 47), none, .mv (.tmp 9), 0, false⟩,
              ⟨(some 48), none, .len false (.tmp 47), 0, false⟩,
              ⟨(some 49), none, .bini .lss (.tmp 46) (.tmp 48), 0, false⟩])
            (.cond (.tmp 49)
              .skip
              (.exit 2)))
            (.seq (.block 3
              (.seq (.regD [1, 2, 3, 7, 8, 9, 10] 0 [
                ⟨(some 52), none, .fldA 0 (.tmp 3), 0, false⟩,
                ⟨(some 53), none, .ld1 (some 3) (.tmp 52), 0, false⟩,
                ⟨(some 54), none, .mv (.tmp 9), 0, false⟩,
                ⟨(some 55), none, .mv (.tmp 10), 0, false⟩,
                ⟨(some 56), none, .ixA 1 (.tmp 54) (.tmp 55), 0, false⟩,
                ⟨(some 57), none, .ld1 none (.tmp 56), 0, false⟩,
                ⟨(some 58), none, .ixA 4 (.tmp 53) (.tmp 57), 0, false⟩,
                ⟨(some 59), none, .ldA none 4 (.tmp 58), 0, false⟩,
                ⟨(some 60), none, .mv (.tmp 2), 0, false⟩,
                ⟨(some 61), none, .call 57 [(.tmp 59), (.tmp 60)], 0, true⟩])
              (.cond (.tmp 61)
                (.regN [1, 2, 3, 7, 8, 9, 10] [
                  ⟨(some 62), none, .mv (.tmp 7), 0, false⟩,
                  ⟨(some 63), none, .mv (.tmp 9), 0, false⟩,
                  ⟨(some 64), none, .mv (.tmp 10), 0, false⟩,
                  ⟨(some 65), none, .ixA 1 (.tmp 63) (.tmp 64), 0, false⟩,
                  ⟨(some 66), none, .ld1 none (.tmp 65), 0, false⟩,
                  ⟨(some 67), none, .ixA 1 (.tmp 62) (.tmp 66), 0, false⟩,
                  ⟨none, none, .st none 1 (.tmp 67) (.con (.val (.bool true))), 0, false⟩])
                .skip)))
            (.regN [1, 2, 3, 7, 8, 9, 10] [
              ⟨(some 50), none, .mv (.tmp 10), 0, false⟩,
              ⟨(some 51), none, .bini .add (.tmp 50) (.con (.val (.int .i64 1))), 0, false⟩,
              ⟨(some 10), none, .mv (.tmp 51), 0, false⟩])))
def t51L2 : AC := (.seq (.seq (.regN [1, 2, 3, 7, 8] [
        ⟨(some 17), none, .mv (.tmp 8), 0, false⟩,
        ⟨(some 18), none, .mv (.tmp 1), 0, false⟩,
        ⟨(some 19), none, .len false (.tmp 18), 0, false⟩,
        ⟨(some 20), none, .bini .lss (.tmp 17) (.tmp 19), 0, false⟩])
      (.cond (.tmp 20)
        .skip
        (.exit 0)))
      (.seq (.block 1
        (.seq (.seq (.regD [1, 2, 3, 7, 8] 0 [
          ⟨(some 23), none, .mv (.tmp 1), 0, false⟩,
          ⟨(some 24), none, .mv (.tmp 8), 0, false⟩,
          ⟨(some 25), none, .ixA 1 (.tmp 23) (.tmp 24), 0, false⟩,
          ⟨(some 26), none, .ld1 none (.tmp 25), 0, false⟩,
          ⟨(some 27), none, .bini .lss (.tmp 26) (.con (.val (.int .i64 0))), 0, false⟩,
          ⟨(some 28), none, .mv (.tmp 27), 0, false⟩,
          ⟨(some 29), (some (28, false)), .mv (.tmp 1), 0, false⟩,
          ⟨(some 30), (some (28, false)), .mv (.tmp 8), 0, false⟩,
          ⟨(some 31), (some (28, false)), .ixA 1 (.tmp 29) (.tmp 30), 0, false⟩,
          ⟨(some 32), (some (28, false)), .ld1 none (.tmp 31), 0, false⟩,
          ⟨(some 33), (some (28, false)), .fldA 0 (.tmp 3), 0, false⟩,
          ⟨(some 34), (some (28, false)), .ld1 (some 3) (.tmp 33), 0, false⟩,
          ⟨(some 35), (some (28, false)), .len false (.tmp 34), 0, false⟩,
          ⟨(some 36), (some (28, false)), .bini .geq (.tmp 32) (.tmp 35), 0, false⟩,
          ⟨(some 37), none, .pick (.tmp 28) (.con (.val (.bool true))) (.tmp 36), 0, false⟩])
        (.cond (.tmp 37)
          (.exit 1)
          .skip))
        (.seq (.regD [1, 2, 3, 7, 8] 0 [
          ⟨(some 38), none, .fldA 1 (.tmp 3), 0, false⟩,
          ⟨(some 39), none, .ld1 (some 3) (.tmp 38), 0, false⟩,
          ⟨(some 40), none, .mv (.tmp 1), 0, false⟩,
          ⟨(some 41), none, .mv (.tmp 8), 0, false⟩,
          ⟨(some 42), none, .ixA 1 (.tmp 40) (.tmp 41), 0, false⟩,
          ⟨(some 43), none, .ld1 none (.tmp 42), 0, false⟩,
          ⟨(some 44), none, .ixA 1 (.tmp 39) (.tmp 43), 0, false⟩,
          ⟨(some 45), none, .ld1 none (.tmp 44), 0, false⟩,
          ⟨(some 9), none, .mv (.tmp 45), 0, false⟩])
        (.seq (.regN [1, 2, 3, 7, 8, 9] [
          ⟨(some 10), none, .mv (.con (.val (.int .i64 0))), 0, false⟩])
        (.block 2
          (.loop [1, 2, 3, 7, 8, 9, 10] t51L1))))))
      (.regN [1, 2, 3, 7, 8] [
        ⟨(some 21), none, .mv (.tmp 8), 0, false⟩,
        ⟨(some 22), none, .bini .add (.tmp 21) (.con (.val (.int .i64 1))), 0, false⟩,
        ⟨(some 8), none, .mv (.tmp 22), 0, false⟩])))
def t51L3 : AC := (.seq (.seq (.regN [7, 11, 12] [
        ⟨(some 68), none, .mv (.tmp 12), 0, false⟩,
        ⟨(some 69), none, .mv (.tmp 7), 0, false⟩,
        ⟨(some 70), none, .len false (.tmp 69), 0, false⟩,
        ⟨(some 71), none, .bini .lss (.tmp 68) (.tmp 70), 0, false⟩])
      (.cond (.tmp 71)
        .skip
        (.exit 4)))
      (.seq (.block 5
        (.seq (.regN [7, 11, 12] [
          ⟨(some 74), none, .mv (.tmp 7), 0, false⟩,
          ⟨(some 75), none, .mv (.tmp 12), 0, false⟩,
          ⟨(some 76), none, .ixA 1 (.tmp 74) (.tmp 75), 0, false⟩,
          ⟨(some 77), none, .ld1 none (.tmp 76), 0, false⟩])
        (.cond (.tmp 77)
          (.regN [7, 11, 12] [
            ⟨(some 78), none, .mv (.tmp 11), 0, false⟩,
            ⟨(some 79), none, .mv (.tmp 12), 0, false⟩,
            ⟨(some 80), none, .buildS 1 [(.val (.int .i64 0))] [(0, 1, (.tmp 79))], 0, false⟩,
            ⟨(some 81), none, .app 1 8 (.tmp 78) (.tmp 80), 0, false⟩,
            ⟨(some 11), none, .mv (.tmp 81), 0, false⟩])
          .skip)))
      (.regN [7, 11, 12] [
        ⟨(some 72), none, .mv (.tmp 12), 0, false⟩,
        ⟨(some 73), none, .bini .add (.tmp 72) (.con (.val (.int .i64 1))), 0, false⟩,
        ⟨(some 12), none, .mv (.tmp 73), 0, false⟩])))
def t51B : AC := (.seq (.regN [0, 1, 2] [
    ⟨(some 3), none, .boxR 3 (.tmp 0), 0, false⟩,
    ⟨(some 6), none, .mv (.con .e0), 0, false⟩])
  (.seq (.regN [1, 2, 3] [
    ⟨(some 13), none, .fldA 0 (.tmp 3), 0, false⟩,
    ⟨(some 14), none, .ld1 (some 3) (.tmp 13), 0, false⟩,
    ⟨(some 15), none, .len false (.tmp 14), 0, false⟩,
    ⟨(some 16), none, .mks 1 1 [(.val (.bool false))] (.tmp 15), 0, false⟩,
    ⟨(some 7), none, .mv (.tmp 16), 0, false⟩])
  (.seq (.seq (.regN [1, 2, 3, 7] [
    ⟨(some 8), none, .mv (.con (.val (.int .i64 0))), 0, false⟩])
  (.block 0
    (.loop [1, 2, 3, 7, 8] t51L2)))
  (.seq (.regN [7] [
    ⟨(some 11), none, .mv (.con .e0), 0, false⟩])
  (.seq (.seq (.regN [7, 11] [
    ⟨(some 12), none, .mv (.con (.val (.int .i64 0))), 0, false⟩])
  (.block 4
    (.loop [7, 11, 12] t51L3)))
  (.seq (.regN [11] [
    ⟨(some 82), none, .mv (.tmp 11), 0, false⟩,
    ⟨(some 6), none, .mv (.tmp 82), 0, false⟩])
  .ret))))))
def t51 : AFn := ⟨3, t51B,
  [.tmp 6], true⟩
/-- viewport/viewportref01.Has  -/
def t57B : AC := (.seq (.regN [0, 1] [
    ⟨(some 2), none, .boxR 4 (.tmp 0), 0, false⟩,
    ⟨(some 4), none, .mv (.con (.val (.bool false))), 0, false⟩])
  (.seq (.regN [1, 2] [
    ⟨(some 5), none, .mv (.tmp 1), 0, false⟩,
    ⟨(some 6), none, .bini .quo (.tmp 5) (.con (.val (.int .u8 64))), 0, false⟩,
    ⟨(some 7), none, .ixR 4 1 (.tmp 2) (.tmp 6), 0, false⟩,
    ⟨(some 8), none, .ld1 (some 2) (.tmp 7), 0, false⟩,
    ⟨(some 9), none, .mv (.tmp 1), 0, false⟩,
    ⟨(some 10), none, .bini .rem (.tmp 9) (.con (.val (.int .u8 64))), 0, false⟩,
    ⟨(some 11), none, .cvi .u64 (.tmp 10), 0, false⟩,
    ⟨(some 12), none, .bini .shr (.tmp 8) (.tmp 11), 0, false⟩,
    ⟨(some 13), none, .bini .and (.tmp 12) (.con (.val (.int .u64 1))), 0, false⟩,
    ⟨(some 14), none, .bini .eql (.tmp 13) (.con (.val (.int .u64 1))), 0, false⟩,
    ⟨(some 4), none, .mv (.tmp 14), 0, false⟩])
  .ret))
def t57 : AFn := ⟨2, t57B,
  [.tmp 4], true⟩
/-- viewport/munch.All  -/
def t14L1 : AC := (.seq (.seq (.regN [1, 2, 5, 6] [
        ⟨(some 10), none, .mv (.tmp 6), 0, false⟩,
        ⟨(some 11), none, .mv (.tmp 1), 0, false⟩,
        ⟨(some 12), none, .len true (.tmp 11), 0, false⟩,
        ⟨(some 13), none, .bini .lss (.tmp 10) (.tmp 12), 0, false⟩])
      (.cond (.tmp 13)
        .skip
        (.exit 0)))
      (.seq (.block 1
        (.regN [1, 2, 5, 6] [
          ⟨(some 21), none, .mv (.tmp 5), 0, false⟩,
          ⟨(some 22), none, .ldA (some 2) 2 (.tmp 2), 0, false⟩,
          ⟨(some 23), none, .mv (.tmp 1), 0, false⟩,
          ⟨(some 24), none, .mv (.tmp 6), 0, false⟩,
          ⟨(some 25), none, .call 34 [(.tmp 22), (.tmp 23), (.tmp 24)], 0, false⟩,
          ⟨(some 26), none, .buildS 1 [(.val (.int .i64 0)), (.val (.int .i64 0)), (.val (.int .i64 0)), (.val (.int .i64 0))] [(0, 4, (.tmp 25))], 0, false⟩,
          ⟨(some 27), none, .app 4 32 (.tmp 21) (.tmp 26), 0, false⟩,
          ⟨(some 5), none, .mv (.tmp 27), 0, false⟩]))
      (.regN [1, 2, 5] [
        ⟨(some 14), none, .mv (.tmp 5), 0, false⟩,
        ⟨(some 15), none, .mv (.tmp 5), 0, false⟩,
        ⟨(some 16), none, .len false (.tmp 15), 0, false⟩,
        ⟨(some 17), none, .bini .sub (.tmp 16) (.con (.val (.int .i64 1))), 0, false⟩,
        ⟨(some 18), none, .ixA 4 (.tmp 14) (.tmp 17), 0, false⟩,
        ⟨(some 19), none, .fldA 2 (.tmp 18), 0, false⟩,
        ⟨(some 20), none, .ld1 none (.tmp 19), 0, false⟩,
        ⟨(some 6), none, .mv (.tmp 20), 0, false⟩])))
def t14B : AC := (.seq (.regN [0, 1] [
    ⟨(some 2), none, .boxR 2 (.tmp 0), 0, false⟩,
    ⟨(some 4), none, .mv (.con .e0), 0, false⟩])
  (.seq (.seq (.regN [1, 2] [
    ⟨(some 7), none, .ldA (some 2) 2 (.tmp 2), 0, false⟩,
    ⟨(some 8), none, .call 33 [(.tmp 7)], 0, false⟩,
    ⟨(some 9), none, .bini .neq (.tmp 8) (.con (.val (.int .i64 0))), 0, false⟩])
  (.cond (.tmp 9)
    (.seq (.regN [] [
      ⟨(some 4), none, .mv (.con .e0), 0, false⟩])
    .ret)
    .skip))
  (.seq (.regN [1, 2] [
    ⟨(some 5), none, .mv (.con .e0), 0, false⟩])
  (.seq (.seq (.regN [1, 2, 5] [
    ⟨(some 6), none, .mv (.con (.val (.int .i64 0))), 0, false⟩])
  (.block 0
    (.loop [1, 2, 5, 6] t14L1)))
  (.seq (.regN [5] [
    ⟨(some 28), none, .mv (.tmp 5), 0, false⟩,
    ⟨(some 4), none, .mv (.tmp 28), 0, false⟩])
  .ret)))))
def t14 : AFn := ⟨2, t14B,
  [.tmp 4], false⟩
/-- viewport/dfa.Check  -/
def t33B : AC := (.seq (.regN [0] [
    ⟨(some 1), none, .boxR 2 (.tmp 0), 0, false⟩,
    ⟨(some 2), none, .mv (.con (.val (.int .i64 0))), 0, false⟩])
  (.seq (.regN [1] [
    ⟨(some 4), none, .fldA 1 (.tmp 1), 0, false⟩,
    ⟨(some 5), none, .ld1 (some 1) (.tmp 4), 0, false⟩,
    ⟨(some 6), none, .len false (.tmp 5), 0, false⟩,
    ⟨(some 3), none, .mv (.tmp 6), 0, false⟩])
  (.seq (.seq (.regN [1, 3] [
    ⟨(some 7), none, .mv (.tmp 3), 0, false⟩,
    ⟨(some 8), none, .bini .lss (.tmp 7) (.con (.val (.int .i64 1))), 0, false⟩,
    ⟨(some 9), none, .mv (.tmp 8), 0, false⟩,
    ⟨(some 10), (some (9, false)), .mv (.tmp 3), 0, false⟩,
    ⟨(some 11), (some (9, false)), .bini .gtr (.tmp 10) (.con (.val (.int .i64 512))), 0, false⟩,
    ⟨(some 12), none, .pick (.tmp 9) (.con (.val (.bool true))) (.tmp 11), 0, false⟩,
    ⟨(some 13), none, .mv (.tmp 12), 0, false⟩,
    ⟨(some 14), (some (13, false)), .fldA 0 (.tmp 1), 0, false⟩,
    ⟨(some 15), (some (13, false)), .ld1 (some 1) (.tmp 14), 0, false⟩,
    ⟨(some 16), (some (13, false)), .len false (.tmp 15), 0, false⟩,
    ⟨(some 17), (some (13, false)), .mv (.tmp 3), 0, false⟩,
    ⟨(some 18), (some (13, false)), .bini .mul (.con (.val (.int .i64 256))) (.tmp 17), 0, false⟩,
    ⟨(some 19), (some (13, false)), .bini .neq (.tmp 16) (.tmp 18), 0, false⟩,
    ⟨(some 20), none, .pick (.tmp 13) (.con (.val (.bool true))) (.tmp 19), 0, false⟩])
  (.cond (.tmp 20)
    (.seq (.regN [] [
      ⟨(some 2), none, .mv (.con (.val (.int .i64 2))), 0, false⟩])
    .ret)
    .skip))
  (.seq (.seq (.regN [1, 3] [
    ⟨(some 21), none, .fldA 1 (.tmp 1), 0, false⟩,
    ⟨(some 22), none, .ld1 (some 1) (.tmp 21), 0, false⟩,
    ⟨(some 23), none, .call 40 [(.tmp 22)], 0, false⟩,
    ⟨(some 24), none, .bini .lss (.tmp 23) (.con (.val (.int .i64 (-1)))), 0, false⟩,
    ⟨(some 25), none, .mv (.tmp 24), 0, false⟩,
    ⟨(some 26), (some (25, false)), .fldA 1 (.tmp 1), 0, false⟩,
    ⟨(some 27), (some (25, false)), .ld1 (some 1) (.tmp 26), 0, false⟩,
    ⟨(some 28), (some (25, false)), .call 41 [(.tmp 27)], 0, false⟩,
    ⟨(some 29), (some (25, false)), .bini .geq (.tmp 28) (.con (.val (.int .i64 16))), 0, false⟩,
    ⟨(some 30), none, .pick (.tmp 25) (.con (.val (.bool true))) (.tmp 29), 0, false⟩,
    ⟨(some 31), none, .mv (.tmp 30), 0, false⟩,
    ⟨(some 32), (some (31, false)), .fldA 0 (.tmp 1), 0, false⟩,
    ⟨(some 33), (some (31, false)), .ld1 (some 1) (.tmp 32), 0, false⟩,
    ⟨(some 34), (some (31, false)), .call 40 [(.tmp 33)], 0, false⟩,
    ⟨(some 35), (some (31, false)), .bini .lss (.tmp 34) (.con (.val (.int .i64 (-1)))), 0, false⟩,
    ⟨(some 36), none, .pick (.tmp 31) (.con (.val (.bool true))) (.tmp 35), 0, false⟩,
    ⟨(some 37), none, .mv (.tmp 36), 0, false⟩,
    ⟨(some 38), (some (37, false)), .fldA 0 (.tmp 1), 0, false⟩,
    ⟨(some 39), (some (37, false)), .ld1 (some 1) (.tmp 38), 0, false⟩,
    ⟨(some 40), (some (37, false)), .call 41 [(.tmp 39)], 0, false⟩,
    ⟨(some 41), (some (37, false)), .mv (.tmp 3), 0, false⟩,
    ⟨(some 42), (some (37, false)), .bini .geq (.tmp 40) (.tmp 41), 0, false⟩,
    ⟨(some 43), none, .pick (.tmp 37) (.con (.val (.bool true))) (.tmp 42), 0, false⟩])
  (.cond (.tmp 43)
    (.seq (.regN [] [
      ⟨(some 2), none, .mv (.con (.val (.int .i64 2))), 0, false⟩])
    .ret)
    .skip))
  (.seq (.regN [] [
    ⟨(some 2), none, .mv (.con (.val (.int .i64 0))), 0, false⟩])
  .ret)))))
def t33 : AFn := ⟨1, t33B,
  [.tmp 2], true⟩
/-- slices.Min[[]int,int] BAD -/
def t40L1 : AC := (.seq (.seq (.regN [0, 3, 4] [
        ⟨(some 12), none, .mv (.tmp 4), 0, false⟩,
        ⟨(some 13), none, .mv (.tmp 0), 0, false⟩,
        ⟨(some 14), none, .len false (.tmp 13), 0, false⟩,
        ⟨(some 15), none, .bini .lss (.tmp 12) (.tmp 14), 0, false⟩])
      (.cond (.tmp 15)
        .skip
        (.exit 0)))
      (.seq (.block 1
        (.regN [0, 3, 4] [
          ⟨(some 18), none, .mv (.tmp 3), 0, false⟩,
          ⟨(some 19), none, .mv (.tmp 0), 0, false⟩,
          ⟨(some 20), none, .mv (.tmp 4), 0, false⟩,
          ⟨(some 21), none, .ixA 1 (.tmp 19) (.tmp 20), 0, false⟩,
          ⟨(some 22), none, .ld1 none (.tmp 21), 0, false⟩,
          ⟨(some 23), none, .mm false [(.tmp 18), (.tmp 22)], 0, false⟩,
          ⟨(some 3), none, .mv (.tmp 23), 0, false⟩]))
      (.regN [0, 3, 4] [
        ⟨(some 16), none, .mv (.tmp 4), 0, false⟩,
        ⟨(some 17), none, .bini .add (.tmp 16) (.con (.val (.int .i64 1))), 0, false⟩,
        ⟨(some 4), none, .mv (.tmp 17), 0, false⟩])))
def t40B : AC := (.seq (.regN [0] [
    ⟨(some 2), none, .mv (.con (.val (.int .i64 0))), 0, false⟩])
  (.seq (.seq (.regN [0] [
    ⟨(some 5), none, .mv (.tmp 0), 0, false⟩,
    ⟨(some 6), none, .len false (.tmp 5), 0, false⟩,
    ⟨(some 7), none, .bini .lss (.tmp 6) (.con (.val (.int .i64 1))), 0, false⟩])
  (.cond (.tmp 7)
    (.regN [0] [
      ⟨(some 8), none, .bad, 0, false⟩,
      ⟨none, none, .bad, 0, false⟩])
    .skip))
  (.seq (.regN [0] [
    ⟨(some 9), none, .mv (.tmp 0), 0, false⟩,
    ⟨(some 10), none, .ixA 1 (.tmp 9) (.con (.val (.int .i64 0))), 0, false⟩,
    ⟨(some 11), none, .ld1 none (.tmp 10), 0, false⟩,
    ⟨(some 3), none, .mv (.tmp 11), 0, false⟩])
  (.seq (.seq (.regN [0, 3] [
    ⟨(some 4), none, .mv (.con (.val (.int .i64 1))), 0, false⟩])
  (.block 0
    (.loop [0, 3, 4] t40L1)))
  (.seq (.regN [3] [
    ⟨(some 24), none, .mv (.tmp 3), 0, false⟩,
    ⟨(some 2), none, .mv (.tmp 24), 0, false⟩])
  .ret)))))
def t40 : AFn := ⟨1, t40B,
  [.tmp 2], true⟩
/-- slices.Max[[]int,int] BAD -/
def t41L1 : AC := (.seq (.seq (.regN [0, 3, 4] [
        ⟨(some 12), none, .mv (.tmp 4), 0, false⟩,
        ⟨(some 13), none, .mv (.tmp 0), 0, false⟩,
        ⟨(some 14), none, .len false (.tmp 13), 0, false⟩,
        ⟨(some 15), none, .bini .lss (.tmp 12) (.tmp 14), 0, false⟩])
      (.cond (.tmp 15)
        .skip
        (.exit 0)))
      (.seq (.block 1
        (.regN [0, 3, 4] [
          ⟨(some 18), none, .mv (.tmp 3), 0, false⟩,
          ⟨(some 19), none, .mv (.tmp 0), 0, false⟩,
          ⟨(some 20), none, .mv (.tmp 4), 0, false⟩,
          ⟨(some 21), none, .ixA 1 (.tmp 19) (.tmp 20), 0, false⟩,
          ⟨(some 22), none, .ld1 none (.tmp 21), 0, false⟩,
          ⟨(some 23), none, .mm true [(.tmp 18), (.tmp 22)], 0, false⟩,
          ⟨(some 3), none, .mv (.tmp 23), 0, false⟩]))
      (.regN [0, 3, 4] [
        ⟨(some 16), none, .mv (.tmp 4), 0, false⟩,
        ⟨(some 17), none, .bini .add (.tmp 16) (.con (.val (.int .i64 1))), 0, false⟩,
        ⟨(some 4), none, .mv (.tmp 17), 0, false⟩])))
def t41B : AC := (.seq (.regN [0] [
    ⟨(some 2), none, .mv (.con (.val (.int .i64 0))), 0, false⟩])
  (.seq (.seq (.regN [0] [
    ⟨(some 5), none, .mv (.tmp 0), 0, false⟩,
    ⟨(some 6), none, .len false (.tmp 5), 0, false⟩,
    ⟨(some 7), none, .bini .lss (.tmp 6) (.con (.val (.int .i64 1))), 0, false⟩])
  (.cond (.tmp 7)
    (.regN [0] [
      ⟨(some 8), none, .bad, 0, false⟩,
      ⟨none, none, .bad, 0, false⟩])
    .skip))
  (.seq (.regN [0] [
    ⟨(some 9), none, .mv (.tmp 0), 0, false⟩,
    ⟨(some 10), none, .ixA 1 (.tmp 9) (.con (.val (.int .i64 0))), 0, false⟩,
    ⟨(some 11), none, .ld1 none (.tmp 10), 0, false⟩,
    ⟨(some 3), none, .mv (.tmp 11), 0, false⟩])
  (.seq (.seq (.regN [0, 3] [
    ⟨(some 4), none, .mv (.con (.val (.int .i64 1))), 0, false⟩])
  (.block 0
    (.loop [0, 3, 4] t41L1)))
  (.seq (.regN [3] [
    ⟨(some 24), none, .mv (.tmp 3), 0, false⟩,
    ⟨(some 2), none, .mv (.tmp 24), 0, false⟩])
  .ret)))))
def t41 : AFn := ⟨1, t41B,
  [.tmp 2], true⟩
/-- viewport/munch.next  -/
def t34L1 : AC := (.block 1
        (.seq (.regN [1, 3, 6, 7] [
          ⟨(some 10), none, .ldA (some 7) 9 (.tmp 7), 0, false⟩,
          ⟨(some 11), none, .ldA (some 3) 2 (.tmp 3), 0, false⟩,
          ⟨(some 12), none, .mv (.tmp 1), 0, false⟩,
          ⟨(some 13), none, .call 38 [(.tmp 10), (.tmp 11), (.tmp 12)], 0, false⟩,
          ⟨none, none, .st (some 7) 9 (.tmp 7) (.tmp 13), 0, false⟩])
        (.seq (.regN [1, 3, 6, 7] [
          ⟨(some 14), none, .fldA 8 (.tmp 7), 0, false⟩,
          ⟨(some 15), none, .ld1 (some 7) (.tmp 14), 0, false⟩])
        (.cond (.tmp 15)
          (.exit 0)
          .skip))))
def t34B : AC := (.seq (.regN [0, 1, 2] [
    ⟨(some 3), none, .boxR 2 (.tmp 0), 0, false⟩,
    ⟨(some 6), none, .allocR [(.val (.int .i64 0)), (.val (.int .i64 0)), (.val (.int .i64 0)), (.val (.int .i64 0))], 0, false⟩])
  (.seq (.regN [1, 2, 3, 6] [
    ⟨(some 8), none, .mv (.tmp 2), 0, false⟩,
    ⟨(some 9), none, .call 39 [(.tmp 8)], 0, false⟩,
    ⟨(some 7), none, .allocR [(.val (.int .i64 0)), (.val (.int .i64 0)), (.val (.int .i64 0)), (.val (.int .i64 0)), (.val (.int .i64 0)), (.val (.int .i64 0)), (.val (.int .i64 0)), (.val (.bool false)), (.val (.bool false))], 0, false⟩,
    ⟨none, none, .st (some 7) 9 (.tmp 7) (.tmp 9), 0, false⟩])
  (.seq .skip
  (.seq (.block 0
    (.loop [1, 3, 6, 7] t34L1))
  (.seq (.regN [6, 7] [
    ⟨(some 16), none, .fldA 3 (.tmp 7), 0, false⟩,
    ⟨(some 17), none, .ldA (some 7) 4 (.tmp 16), 0, false⟩,
    ⟨none, none, .st (some 6) 4 (.tmp 6) (.tmp 17), 0, false⟩])
  .ret)))))
def t34 : AFn := ⟨3, t34B,
  [.cell 6 4 true], true⟩
/-- viewport/munch.begin  -/
def t39B : AC := (.seq (.regN [0] [
    ⟨(some 2), none, .allocR [(.val (.int .i64 0)), (.val (.int .i64 0)), (.val (.int .i64 0)), (.val (.int .i64 0)), (.val (.int .i64 0)), (.val (.int .i64 0)), (.val (.int .i64 0)), (.val (.bool false)), (.val (.bool false))], 0, false⟩])
  (.seq (.regN [0, 2] [
    ⟨(some 3), none, .mv (.tmp 0), 0, false⟩,
    ⟨(some 4), none, .mv (.tmp 0), 0, false⟩,
    ⟨(some 5), none, .mv (.tmp 0), 0, false⟩,
    ⟨(some 6), none, .bini .add (.tmp 5) (.con (.val (.int .i64 1))), 0, false⟩,
    ⟨(some 7), none, .build [(.val (.int .i64 0)), (.val (.int .i64 0)), (.val (.int .i64 0)), (.val (.int .i64 0))] [(0, 1, (.con (.val (.int .i64 (-1))))), (1, 1, (.tmp 4)), (2, 1, (.tmp 6))], 0, false⟩,
    ⟨(some 8), none, .build [(.val (.int .i64 0)), (.val (.int .i64 0)), (.val (.int .i64 0)), (.val (.int .i64 0)), (.val (.int .i64 0)), (.val (.int .i64 0)), (.val (.int .i64 0)), (.val (.bool false)), (.val (.bool false))] [(0, 1, (.tmp 3)), (3, 4, (.tmp 7)), (7, 1, (.con (.val (.bool true))))], 0, false⟩,
    ⟨none, none, .st (some 2) 9 (.tmp 2) (.tmp 8), 0, false⟩])
  .ret))
def t39 : AFn := ⟨1, t39B,
  [.cell 2 9 true], true⟩
/-- (viewport/munch.scan).look  -/
def t38B : AC := (.seq (.regN [0, 1, 2] [
    ⟨(some 3), none, .boxR 9 (.tmp 0), 0, false⟩,
    ⟨(some 4), none, .boxR 2 (.tmp 1), 0, false⟩,
    ⟨(some 6), none, .allocR [(.val (.int .i64 0)), (.val (.int .i64 0)), (.val (.int .i64 0)), (.val (.int .i64 0)), (.val (.int .i64 0)), (.val (.int .i64 0)), (.val (.int .i64 0)), (.val (.bool false)), (.val (.bool false))], 0, false⟩])
  (.seq (.regN [2, 3, 4, 6] [
    ⟨(some 9), none, .fldA 0 (.tmp 3), 0, false⟩,
    ⟨(some 10), none, .ld1 (some 3) (.tmp 9), 0, false⟩,
    ⟨(some 11), none, .fldA 1 (.tmp 3), 0, false⟩,
    ⟨(some 12), none, .ld1 (some 3) (.tmp 11), 0, false⟩,
    ⟨(some 13), none, .bini .add (.tmp 10) (.tmp 12), 0, false⟩,
    ⟨(some 7), none, .mv (.tmp 13), 0, false⟩])
  (.seq (.regN [2, 3, 4, 6, 7] [
    ⟨(some 14), none, .fldA 1 (.tmp 3), 0, false⟩,
    ⟨(some 15), none, .ld1 (some 3) (.tmp 14), 0, false⟩,
    ⟨(some 16), none, .bini .add (.tmp 15) (.con (.val (.int .i64 1))), 0, false⟩,
    ⟨(some 17), none, .fldA 1 (.tmp 3), 0, false⟩,
    ⟨none, none, .st (some 3) 1 (.tmp 17) (.tmp 16), 0, false⟩])
  (.seq (.regN [2, 3, 4, 6, 7] [
    ⟨(some 18), none, .mv (.tmp 7), 0, false⟩,
    ⟨(some 19), none, .bini .add (.tmp 18) (.con (.val (.int .i64 1))), 0, false⟩,
    ⟨(some 20), none, .fldA 3 (.tmp 3), 0, false⟩,
    ⟨(some 21), none, .fldA 3 (.tmp 20), 0, false⟩,
    ⟨none, none, .st (some 3) 1 (.tmp 21) (.tmp 19), 0, false⟩])
  (.seq (.seq (.regN [2, 3, 4, 6, 7] [
    ⟨(some 22), none, .mv (.tmp 7), 0, false⟩,
    ⟨(some 23), none, .mv (.tmp 2), 0, false⟩,
    ⟨(some 24), none, .len true (.tmp 23), 0, false⟩,
    ⟨(some 25), none, .bini .eql (.tmp 22) (.tmp 24), 0, false⟩])
  (.cond (.tmp 25)
    (.seq (.regN [3, 6] [
      ⟨(some 26), none, .fldA 8 (.tmp 3), 0, false⟩,
      ⟨none, none, .st (some 3) 1 (.tmp 26) (.con (.val (.bool true))), 0, false⟩])
    (.seq (.regN [3, 6] [
      ⟨(some 27), none, .ldA (some 3) 9 (.tmp 3), 0, false⟩,
      ⟨none, none, .st (some 6) 9 (.tmp 6) (.tmp 27), 0, false⟩])
    .ret))
    .skip))
  (.seq (.seq (.regD [2, 3, 4, 6, 7] 0 [
    ⟨(some 28), none, .fldA 0 (.tmp 4), 0, false⟩,
    ⟨(some 29), none, .ld1 (some 4) (.tmp 28), 0, false⟩,
    ⟨(some 30), none, .fldA 2 (.tmp 3), 0, false⟩,
    ⟨(some 31), none, .ld1 (some 3) (.tmp 30), 0, false⟩,
    ⟨(some 32), none, .bini .mul (.con (.val (.int .i64 256))) (.tmp 31), 0, false⟩,
    ⟨(some 33), none, .mv (.tmp 2), 0, false⟩,
    ⟨(some 34), none, .mv (.tmp 7), 0, false⟩,
    ⟨(some 35), none, .ixS (.tmp 33) (.tmp 34), 0, false⟩,
    ⟨(some 36), none, .cvi .i64 (.tmp 35), 0, false⟩,
    ⟨(some 37), none, .bini .add (.tmp 32) (.tmp 36), 0, false⟩,
    ⟨(some 38), none, .ixA 1 (.tmp 29) (.tmp 37), 0, false⟩,
    ⟨(some 39), none, .ld1 none (.tmp 38), 0, false⟩,
    ⟨(some 40), none, .fldA 2 (.tmp 3), 0, false⟩,
    ⟨none, none, .st (some 3) 1 (.tmp 40) (.tmp 39), 0, false⟩])
  (.seq (.regN [3, 4, 6, 7] [
    ⟨(some 41), none, .fldA 2 (.tmp 3), 0, false⟩,
    ⟨(some 42), none, .ld1 (some 3) (.tmp 41), 0, false⟩,
    ⟨(some 43), none, .bini .lss (.tmp 42) (.con (.val (.int .i64 0))), 0, false⟩])
  (.cond (.tmp 43)
    (.seq (.regN [3, 6] [
      ⟨(some 44), none, .fldA 8 (.tmp 3), 0, false⟩,
      ⟨none, none, .st (some 3) 1 (.tmp 44) (.con (.val (.bool true))), 0, false⟩])
    (.seq (.regN [3, 6] [
      ⟨(some 45), none, .ldA (some 3) 9 (.tmp 3), 0, false⟩,
      ⟨none, none, .st (some 6) 9 (.tmp 6) (.tmp 45), 0, false⟩])
    .ret))
    .skip)))
  (.seq (.seq (.regN [3, 4, 6, 7] [
    ⟨(some 46), none, .fldA 1 (.tmp 4), 0, false⟩,
    ⟨(some 47), none, .ld1 (some 4) (.tmp 46), 0, false⟩,
    ⟨(some 48), none, .fldA 2 (.tmp 3), 0, false⟩,
    ⟨(some 49), none, .ld1 (some 3) (.tmp 48), 0, false⟩,
    ⟨(some 50), none, .ixA 1 (.tmp 47) (.tmp 49), 0, false⟩,
    ⟨(some 51), none, .ld1 none (.tmp 50), 0, false⟩,
    ⟨(some 8), none, .mv (.tmp 51), 0, false⟩])
  (.seq (.regN [3, 6, 7, 8] [
    ⟨(some 52), none, .mv (.tmp 8), 0, false⟩,
    ⟨(some 53), none, .bini .geq (.tmp 52) (.con (.val (.int .i64 0))), 0, false⟩])
  (.cond (.tmp 53)
    (.regN [3, 6, 7, 8] [
      ⟨(some 54), none, .mv (.tmp 8), 0, false⟩,
      ⟨(some 55), none, .mv (.tmp 7), 0, false⟩,
      ⟨(some 56), none, .bini .add (.tmp 55) (.con (.val (.int .i64 1))), 0, false⟩,
      ⟨(some 57), none, .fldA 3 (.tmp 3), 0, false⟩,
      ⟨(some 58), none, .fldA 0 (.tmp 57), 0, false⟩,
      ⟨none, none, .st (some 3) 1 (.tmp 58) (.tmp 54), 0, false⟩,
      ⟨(some 59), none, .fldA 3 (.tmp 3), 0, false⟩,
      ⟨(some 60), none, .fldA 2 (.tmp 59), 0, false⟩,
      ⟨none, none, .st (some 3) 1 (.tmp 60) (.tmp 56), 0, false⟩])
    .skip)))
  (.seq (.regN [3, 6] [
    ⟨(some 61), none, .ldA (some 3) 9 (.tmp 3), 0, false⟩,
    ⟨none, none, .st (some 6) 9 (.tmp 6) (.tmp 61), 0, false⟩])
  .ret))))))))
def t38 : AFn := ⟨3, t38B,
  [.cell 6 9 true], true⟩
/-- viewport/viewportkit.Same[viewport/api.Lexeme]  -/
def t16L1 : AC := (.seq (.seq (.regN [0, 1, 5] [
        ⟨(some 11), none, .mv (.tmp 5), 0, false⟩,
        ⟨(some 12), none, .mv (.tmp 0), 0, false⟩,
        ⟨(some 13), none, .len false (.tmp 12), 0, false⟩,
        ⟨(some 14), none, .bini .lss (.tmp 11) (.tmp 13), 0, false⟩])
      (.cond (.tmp 14)
        .skip
        (.exit 0)))
      (.seq (.block 1
        (.seq (.regD [0, 1, 5] 0 [
          ⟨(some 17), none, .mv (.tmp 0), 0, false⟩,
          ⟨(some 18), none, .mv (.tmp 5), 0, false⟩,
          ⟨(some 19), none, .ixA 4 (.tmp 17) (.tmp 18), 0, false⟩,
          ⟨(some 20), none, .ldA none 4 (.tmp 19), 0, false⟩,
          ⟨(some 21), none, .mv (.tmp 1), 0, false⟩,
          ⟨(some 22), none, .mv (.tmp 5), 0, false⟩,
          ⟨(some 23), none, .ixA 4 (.tmp 21) (.tmp 22), 0, false⟩,
          ⟨(some 24), none, .ldA none 4 (.tmp 23), 0, false⟩,
          ⟨(some 25), none, .eqa true [1, 1, 1, 1] (.tmp 20) (.tmp 24), 0, false⟩])
        (.cond (.tmp 25)
          (.seq (.regN [] [
            ⟨(some 4), none, .mv (.con (.val (.bool false))), 0, false⟩])
          .ret)
          .skip)))
      (.regN [0, 1, 5] [
        ⟨(some 15), none, .mv (.tmp 5), 0, false⟩,
        ⟨(some 16), none, .bini .add (.tmp 15) (.con (.val (.int .i64 1))), 0, false⟩,
        ⟨(some 5), none, .mv (.tmp 16), 0, false⟩])))
def t16B : AC := (.seq (.regN [0, 1] [
    ⟨(some 4), none, .mv (.con (.val (.bool false))), 0, false⟩])
  (.seq (.seq (.regN [0, 1] [
    ⟨(some 6), none, .mv (.tmp 0), 0, false⟩,
    ⟨(some 7), none, .len false (.tmp 6), 0, false⟩,
    ⟨(some 8), none, .mv (.tmp 1), 0, false⟩,
    ⟨(some 9), none, .len false (.tmp 8), 0, false⟩,
    ⟨(some 10), none, .bini .neq (.tmp 7) (.tmp 9), 0, false⟩])
  (.cond (.tmp 10)
    (.seq (.regN [] [
      ⟨(some 4), none, .mv (.con (.val (.bool false))), 0, false⟩])
    .ret)
    .skip))
  (.seq (.seq (.regN [0, 1] [
    ⟨(some 5), none, .mv (.con (.val (.int .i64 0))), 0, false⟩])
  (.block 0
    (.loop [0, 1, 5] t16L1)))
  (.seq (.regN [] [
    ⟨(some 4), none, .mv (.con (.val (.bool true))), 0, false⟩])
  .ret))))
def t16 : AFn := ⟨2, t16B,
  [.tmp 4], true⟩
/-- viewport/viewportkit.LightDfa  -/
def t12B : AC := (.seq (.regN [0, 1] [
    ⟨(some 2), none, .boxR 2 (.tmp 0), 0, false⟩,
    ⟨(some 4), none, .mv (.con (.val (.bool false))), 0, false⟩])
  (.seq (.regN [1, 2] [
    ⟨(some 5), none, .fldA 1 (.tmp 2), 0, false⟩,
    ⟨(some 6), none, .ld1 (some 2) (.tmp 5), 0, false⟩,
    ⟨(some 7), none, .len false (.tmp 6), 0, false⟩,
    ⟨(some 8), none, .mv (.tmp 1), 0, false⟩,
    ⟨(some 9), none, .bini .leq (.tmp 7) (.tmp 8), 0, false⟩,
    ⟨(some 10), none, .mv (.tmp 9), 0, false⟩,
    ⟨(some 11), (some (10, true)), .fldA 0 (.tmp 2), 0, false⟩,
    ⟨(some 12), (some (10, true)), .ld1 (some 2) (.tmp 11), 0, false⟩,
    ⟨(some 13), (some (10, true)), .len false (.tmp 12), 0, false⟩,
    ⟨(some 14), (some (10, true)), .mv (.tmp 1), 0, false⟩,
    ⟨(some 15), (some (10, true)), .bini .mul (.con (.val (.int .i64 256))) (.tmp 14), 0, false⟩,
    ⟨(some 16), (some (10, true)), .bini .leq (.tmp 13) (.tmp 15), 0, false⟩,
    ⟨(some 17), none, .pick (.tmp 10) (.tmp 16) (.con (.val (.bool false))), 0, false⟩,
    ⟨(some 4), none, .mv (.tmp 17), 0, false⟩])
  .ret))
def t12 : AFn := ⟨2, t12B,
  [.tmp 4], true⟩
/-- viewport/viewportref04.Check  -/
def t13L1 : AC := (.seq (.seq (.regN [1, 3, 4] [
        ⟨(some 23), none, .mv (.tmp 4), 0, false⟩,
        ⟨(some 24), none, .mv (.tmp 3), 0, false⟩,
        ⟨(some 25), none, .bini .lss (.tmp 23) (.tmp 24), 0, false⟩])
      (.cond (.tmp 25)
        .skip
        (.exit 0)))
      (.seq (.block 1
        (.seq (.regN [1, 3, 4] [
          ⟨(some 28), none, .fldA 1 (.tmp 1), 0, false⟩,
          ⟨(some 29), none, .ld1 (some 1) (.tmp 28), 0, false⟩,
          ⟨(some 30), none, .mv (.tmp 4), 0, false⟩,
          ⟨(some 31), none, .ixA 1 (.tmp 29) (.tmp 30), 0, false⟩,
          ⟨(some 32), none, .ld1 none (.tmp 31), 0, false⟩,
          ⟨(some 33), none, .bini .lss (.tmp 32) (.con (.val (.int .i64 (-1)))), 0, false⟩,
          ⟨(some 34), none, .mv (.tmp 33), 0, false⟩,
          ⟨(some 35), (some (34, false)), .fldA 1 (.tmp 1), 0, false⟩,
          ⟨(some 36), (some (34, false)), .ld1 (some 1) (.tmp 35), 0, false⟩,
          ⟨(some 37), (some (34, false)), .mv (.tmp 4), 0, false⟩,
          ⟨(some 38), (some (34, false)), .ixA 1 (.tmp 36) (.tmp 37), 0, false⟩,
          ⟨(some 39), (some (34, false)), .ld1 none (.tmp 38), 0, false⟩,
          ⟨(some 40), (some (34, false)), .bini .geq (.tmp 39) (.con (.val (.int .i64 16))), 0, false⟩,
          ⟨(some 41), none, .pick (.tmp 34) (.con (.val (.bool true))) (.tmp 40), 0, false⟩])
        (.cond (.tmp 41)
          (.seq (.regN [] [
            ⟨(some 2), none, .mv (.con (.val (.int .i64 2))), 0, false⟩])
          .ret)
          .skip)))
      (.regN [1, 3, 4] [
        ⟨(some 26), none, .mv (.tmp 4), 0, false⟩,
        ⟨(some 27), none, .bini .add (.tmp 26) (.con (.val (.int .i64 1))), 0, false⟩,
        ⟨(some 4), none, .mv (.tmp 27), 0, false⟩])))
def t13L2 : AC := (.seq (.seq (.regN [1, 3, 5] [
        ⟨(some 42), none, .mv (.tmp 5), 0, false⟩,
        ⟨(some 43), none, .fldA 0 (.tmp 1), 0, false⟩,
        ⟨(some 44), none, .ld1 (some 1) (.tmp 43), 0, false⟩,
        ⟨(some 45), none, .len false (.tmp 44), 0, false⟩,
        ⟨(some 46), none, .bini .lss (.tmp 42) (.tmp 45), 0, false⟩])
      (.cond (.tmp 46)
        .skip
        (.exit 2)))
      (.seq (.block 3
        (.seq (.regN [1, 3, 5] [
          ⟨(some 49), none, .fldA 0 (.tmp 1), 0, false⟩,
          ⟨(some 50), none, .ld1 (some 1) (.tmp 49), 0, false⟩,
          ⟨(some 51), none, .mv (.tmp 5), 0, false⟩,
          ⟨(some 52), none, .ixA 1 (.tmp 50) (.tmp 51), 0, false⟩,
          ⟨(some 53), none, .ld1 none (.tmp 52), 0, false⟩,
          ⟨(some 54), none, .bini .lss (.tmp 53) (.con (.val (.int .i64 (-1)))), 0, false⟩,
          ⟨(some 55), none, .mv (.tmp 54), 0, false⟩,
          ⟨(some 56), (some (55, false)), .fldA 0 (.tmp 1), 0, false⟩,
          ⟨(some 57), (some (55, false)), .ld1 (some 1) (.tmp 56), 0, false⟩,
          ⟨(some 58), (some (55, false)), .mv (.tmp 5), 0, false⟩,
          ⟨(some 59), (some (55, false)), .ixA 1 (.tmp 57) (.tmp 58), 0, false⟩,
          ⟨(some 60), (some (55, false)), .ld1 none (.tmp 59), 0, false⟩,
          ⟨(some 61), (some (55, false)), .mv (.tmp 3), 0, false⟩,
          ⟨(some 62), (some (55, false)), .bini .geq (.tmp 60) (.tmp 61), 0, false⟩,
          ⟨(some 63), none, .pick (.tmp 55) (.con (.val (.bool true))) (.tmp 62), 0, false⟩])
        (.cond (.tmp 63)
          (.seq (.regN [] [
            ⟨(some 2), none, .mv (.con (.val (.int .i64 2))), 0, false⟩])
          .ret)
          .skip)))
      (.regN [1, 3, 5] [
        ⟨(some 47), none, .mv (.tmp 5), 0, false⟩,
        ⟨(some 48), none, .bini .add (.tmp 47) (.con (.val (.int .i64 1))), 0, false⟩,
        ⟨(some 5), none, .mv (.tmp 48), 0, false⟩])))
def t13B : AC := (.seq (.regN [0] [
    ⟨(some 1), none, .boxR 2 (.tmp 0), 0, false⟩,
    ⟨(some 2), none, .mv (.con (.val (.int .i64 0))), 0, false⟩])
  (.seq (.regN [1] [
    ⟨(some 6), none, .fldA 1 (.tmp 1), 0, false⟩,
    ⟨(some 7), none, .ld1 (some 1) (.tmp 6), 0, false⟩,
    ⟨(some 8), none, .len false (.tmp 7), 0, false⟩,
    ⟨(some 3), none, .mv (.tmp 8), 0, false⟩])
  (.seq (.seq (.regN [1, 3] [
    ⟨(some 9), none, .mv (.tmp 3), 0, false⟩,
    ⟨(some 10), none, .bini .lss (.tmp 9) (.con (.val (.int .i64 1))), 0, false⟩,
    ⟨(some 11), none, .mv (.tmp 10), 0, false⟩,
    ⟨(some 12), (some (11, false)), .mv (.tmp 3), 0, false⟩,
    ⟨(some 13), (some (11, false)), .bini .gtr (.tmp 12) (.con (.val (.int .i64 512))), 0, false⟩,
    ⟨(some 14), none, .pick (.tmp 11) (.con (.val (.bool true))) (.tmp 13), 0, false⟩,
    ⟨(some 15), none, .mv (.tmp 14), 0, false⟩,
    ⟨(some 16), (some (15, false)), .fldA 0 (.tmp 1), 0, false⟩,
    ⟨(some 17), (some (15, false)), .ld1 (some 1) (.tmp 16), 0, false⟩,
    ⟨(some 18), (some (15, false)), .len false (.tmp 17), 0, false⟩,
    ⟨(some 19), (some (15, false)), .mv (.tmp 3), 0, false⟩,
    ⟨(some 20), (some (15, false)), .bini .mul (.con (.val (.int .i64 256))) (.tmp 19), 0, false⟩,
    ⟨(some 21), (some (15, false)), .bini .neq (.tmp 18) (.tmp 20), 0, false⟩,
    ⟨(some 22), none, .pick (.tmp 15) (.con (.val (.bool true))) (.tmp 21), 0, false⟩])
  (.cond (.tmp 22)
    (.seq (.regN [] [
      ⟨(some 2), none, .mv (.con (.val (.int .i64 2))), 0, false⟩])
    .ret)
    .skip))
  (.seq (.seq (.regN [1, 3] [
    ⟨(some 4), none, .mv (.con (.val (.int .i64 0))), 0, false⟩])
  (.block 0
    (.loop [1, 3, 4] t13L1)))
  (.seq (.seq (.regN [1, 3] [
    ⟨(some 5), none, .mv (.con (.val (.int .i64 0))), 0, false⟩])
  (.block 2
    (.loop [1, 3, 5] t13L2)))
  (.seq (.regN [] [
    ⟨(some 2), none, .mv (.con (.val (.int .i64 0))), 0, false⟩])
  .ret))))))
def t13 : AFn := ⟨1, t13B,
  [.tmp 2], true⟩
/-- viewport/viewportkit.Pick  -/
def t15B : AC := (.seq (.regN [0, 1] [
    ⟨(some 4), none, .mv (.con (.val (.int .i64 0))), 0, false⟩])
  (.seq (.seq (.regN [0, 1] [
    ⟨(some 6), none, .mv (.tmp 1), 0, false⟩,
    ⟨(some 7), none, .bini .lss (.tmp 6) (.con (.val (.int .i64 1))), 0, false⟩])
  (.cond (.tmp 7)
    (.seq (.regN [] [
      ⟨(some 4), none, .mv (.con (.val (.int .i64 0))), 0, false⟩])
    .ret)
    .skip))
  (.seq (.regN [0, 1] [
    ⟨(some 8), none, .mv (.tmp 0), 0, false⟩,
    ⟨(some 9), none, .mv (.tmp 1), 0, false⟩,
    ⟨(some 10), none, .bini .rem (.tmp 8) (.tmp 9), 0, false⟩,
    ⟨(some 5), none, .mv (.tmp 10), 0, false⟩])
  (.seq (.seq (.regN [1, 5] [
    ⟨(some 11), none, .mv (.tmp 5), 0, false⟩,
    ⟨(some 12), none, .bini .lss (.tmp 11) (.con (.val (.int .i64 0))), 0, false⟩])
  (.cond (.tmp 12)
    (.regN [1, 5] [
      ⟨(some 13), none, .mv (.tmp 5), 0, false⟩,
      ⟨(some 14), none, .mv (.tmp 1), 0, false⟩,
      ⟨(some 15), none, .bini .add (.tmp 13) (.tmp 14), 0, false⟩,
      ⟨(some 5), none, .mv (.tmp 15), 0, false⟩])
    .skip))
  (.seq (.regN [5] [
    ⟨(some 16), none, .mv (.tmp 5), 0, false⟩,
    ⟨(some 4), none, .mv (.tmp 16), 0, false⟩])
  .ret)))))
def t15 : AFn := ⟨2, t15B,
  [.tmp 4], true⟩
/-- viewport/viewportlaw06.MunchCalls  -/
def t4B : AC := (.seq (.regN [0, 1, 2] [
    ⟨(some 3), none, .boxR 2 (.tmp 0), 0, false⟩,
    ⟨(some 6), none, .mv (.con (.val (.bool false))), 0, false⟩])
  (.seq (.seq (.regN [1, 2, 3] [
    ⟨(some 11), none, .call 11 [], 0, false⟩,
    ⟨(some 12), none, .not (.tmp 11), 0, false⟩])
  (.cond (.tmp 12)
    (.seq (.regN [] [
      ⟨(some 6), none, .mv (.con (.val (.bool false))), 0, false⟩])
    .ret)
    .skip))
  (.seq (.seq (.regN [1, 2, 3] [
    ⟨(some 13), none, .ldA (some 3) 2 (.tmp 3), 0, false⟩,
    ⟨(some 14), none, .call 12 [(.tmp 13), (.con (.val (.int .i64 24)))], 0, false⟩,
    ⟨(some 15), none, .not (.tmp 14), 0, false⟩,
    ⟨(some 16), none, .mv (.tmp 15), 0, false⟩,
    ⟨(some 17), (some (16, false)), .mv (.tmp 1), 0, false⟩,
    ⟨(some 18), (some (16, false)), .len true (.tmp 17), 0, false⟩,
    ⟨(some 19), (some (16, false)), .bini .gtr (.tmp 18) (.con (.val (.int .i64 60))), 0, false⟩,
    ⟨(some 20), none, .pick (.tmp 16) (.con (.val (.bool true))) (.tmp 19), 0, false⟩])
  (.cond (.tmp 20)
    (.seq (.regN [] [
      ⟨(some 6), none, .mv (.con (.val (.bool true))), 0, false⟩])
    .ret)
    .skip))
  (.seq (.regN [1, 2, 3] [
    ⟨(some 22), none, .ldA (some 3) 2 (.tmp 3), 0, false⟩,
    ⟨(some 23), none, .mv (.tmp 1), 0, false⟩,
    ⟨(some 24), none, .mv (.tmp 2), 0, false⟩,
    ⟨(some 25), none, .call 17 [(.tmp 22), (.tmp 23), (.tmp 24)], 0, false⟩,
    ⟨(some 21), none, .mv (.tmp 25), 0, false⟩,
    ⟨(some 26), none, .ext (.tmp 21) 0, 0, false⟩,
    ⟨(some 27), none, .ext (.tmp 21) 1, 0, false⟩,
    ⟨(some 7), none, .allocR [(.val (.int .i64 0)), (.val (.int .i64 0)), (.val (.int .i64 0)), (.val (.int .i64 0))], 0, false⟩,
    ⟨none, none, .st (some 7) 4 (.tmp 7) (.tmp 26), 0, false⟩,
    ⟨(some 8), none, .mv (.tmp 27), 0, false⟩])
  (.seq (.regN [1, 2, 3, 7, 8] [
    ⟨(some 29), none, .ldA (some 3) 2 (.tmp 3), 0, false⟩,
    ⟨(some 30), none, .mv (.tmp 1), 0, false⟩,
    ⟨(some 31), none, .mv (.tmp 2), 0, false⟩,
    ⟨(some 32), none, .call 18 [(.tmp 29), (.tmp 30), (.tmp 31)], 0, false⟩,
    ⟨(some 28), none, .mv (.tmp 32), 0, false⟩,
    ⟨(some 33), none, .ext (.tmp 28) 0, 0, false⟩,
    ⟨(some 34), none, .ext (.tmp 28) 1, 0, false⟩,
    ⟨(some 9), none, .allocR [(.val (.int .i64 0)), (.val (.int .i64 0)), (.val (.int .i64 0)), (.val (.int .i64 0))], 0, false⟩,
    ⟨none, none, .st (some 9) 4 (.tmp 9) (.tmp 33), 0, false⟩,
    ⟨(some 10), none, .mv (.tmp 34), 0, false⟩])
  (.seq (.regD [1, 3, 7, 8, 9, 10] 0 [
    ⟨(some 35), none, .ldA (some 7) 4 (.tmp 7), 0, false⟩,
    ⟨(some 36), none, .ldA (some 9) 4 (.tmp 9), 0, false⟩,
    ⟨(some 37), none, .eqa false [1, 1, 1, 1] (.tmp 35) (.tmp 36), 0, false⟩,
    ⟨(some 38), none, .mv (.tmp 37), 0, false⟩,
    ⟨(some 39), (some (38, true)), .mv (.tmp 8), 0, false⟩,
    ⟨(some 40), (some (38, true)), .mv (.tmp 10), 0, false⟩,
    ⟨(some 41), (some (38, true)), .eqb false (.tmp 39) (.tmp 40), 0, false⟩,
    ⟨(some 42), none, .pick (.tmp 38) (.tmp 41) (.con (.val (.bool false))), 0, false⟩,
    ⟨(some 43), none, .mv (.tmp 42), 0, false⟩,
    ⟨(some 44), (some (43, true)), .ldA (some 3) 2 (.tmp 3), 0, false⟩,
    ⟨(some 45), (some (43, true)), .mv (.tmp 1), 0, false⟩,
    ⟨(some 46), (some (43, true)), .call 14 [(.tmp 44), (.tmp 45)], 0, true⟩,
    ⟨(some 47), (some (43, true)), .ldA (some 3) 2 (.tmp 3), 0, false⟩,
    ⟨(some 48), (some (43, true)), .mv (.tmp 1), 0, false⟩,
    ⟨(some 49), (some (43, true)), .call 19 [(.tmp 47), (.tmp 48)], 0, true⟩,
    ⟨(some 50), (some (43, true)), .call 16 [(.tmp 46), (.tmp 49)], 0, true⟩,
    ⟨(some 51), none, .pick (.tmp 43) (.tmp 50) (.con (.val (.bool false))), 0, false⟩,
    ⟨(some 6), none, .mv (.tmp 51), 0, false⟩])
  .ret))))))
def t4 : AFn := ⟨3, t4B,
  [.tmp 6], true⟩
/-- viewport/munch.Next  -/
def t17B : AC := (.seq (.regN [0, 1, 2] [
    ⟨(some 3), none, .boxR 2 (.tmp 0), 0, false⟩,
    ⟨(some 6), none, .allocR [(.val (.int .i64 0)), (.val (.int .i64 0)), (.val (.int .i64 0)), (.val (.int .i64 0))], 0, false⟩,
    ⟨(some 7), none, .mv (.con (.val (.bool false))), 0, false⟩])
  (.seq (.seq (.regN [1, 2, 3, 6] [
    ⟨(some 8), none, .mv (.tmp 2), 0, false⟩,
    ⟨(some 9), none, .bini .lss (.tmp 8) (.con (.val (.int .i64 0))), 0, false⟩,
    ⟨(some 10), none, .mv (.tmp 9), 0, false⟩,
    ⟨(some 11), (some (10, false)), .mv (.tmp 2), 0, false⟩,
    ⟨(some 12), (some (10, false)), .mv (.tmp 1), 0, false⟩,
    ⟨(some 13), (some (10, false)), .len true (.tmp 12), 0, false⟩,
    ⟨(some 14), (some (10, false)), .bini .geq (.tmp 11) (.tmp 13), 0, false⟩,
    ⟨(some 15), none, .pick (.tmp 10) (.con (.val (.bool true))) (.tmp 14), 0, false⟩,
    ⟨(some 16), none, .mv (.tmp 15), 0, false⟩,
    ⟨(some 17), (some (16, false)), .ldA (some 3) 2 (.tmp 3), 0, false⟩,
    ⟨(some 18), (some (16, false)), .call 33 [(.tmp 17)], 0, false⟩,
    ⟨(some 19), (some (16, false)), .bini .neq (.tmp 18) (.con (.val (.int .i64 0))), 0, false⟩,
    ⟨(some 20), none, .pick (.tmp 16) (.con (.val (.bool true))) (.tmp 19), 0, false⟩])
  (.cond (.tmp 20)
    (.seq (.regN [6] [
      ⟨(some 21), none, .build [(.val (.int .i64 0)), (.val (.int .i64 0)), (.val (.int .i64 0)), (.val (.int .i64 0))] [], 0, false⟩,
      ⟨none, none, .st (some 6) 4 (.tmp 6) (.tmp 21), 0, false⟩,
      ⟨(some 7), none, .mv (.con (.val (.bool false))), 0, false⟩])
    .ret)
    .skip))
  (.seq (.regN [1, 2, 3, 6] [
    ⟨(some 22), none, .ldA (some 3) 2 (.tmp 3), 0, false⟩,
    ⟨(some 23), none, .mv (.tmp 1), 0, false⟩,
    ⟨(some 24), none, .mv (.tmp 2), 0, false⟩,
    ⟨(some 25), none, .call 34 [(.tmp 22), (.tmp 23), (.tmp 24)], 0, false⟩,
    ⟨none, none, .st (some 6) 4 (.tmp 6) (.tmp 25), 0, false⟩,
    ⟨(some 7), none, .mv (.con (.val (.bool true))), 0, false⟩])
  .ret)))
def t17 : AFn := ⟨3, t17B,
  [.cell 6 4 true, .tmp 7], true⟩
/-- viewport/viewportref06.Next  -/
def t18L1 : AC := (.seq (.block 1
        (.seq (.regN [1, 3, 6, 8, 9, 10] [
          ⟨(some 32), none, .mv (.tmp 10), 0, false⟩,
          ⟨(some 33), none, .bini .add (.tmp 32) (.con (.val (.int .i64 1))), 0, false⟩,
          ⟨(some 34), none, .fldA 3 (.tmp 8), 0, false⟩,
          ⟨none, none, .st (some 8) 1 (.tmp 34) (.tmp 33), 0, false⟩])
        (.seq (.seq (.regN [1, 3, 6, 8, 9, 10] [
          ⟨(some 35), none, .mv (.tmp 10), 0, false⟩,
          ⟨(some 36), none, .mv (.tmp 1), 0, false⟩,
          ⟨(some 37), none, .len true (.tmp 36), 0, false⟩,
          ⟨(some 38), none, .bini .eql (.tmp 35) (.tmp 37), 0, false⟩])
        (.cond (.tmp 38)
          (.seq (.regN [6, 8] [
            ⟨(some 39), none, .ldA (some 8) 4 (.tmp 8), 0, false⟩,
            ⟨none, none, .st (some 6) 4 (.tmp 6) (.tmp 39), 0, false⟩,
            ⟨(some 7), none, .mv (.con (.val (.bool true))), 0, false⟩])
          .ret)
          .skip))
        (.seq (.regD [1, 3, 6, 8, 9, 10] 0 [
          ⟨(some 40), none, .fldA 0 (.tmp 3), 0, false⟩,
          ⟨(some 41), none, .ld1 (some 3) (.tmp 40), 0, false⟩,
          ⟨(some 42), none, .mv (.tmp 9), 0, false⟩,
          ⟨(some 43), none, .bini .mul (.con (.val (.int .i64 256))) (.tmp 42), 0, false⟩,
          ⟨(some 44), none, .mv (.tmp 1), 0, false⟩,
          ⟨(some 45), none, .mv (.tmp 10), 0, false⟩,
          ⟨(some 46), none, .ixS (.tmp 44) (.tmp 45), 0, false⟩,
          ⟨(some 47), none, .cvi .i64 (.tmp 46), 0, false⟩,
          ⟨(some 48), none, .bini .add (.tmp 43) (.tmp 47), 0, false⟩,
          ⟨(some 49), none, .ixA 1 (.tmp 41) (.tmp 48), 0, false⟩,
          ⟨(some 50), none, .ld1 none (.tmp 49), 0, false⟩,
          ⟨(some 9), none, .mv (.tmp 50), 0, false⟩])
        (.seq (.seq (.regN [1, 3, 6, 8, 9, 10] [
          ⟨(some 51), none, .mv (.tmp 9), 0, false⟩,
          ⟨(some 52), none, .bini .lss (.tmp 51) (.con (.val (.int .i64 0))), 0, false⟩])
        (.cond (.tmp 52)
          (.seq (.regN [6, 8] [
            ⟨(some 53), none, .ldA (some 8) 4 (.tmp 8), 0, false⟩,
            ⟨none, none, .st (some 6) 4 (.tmp 6) (.tmp 53), 0, false⟩,
            ⟨(some 7), none, .mv (.con (.val (.bool true))), 0, false⟩])
          .ret)
          .skip))
        (.seq (.regN [1, 3, 6, 8, 9, 10] [
          ⟨(some 54), none, .fldA 1 (.tmp 3), 0, false⟩,
          ⟨(some 55), none, .ld1 (some 3) (.tmp 54), 0, false⟩,
          ⟨(some 56), none, .mv (.tmp 9), 0, false⟩,
          ⟨(some 57), none, .ixA 1 (.tmp 55) (.tmp 56), 0, false⟩,
          ⟨(some 58), none, .ld1 none (.tmp 57), 0, false⟩,
          ⟨(some 59), none, .bini .geq (.tmp 58) (.con (.val (.int .i64 0))), 0, false⟩])
        (.cond (.tmp 59)
          (.regN [1, 3, 6, 8, 9, 10] [
            ⟨(some 60), none, .fldA 1 (.tmp 3), 0, false⟩,
            ⟨(some 61), none, .ld1 (some 3) (.tmp 60), 0, false⟩,
            ⟨(some 62), none, .mv (.tmp 9), 0, false⟩,
            ⟨(some 63), none, .ixA 1 (.tmp 61) (.tmp 62), 0, false⟩,
            ⟨(some 64), none, .ld1 none (.tmp 63), 0, false⟩,
            ⟨(some 65), none, .mv (.tmp 10), 0, false⟩,
            ⟨(some 66), none, .bini .add (.tmp 65) (.con (.val (.int .i64 1))), 0, false⟩,
            ⟨(some 67), none, .fldA 0 (.tmp 8), 0, false⟩,
            ⟨none, none, .st (some 8) 1 (.tmp 67) (.tmp 64), 0, false⟩,
            ⟨(some 68), none, .fldA 2 (.tmp 8), 0, false⟩,
            ⟨none, none, .st (some 8) 1 (.tmp 68) (.tmp 66), 0, false⟩])
          .skip)))))))
      (.regN [1, 3, 6, 8, 9, 10] [
        ⟨(some 30), none, .mv (.tmp 10), 0, false⟩,
        ⟨(some 31), none, .bini .add (.tmp 30) (.con (.val (.int .i64 1))), 0, false⟩,
        ⟨(some 10), none, .mv (.tmp 31), 0, false⟩]))
def t18B : AC := (.seq (.regN [0, 1, 2] [
    ⟨(some 3), none, .boxR 2 (.tmp 0), 0, false⟩,
    ⟨(some 6), none, .allocR [(.val (.int .i64 0)), (.val (.int .i64 0)), (.val (.int .i64 0)), (.val (.int .i64 0))], 0, false⟩,
    ⟨(some 7), none, .mv (.con (.val (.bool false))), 0, false⟩])
  (.seq (.seq (.regN [1, 2, 3, 6] [
    ⟨(some 11), none, .ldA (some 3) 2 (.tmp 3), 0, false⟩,
    ⟨(some 12), none, .call 13 [(.tmp 11)], 0, false⟩,
    ⟨(some 13), none, .bini .neq (.tmp 12) (.con (.val (.int .i64 0))), 0, false⟩,
    ⟨(some 14), none, .mv (.tmp 13), 0, false⟩,
    ⟨(some 15), (some (14, false)), .mv (.tmp 2), 0, false⟩,
    ⟨(some 16), (some (14, false)), .bini .lss (.tmp 15) (.con (.val (.int .i64 0))), 0, false⟩,
    ⟨(some 17), none, .pick (.tmp 14) (.con (.val (.bool true))) (.tmp 16), 0, false⟩,
    ⟨(some 18), none, .mv (.tmp 17), 0, false⟩,
    ⟨(some 19), (some (18, false)), .mv (.tmp 2), 0, false⟩,
    ⟨(some 20), (some (18, false)), .mv (.tmp 1), 0, false⟩,
    ⟨(some 21), (some (18, false)), .len true (.tmp 20), 0, false⟩,
    ⟨(some 22), (some (18, false)), .bini .geq (.tmp 19) (.tmp 21), 0, false⟩,
    ⟨(some 23), none, .pick (.tmp 18) (.con (.val (.bool true))) (.tmp 22), 0, false⟩])
  (.cond (.tmp 23)
    (.seq (.regN [6] [
      ⟨(some 24), none, .build [(.val (.int .i64 0)), (.val (.int .i64 0)), (.val (.int .i64 0)), (.val (.int .i64 0))] [], 0, false⟩,
      ⟨none, none, .st (some 6) 4 (.tmp 6) (.tmp 24), 0, false⟩,
      ⟨(some 7), none, .mv (.con (.val (.bool false))), 0, false⟩])
    .ret)
    .skip))
  (.seq (.regN [1, 2, 3, 6] [
    ⟨(some 25), none, .mv (.tmp 2), 0, false⟩,
    ⟨(some 26), none, .mv (.tmp 2), 0, false⟩,
    ⟨(some 27), none, .bini .add (.tmp 26) (.con (.val (.int .i64 1))), 0, false⟩,
    ⟨(some 28), none, .build [(.val (.int .i64 0)), (.val (.int .i64 0)), (.val (.int .i64 0)), (.val (.int .i64 0))] [(0, 1, (.con (.val (.int .i64 (-1))))), (1, 1, (.tmp 25)), (2, 1, (.tmp 27))], 0, false⟩,
    ⟨(some 8), none, .allocR [(.val (.int .i64 0)), (.val (.int .i64 0)), (.val (.int .i64 0)), (.val (.int .i64 0))], 0, false⟩,
    ⟨none, none, .st (some 8) 4 (.tmp 8) (.tmp 28), 0, false⟩])
  (.seq (.regN [1, 2, 3, 6, 8] [
    ⟨(some 9), none, .mv (.con (.val (.int .i64 0))), 0, false⟩])
  (.seq (.regN [1, 2, 3, 6, 8, 9] [
    ⟨(some 29), none, .mv (.tmp 2), 0, false⟩,
    ⟨(some 10), none, .mv (.tmp 29), 0, false⟩])
  (.block 0
    (.loop [1, 3, 6, 8, 9, 10] t18L1)))))))
def t18 : AFn := ⟨3, t18B,
  [.cell 6 4 true, .tmp 7], true⟩
/-- viewport/viewportref06.All  -/
def t19L1 : AC := (.seq (.seq (.regN [1, 2, 5, 6] [
        ⟨(some 9), none, .mv (.tmp 6), 0, false⟩,
        ⟨(some 10), none, .mv (.tmp 1), 0, false⟩,
        ⟨(some 11), none, .len true (.tmp 10), 0, false⟩,
        ⟨(some 12), none, .bini .lss (.tmp 9) (.tmp 11), 0, false⟩])
      (.cond (.tmp 12)
        .skip
        (.exit 0)))
      (.block 1
        (.seq (.regN [1, 2, 5, 6] [
          ⟨(some 14), none, .ldA (some 2) 2 (.tmp 2), 0, false⟩,
          ⟨(some 15), none, .mv (.tmp 1), 0, false⟩,
          ⟨(some 16), none, .mv (.tmp 6), 0, false⟩,
          ⟨(some 17), none, .call 18 [(.tmp 14), (.tmp 15), (.tmp 16)], 0, false⟩,
          ⟨(some 13), none, .mv (.tmp 17), 0, false⟩,
          ⟨(some 18), none, .ext (.tmp 13) 0, 0, false⟩,
          ⟨(some 19), none, .ext (.tmp 13) 1, 0, false⟩,
          ⟨(some 7), none, .allocR [(.val (.int .i64 0)), (.val (.int .i64 0)), (.val (.int .i64 0)), (.val (.int .i64 0))], 0, false⟩,
          ⟨none, none, .st (some 7) 4 (.tmp 7) (.tmp 18), 0, false⟩,
          ⟨(some 8), none, .mv (.tmp 19), 0, false⟩])
        (.seq (.seq (.regN [1, 2, 5, 7, 8] [
          ⟨(some 20), none, .mv (.tmp 8), 0, false⟩,
          ⟨(some 21), none, .not (.tmp 20), 0, false⟩])
        (.cond (.tmp 21)
          (.seq (.regN [] [
            ⟨(some 4), none, .mv (.con .e0), 0, false⟩])
          .ret)
          .skip))
        (.seq (.regN [1, 2, 5, 7] [
          ⟨(some 22), none, .mv (.tmp 5), 0, false⟩,
          ⟨(some 23), none, .ldA (some 7) 4 (.tmp 7), 0, false⟩,
          ⟨(some 24), none, .buildS 1 [(.val (.int .i64 0)), (.val (.int .i64 0)), (.val (.int .i64 0)), (.val (.int .i64 0))] [(0, 4, (.tmp 23))], 0, false⟩,
          ⟨(some 25), none, .app 4 32 (.tmp 22) (.tmp 24), 0, false⟩,
          ⟨(some 5), none, .mv (.tmp 25), 0, false⟩])
        (.regN [1, 2, 5, 7] [
          ⟨(some 26), none, .fldA 2 (.tmp 7), 0, false⟩,
          ⟨(some 27), none, .ld1 (some 7) (.tmp 26), 0, false⟩,
          ⟨(some 6), none, .mv (.tmp 27), 0, false⟩]))))))
def t19B : AC := (.seq (.regN [0, 1] [
    ⟨(some 2), none, .boxR 2 (.tmp 0), 0, false⟩,
    ⟨(some 4), none, .mv (.con .e0), 0, false⟩])
  (.seq (.regN [1, 2] [
    ⟨(some 5), none, .mv (.con .e0), 0, false⟩])
  (.seq (.seq (.regN [1, 2, 5] [
    ⟨(some 6), none, .mv (.con (.val (.int .i64 0))), 0, false⟩])
  (.block 0
    (.loop [1, 2, 5, 6] t19L1)))
  (.seq (.regN [5] [
    ⟨(some 28), none, .mv (.tmp 5), 0, false⟩,
    ⟨(some 4), none, .mv (.tmp 28), 0, false⟩])
  .ret))))
def t19 : AFn := ⟨2, t19B,
  [.tmp 4], false⟩
/-- viewport/viewportlaw06.MunchLongest  -/
def t5L1 : AC := (.seq (.seq (.regN [1, 2, 3, 7, 9] [
        ⟨(some 92), none, .mv (.tmp 9), 0, false⟩,
        ⟨(some 93), none, .mv (.tmp 1), 0, false⟩,
        ⟨(some 94), none, .len true (.tmp 93), 0, false⟩,
        ⟨(some 95), none, .bini .leq (.tmp 92) (.tmp 94), 0, false⟩])
      (.cond (.tmp 95)
        .skip
        (.exit 0)))
      (.seq (.block 1
        (.seq (.regD [1, 2, 3, 7, 9] 0 [
          ⟨(some 98), none, .ldA (some 3) 2 (.tmp 3), 0, false⟩,
          ⟨(some 99), none, .mv (.tmp 1), 0, false⟩,
          ⟨(some 100), none, .mv (.tmp 2), 0, false⟩,
          ⟨(some 101), none, .mv (.tmp 9), 0, false⟩,
          ⟨(some 102), none, .slS (.tmp 99) (some (.tmp 100)) (some (.tmp 101)), 0, false⟩,
          ⟨(some 103), none, .call 20 [(.tmp 98), (.tmp 102)], 0, true⟩,
          ⟨(some 10), none, .mv (.tmp 103), 0, false⟩])
        (.seq (.regN [1, 2, 3, 7, 9, 10] [
          ⟨(some 104), none, .mv (.tmp 9), 0, false⟩,
          ⟨(some 105), none, .fldA 2 (.tmp 7), 0, false⟩,
          ⟨(some 106), none, .ld1 (some 7) (.tmp 105), 0, false⟩,
          ⟨(some 107), none, .bini .eql (.tmp 104) (.tmp 106), 0, false⟩,
          ⟨(some 108), none, .mv (.tmp 107), 0, false⟩,
          ⟨(some 109), (some (108, true)), .mv (.tmp 10), 0, false⟩,
          ⟨(some 110), (some (108, true)), .fldA 0 (.tmp 7), 0, false⟩,
          ⟨(some 111), (some (108, true)), .ld1 (some 7) (.tmp 110), 0, false⟩,
          ⟨(some 112), (some (108, true)), .bini .neq (.tmp 109) (.tmp 111), 0, false⟩,
          ⟨(some 113), none, .pick (.tmp 108) (.tmp 112) (.con (.val (.bool false))), 0, false⟩,
          ⟨(some 114), none, .mv (.tmp 113), 0, false⟩,
          ⟨(some 115), (some (114, false)), .mv (.tmp 9), 0, false⟩,
          ⟨(some 116), (some (114, false)), .fldA 2 (.tmp 7), 0, false⟩,
          ⟨(some 117), (some (114, false)), .ld1 (some 7) (.tmp 116), 0, false⟩,
          ⟨(some 118), (some (114, false)), .bini .gtr (.tmp 115) (.tmp 117), 0, false⟩,
          ⟨(some 119), (some (114, false)), .mv (.tmp 118), 0, false⟩,
          ⟨(some 120), (some (119, false)), .fldA 0 (.tmp 7), 0, false⟩,
          ⟨(some 121), (some (119, false)), .ld1 (some 7) (.tmp 120), 0, false⟩,
          ⟨(some 122), (some (119, false)), .bini .lss (.tmp 121) (.con (.val (.int .i64 0))), 0, false⟩,
          ⟨(some 123), (some (114, false)), .pick (.tmp 119) (.con (.val (.bool true))) (.tmp 122), 0, false⟩,
          ⟨(some 124), (some (114, false)), .mv (.tmp 123), 0, false⟩,
          ⟨(some 125), (some (124, true)), .mv (.tmp 10), 0, false⟩,
          ⟨(some 126), (some (124, true)), .bini .geq (.tmp 125) (.con (.val (.int .i64 0))), 0, false⟩,
          ⟨(some 127), (some (114, false)), .pick (.tmp 124) (.tmp 126) (.con (.val (.bool false))), 0, false⟩,
          ⟨(some 128), none, .pick (.tmp 114) (.con (.val (.bool true))) (.tmp 127), 0, false⟩])
        (.cond (.tmp 128)
          (.seq (.regN [] [
            ⟨(some 6), none, .mv (.con (.val (.bool false))), 0, false⟩])
          .ret)
          .skip))))
      (.regN [1, 2, 3, 7, 9] [
        ⟨(some 96), none, .mv (.tmp 9), 0, false⟩,
        ⟨(some 97), none, .bini .add (.tmp 96) (.con (.val (.int .i64 1))), 0, false⟩,
        ⟨(some 9), none, .mv (.tmp 97), 0, false⟩])))
def t5B : AC := (.seq (.regN [0, 1, 2] [
    ⟨(some 3), none, .boxR 2 (.tmp 0), 0, false⟩,
    ⟨(some 6), none, .mv (.con (.val (.bool false))), 0, false⟩])
  (.seq (.seq (.regN [1, 2, 3] [
    ⟨(some 11), none, .call 11 [], 0, false⟩,
    ⟨(some 12), none, .not (.tmp 11), 0, false⟩])
  (.cond (.tmp 12)
    (.seq (.regN [] [
      ⟨(some 6), none, .mv (.con (.val (.bool false))), 0, false⟩])
    .ret)
    .skip))
  (.seq (.seq (.regN [1, 2, 3] [
    ⟨(some 13), none, .ldA (some 3) 2 (.tmp 3), 0, false⟩,
    ⟨(some 14), none, .call 12 [(.tmp 13), (.con (.val (.int .i64 24)))], 0, false⟩,
    ⟨(some 15), none, .not (.tmp 14), 0, false⟩,
    ⟨(some 16), none, .mv (.tmp 15), 0, false⟩,
    ⟨(some 17), (some (16, false)), .mv (.tmp 1), 0, false⟩,
    ⟨(some 18), (some (16, false)), .len true (.tmp 17), 0, false⟩,
    ⟨(some 19), (some (16, false)), .bini .gtr (.tmp 18) (.con (.val (.int .i64 60))), 0, false⟩,
    ⟨(some 20), none, .pick (.tmp 16) (.con (.val (.bool true))) (.tmp 19), 0, false⟩,
    ⟨(some 21), none, .mv (.tmp 20), 0, false⟩,
    ⟨(some 22), (some (21, false)), .mv (.tmp 1), 0, false⟩,
    ⟨(some 23), (some (21, false)), .len true (.tmp 22), 0, false⟩,
    ⟨(some 24), (some (21, false)), .bini .eql (.tmp 23) (.con (.val (.int .i64 0))), 0, false⟩,
    ⟨(some 25), none, .pick (.tmp 21) (.con (.val (.bool true))) (.tmp 24), 0, false⟩,
    ⟨(some 26), none, .mv (.tmp 25), 0, false⟩,
    ⟨(some 27), (some (26, false)), .ldA (some 3) 2 (.tmp 3), 0, false⟩,
    ⟨(some 28), (some (26, false)), .call 13 [(.tmp 27)], 0, false⟩,
    ⟨(some 29), (some (26, false)), .bini .neq (.tmp 28) (.con (.val (.int .i64 0))), 0, false⟩,
    ⟨(some 30), none, .pick (.tmp 26) (.con (.val (.bool true))) (.tmp 29), 0, false⟩])
  (.cond (.tmp 30)
    (.seq (.regN [] [
      ⟨(some 6), none, .mv (.con (.val (.bool true))), 0, false⟩])
    .ret)
    .skip))
  (.seq (.regN [1, 2, 3] [
    ⟨(some 31), none, .mv (.tmp 2), 0, false⟩,
    ⟨(some 32), none, .mv (.tmp 1), 0, false⟩,
    ⟨(some 33), none, .len true (.tmp 32), 0, false⟩,
    ⟨(some 34), none, .call 15 [(.tmp 31), (.tmp 33)], 0, false⟩,
    ⟨(some 2), none, .mv (.tmp 34), 0, false⟩])
  (.seq (.regN [1, 2, 3] [
    ⟨(some 36), none, .ldA (some 3) 2 (.tmp 3), 0, false⟩,
    ⟨(some 37), none, .mv (.tmp 1), 0, false⟩,
    ⟨(some 38), none, .mv (.tmp 2), 0, false⟩,
    ⟨(some 39), none, .call 17 [(.tmp 36), (.tmp 37), (.tmp 38)], 0, false⟩,
    ⟨(some 35), none, .mv (.tmp 39), 0, false⟩,
    ⟨(some 40), none, .ext (.tmp 35) 0, 0, false⟩,
    ⟨(some 41), none, .ext (.tmp 35) 1, 0, false⟩,
    ⟨(some 7), none, .allocR [(.val (.int .i64 0)), (.val (.int .i64 0)), (.val (.int .i64 0)), (.val (.int .i64 0))], 0, false⟩,
    ⟨none, none, .st (some 7) 4 (.tmp 7) (.tmp 40), 0, false⟩,
    ⟨(some 8), none, .mv (.tmp 41), 0, false⟩])
  (.seq (.seq (.regN [1, 2, 3, 7, 8] [
    ⟨(some 42), none, .mv (.tmp 8), 0, false⟩,
    ⟨(some 43), none, .not (.tmp 42), 0, false⟩,
    ⟨(some 44), none, .mv (.tmp 43), 0, false⟩,
    ⟨(some 45), (some (44, false)), .fldA 1 (.tmp 7), 0, false⟩,
    ⟨(some 46), (some (44, false)), .ld1 (some 7) (.tmp 45), 0, false⟩,
    ⟨(some 47), (some (44, false)), .mv (.tmp 2), 0, false⟩,
    ⟨(some 48), (some (44, false)), .bini .neq (.tmp 46) (.tmp 47), 0, false⟩,
    ⟨(some 49), none, .pick (.tmp 44) (.con (.val (.bool true))) (.tmp 48), 0, false⟩,
    ⟨(some 50), none, .mv (.tmp 49), 0, false⟩,
    ⟨(some 51), (some (50, false)), .fldA 2 (.tmp 7), 0, false⟩,
    ⟨(some 52), (some (50, false)), .ld1 (some 7) (.tmp 51), 0, false⟩,
    ⟨(some 53), (some (50, false)), .mv (.tmp 2), 0, false⟩,
    ⟨(some 54), (some (50, false)), .bini .leq (.tmp 52) (.tmp 53), 0, false⟩,
    ⟨(some 55), none, .pick (.tmp 50) (.con (.val (.bool true))) (.tmp 54), 0, false⟩,
    ⟨(some 56), none, .mv (.tmp 55), 0, false⟩,
    ⟨(some 57), (some (56, false)), .fldA 2 (.tmp 7), 0, false⟩,
    ⟨(some 58), (some (56, false)), .ld1 (some 7) (.tmp 57), 0, false⟩,
    ⟨(some 59), (some (56, false)), .mv (.tmp 1), 0, false⟩,
    ⟨(some 60), (some (56, false)), .len true (.tmp 59), 0, false⟩,
    ⟨(some 61), (some (56, false)), .bini .gtr (.tmp 58) (.tmp 60), 0, false⟩,
    ⟨(some 62), none, .pick (.tmp 56) (.con (.val (.bool true))) (.tmp 61), 0, false⟩,
    ⟨(some 63), none, .mv (.tmp 62), 0, false⟩,
    ⟨(some 64), (some (63, false)), .fldA 3 (.tmp 7), 0, false⟩,
    ⟨(some 65), (some (63, false)), .ld1 (some 7) (.tmp 64), 0, false⟩,
    ⟨(some 66), (some (63, false)), .fldA 2 (.tmp 7), 0, false⟩,
    ⟨(some 67), (some (63, false)), .ld1 (some 7) (.tmp 66), 0, false⟩,
    ⟨(some 68), (some (63, false)), .bini .lss (.tmp 65) (.tmp 67), 0, false⟩,
    ⟨(some 69), none, .pick (.tmp 63) (.con (.val (.bool true))) (.tmp 68), 0, false⟩,
    ⟨(some 70), none, .mv (.tmp 69), 0, false⟩,
    ⟨(some 71), (some (70, false)), .fldA 3 (.tmp 7), 0, false⟩,
    ⟨(some 72), (some (70, false)), .ld1 (some 7) (.tmp 71), 0, false⟩,
    ⟨(some 73), (some (70, false)), .mv (.tmp 1), 0, false⟩,
    ⟨(some 74), (some (70, false)), .len true (.tmp 73), 0, false⟩,
    ⟨(some 75), (some (70, false)), .bini .add (.tmp 74) (.con (.val (.int .i64 1))), 0, false⟩,
    ⟨(some 76), (some (70, false)), .bini .gtr (.tmp 72) (.tmp 75), 0, false⟩,
    ⟨(some 77), none, .pick (.tmp 70) (.con (.val (.bool true))) (.tmp 76), 0, false⟩,
    ⟨(some 78), none, .mv (.tmp 77), 0, false⟩,
    ⟨(some 79), (some (78, false)), .fldA 0 (.tmp 7), 0, false⟩,
    ⟨(some 80), (some (78, false)), .ld1 (some 7) (.tmp 79), 0, false⟩,
    ⟨(some 81), (some (78, false)), .bini .lss (.tmp 80) (.con (.val (.int .i64 0))), 0, false⟩,
    ⟨(some 82), (some (78, false)), .mv (.tmp 81), 0, false⟩,
    ⟨(some 83), (some (82, true)), .fldA 2 (.tmp 7), 0, false⟩,
    ⟨(some 84), (some (82, true)), .ld1 (some 7) (.tmp 83), 0, false⟩,
    ⟨(some 85), (some (82, true)), .mv (.tmp 2), 0, false⟩,
    ⟨(some 86), (some (82, true)), .bini .add (.tmp 85) (.con (.val (.int .i64 1))), 0, false⟩,
    ⟨(some 87), (some (82, true)), .bini .neq (.tmp 84) (.tmp 86), 0, false⟩,
    ⟨(some 88), (some (78, false)), .pick (.tmp 82) (.tmp 87) (.con (.val (.bool false))), 0, false⟩,
    ⟨(some 89), none, .pick (.tmp 78) (.con (.val (.bool true))) (.tmp 88), 0, false⟩])
  (.cond (.tmp 89)
    (.seq (.regN [] [
      ⟨(some 6), none, .mv (.con (.val (.bool false))), 0, false⟩])
    .ret)
    .skip))
  (.seq (.seq (.regN [1, 2, 3, 7] [
    ⟨(some 90), none, .mv (.tmp 2), 0, false⟩,
    ⟨(some 91), none, .bini .add (.tmp 90) (.con (.val (.int .i64 1))), 0, false⟩,
    ⟨(some 9), none, .mv (.tmp 91), 0, false⟩])
  (.block 0
    (.loop [1, 2, 3, 7, 9] t5L1)))
  (.seq (.regN [] [
    ⟨(some 6), none, .mv (.con (.val (.bool true))), 0, false⟩])
  .ret))))))))
def t5 : AFn := ⟨3, t5B,
  [.tmp 6], true⟩
/-- viewport/viewportref04.Run  -/
def t20L1 : AC := (.seq (.seq (.regN [1, 2, 5, 6] [
        ⟨(some 10), none, .mv (.tmp 6), 0, false⟩,
        ⟨(some 11), none, .mv (.tmp 1), 0, false⟩,
        ⟨(some 12), none, .len true (.tmp 11), 0, false⟩,
        ⟨(some 13), none, .bini .lss (.tmp 10) (.tmp 12), 0, false⟩,
        ⟨(some 14), none, .mv (.tmp 13), 0, false⟩,
        ⟨(some 15), (some (14, true)), .mv (.tmp 5), 0, false⟩,
        ⟨(some 16), (some (14, true)), .bini .geq (.tmp 15) (.con (.val (.int .i64 0))), 0, false⟩,
        ⟨(some 17), none, .pick (.tmp 14) (.tmp 16) (.con (.val (.bool false))), 0, false⟩])
      (.cond (.tmp 17)
        .skip
        (.exit 0)))
      (.seq (.block 1
        (.regD [1, 2, 5, 6] 0 [
          ⟨(some 20), none, .fldA 0 (.tmp 2), 0, false⟩,
          ⟨(some 21), none, .ld1 (some 2) (.tmp 20), 0, false⟩,
          ⟨(some 22), none, .mv (.tmp 5), 0, false⟩,
          ⟨(some 23), none, .bini .mul (.con (.val (.int .i64 256))) (.tmp 22), 0, false⟩,
          ⟨(some 24), none, .mv (.tmp 1), 0, false⟩,
          ⟨(some 25), none, .mv (.tmp 6), 0, false⟩,
          ⟨(some 26), none, .ixS (.tmp 24) (.tmp 25), 0, false⟩,
          ⟨(some 27), none, .cvi .i64 (.tmp 26), 0, false⟩,
          ⟨(some 28), none, .bini .add (.tmp 23) (.tmp 27), 0, false⟩,
          ⟨(some 29), none, .ixA 1 (.tmp 21) (.tmp 28), 0, false⟩,
          ⟨(some 30), none, .ld1 none (.tmp 29), 0, false⟩,
          ⟨(some 5), none, .mv (.tmp 30), 0, false⟩]))
      (.regN [1, 2, 5, 6] [
        ⟨(some 18), none, .mv (.tmp 6), 0, false⟩,
        ⟨(some 19), none, .bini .add (.tmp 18) (.con (.val (.int .i64 1))), 0, false⟩,
        ⟨(some 6), none, .mv (.tmp 19), 0, false⟩])))
def t20B : AC := (.seq (.regN [0, 1] [
    ⟨(some 2), none, .boxR 2 (.tmp 0), 0, false⟩,
    ⟨(some 4), none, .mv (.con (.val (.int .i64 0))), 0, false⟩])
  (.seq (.seq (.regN [1, 2] [
    ⟨(some 7), none, .ldA (some 2) 2 (.tmp 2), 0, false⟩,
    ⟨(some 8), none, .call 13 [(.tmp 7)], 0, false⟩,
    ⟨(some 9), none, .bini .neq (.tmp 8) (.con (.val (.int .i64 0))), 0, false⟩])
  (.cond (.tmp 9)
    (.seq (.regN [] [
      ⟨(some 4), none, .mv (.con (.val (.int .i64 (-1)))), 0, false⟩])
    .ret)
    .skip))
  (.seq (.regN [1, 2] [
    ⟨(some 5), none, .mv (.con (.val (.int .i64 0))), 0, false⟩])
  (.seq (.seq (.regN [1, 2, 5] [
    ⟨(some 6), none, .mv (.con (.val (.int .i64 0))), 0, false⟩])
  (.block 0
    (.loop [1, 2, 5, 6] t20L1)))
  (.seq (.seq (.regN [2, 5] [
    ⟨(some 31), none, .mv (.tmp 5), 0, false⟩,
    ⟨(some 32), none, .bini .lss (.tmp 31) (.con (.val (.int .i64 0))), 0, false⟩])
  (.cond (.tmp 32)
    (.seq (.regN [] [
      ⟨(some 4), none, .mv (.con (.val (.int .i64 (-1)))), 0, false⟩])
    .ret)
    .skip))
  (.seq (.regN [2, 5] [
    ⟨(some 33), none, .fldA 1 (.tmp 2), 0, false⟩,
    ⟨(some 34), none, .ld1 (some 2) (.tmp 33), 0, false⟩,
    ⟨(some 35), none, .mv (.tmp 5), 0, false⟩,
    ⟨(some 36), none, .ixA 1 (.tmp 34) (.tmp 35), 0, false⟩,
    ⟨(some 37), none, .ld1 none (.tmp 36), 0, false⟩,
    ⟨(some 4), none, .mv (.tmp 37), 0, false⟩])
  .ret))))))
def t20 : AFn := ⟨2, t20B,
  [.tmp 4], true⟩
/-- viewport/viewportlaw06.MunchParts  -/
def t6L1 : AC := (.seq (.seq (.regN [1, 2, 3, 4, 9, 10, 11] [
        ⟨(some 44), none, .mv (.tmp 11), 0, false⟩,
        ⟨(some 45), none, .mv (.tmp 9), 0, false⟩,
        ⟨(some 46), none, .len false (.tmp 45), 0, false⟩,
        ⟨(some 47), none, .bini .lss (.tmp 44) (.tmp 46), 0, false⟩])
      (.cond (.tmp 47)
        .skip
        (.exit 0)))
      (.seq (.block 1
        (.seq (.seq (.regN [1, 2, 3, 4, 9, 10, 11] [
          ⟨(some 50), none, .mv (.tmp 9), 0, false⟩,
          ⟨(some 51), none, .mv (.tmp 11), 0, false⟩,
          ⟨(some 52), none, .ixA 4 (.tmp 50) (.tmp 51), 0, false⟩,
          ⟨(some 53), none, .fldA 1 (.tmp 52), 0, false⟩,
          ⟨(some 54), none, .ld1 none (.tmp 53), 0, false⟩,
          ⟨(some 55), none, .mv (.tmp 10), 0, false⟩,
          ⟨(some 56), none, .bini .neq (.tmp 54) (.tmp 55), 0, false⟩,
          ⟨(some 57), none, .mv (.tmp 56), 0, false⟩,
          ⟨(some 58), (some (57, false)), .mv (.tmp 9), 0, false⟩,
          ⟨(some 59), (some (57, false)), .mv (.tmp 11), 0, false⟩,
          ⟨(some 60), (some (57, false)), .ixA 4 (.tmp 58) (.tmp 59), 0, false⟩,
          ⟨(some 61), (some (57, false)), .fldA 2 (.tmp 60), 0, false⟩,
          ⟨(some 62), (some (57, false)), .ld1 none (.tmp 61), 0, false⟩,
          ⟨(some 63), (some (57, false)), .mv (.tmp 10), 0, false⟩,
          ⟨(some 64), (some (57, false)), .bini .leq (.tmp 62) (.tmp 63), 0, false⟩,
          ⟨(some 65), none, .pick (.tmp 57) (.con (.val (.bool true))) (.tmp 64), 0, false⟩,
          ⟨(some 66), none, .mv (.tmp 65), 0, false⟩,
          ⟨(some 67), (some (66, false)), .mv (.tmp 9), 0, false⟩,
          ⟨(some 68), (some (66, false)), .mv (.tmp 11), 0, false⟩,
          ⟨(some 69), (some (66, false)), .ixA 4 (.tmp 67) (.tmp 68), 0, false⟩,
          ⟨(some 70), (some (66, false)), .fldA 3 (.tmp 69), 0, false⟩,
          ⟨(some 71), (some (66, false)), .ld1 none (.tmp 70), 0, false⟩,
          ⟨(some 72), (some (66, false)), .bini .lss (.tmp 71) (.con (.val (.int .i64 0))), 0, false⟩,
          ⟨(some 73), none, .pick (.tmp 66) (.con (.val (.bool true))) (.tmp 72), 0, false⟩])
        (.cond (.tmp 73)
          (.seq (.regN [] [
            ⟨(some 8), none, .mv (.con (.val (.bool false))), 0, false⟩])
          .ret)
          .skip))
        (.seq (.regN [1, 2, 3, 4, 9, 11] [
          ⟨(some 74), none, .mv (.tmp 9), 0, false⟩,
          ⟨(some 75), none, .mv (.tmp 11), 0, false⟩,
          ⟨(some 76), none, .ixA 4 (.tmp 74) (.tmp 75), 0, false⟩,
          ⟨(some 77), none, .fldA 2 (.tmp 76), 0, false⟩,
          ⟨(some 78), none, .ld1 none (.tmp 77), 0, false⟩,
          ⟨(some 10), none, .mv (.tmp 78), 0, false⟩])
        (.seq (.regD [1, 2, 3, 4, 9, 10, 11] 0 [
          ⟨(some 80), none, .ldA (some 4) 2 (.tmp 4), 0, false⟩,
          ⟨(some 81), none, .mv (.tmp 3), 0, false⟩,
          ⟨(some 82), none, .mv (.tmp 1), 0, false⟩,
          ⟨(some 83), none, .bins .add (.tmp 81) (.tmp 82), 0, false⟩,
          ⟨(some 84), none, .mv (.tmp 3), 0, false⟩,
          ⟨(some 85), none, .len true (.tmp 84), 0, false⟩,
          ⟨(some 86), none, .mv (.tmp 9), 0, false⟩,
          ⟨(some 87), none, .mv (.tmp 11), 0, false⟩,
          ⟨(some 88), none, .ixA 4 (.tmp 86) (.tmp 87), 0, false⟩,
          ⟨(some 89), none, .fldA 1 (.tmp 88), 0, false⟩,
          ⟨(some 90), none, .ld1 none (.tmp 89), 0, false⟩,
          ⟨(some 91), none, .bini .add (.tmp 85) (.tmp 90), 0, false⟩,
          ⟨(some 92), none, .call 17 [(.tmp 80), (.tmp 83), (.tmp 91)], 0, true⟩,
          ⟨(some 79), none, .mv (.tmp 92), 0, false⟩,
          ⟨(some 93), none, .ext (.tmp 79) 0, 0, false⟩,
          ⟨(some 94), none, .ext (.tmp 79) 1, 0, false⟩,
          ⟨(some 12), none, .allocR [(.val (.int .i64 0)), (.val (.int .i64 0)), (.val (.int .i64 0)), (.val (.int .i64 0))], 0, false⟩,
          ⟨none, none, .st (some 12) 4 (.tmp 12) (.tmp 93), 0, false⟩,
          ⟨(some 13), none, .mv (.tmp 94), 0, false⟩])
        (.seq (.regN [1, 2, 3, 4, 9, 10, 11, 12, 13] [
          ⟨(some 95), none, .fldA 1 (.tmp 12), 0, false⟩,
          ⟨(some 96), none, .ld1 (some 12) (.tmp 95), 0, false⟩,
          ⟨(some 97), none, .mv (.tmp 3), 0, false⟩,
          ⟨(some 98), none, .len true (.tmp 97), 0, false⟩,
          ⟨(some 99), none, .bini .sub (.tmp 96) (.tmp 98), 0, false⟩,
          ⟨(some 100), none, .fldA 2 (.tmp 12), 0, false⟩,
          ⟨(some 101), none, .ld1 (some 12) (.tmp 100), 0, false⟩,
          ⟨(some 102), none, .mv (.tmp 3), 0, false⟩,
          ⟨(some 103), none, .len true (.tmp 102), 0, false⟩,
          ⟨(some 104), none, .bini .sub (.tmp 101) (.tmp 103), 0, false⟩,
          ⟨(some 105), none, .fldA 3 (.tmp 12), 0, false⟩,
          ⟨(some 106), none, .ld1 (some 12) (.tmp 105), 0, false⟩,
          ⟨(some 107), none, .mv (.tmp 3), 0, false⟩,
          ⟨(some 108), none, .len true (.tmp 107), 0, false⟩,
          ⟨(some 109), none, .bini .sub (.tmp 106) (.tmp 108), 0, false⟩,
          ⟨(some 110), none, .fldA 1 (.tmp 12), 0, false⟩,
          ⟨none, none, .st (some 12) 1 (.tmp 110) (.tmp 99), 0, false⟩,
          ⟨(some 111), none, .fldA 2 (.tmp 12), 0, false⟩,
          ⟨none, none, .st (some 12) 1 (.tmp 111) (.tmp 104), 0, false⟩,
          ⟨(some 112), none, .fldA 3 (.tmp 12), 0, false⟩,
          ⟨none, none, .st (some 12) 1 (.tmp 112) (.tmp 109), 0, false⟩])
        (.seq (.seq (.regD [1, 2, 3, 4, 9, 10, 11, 12, 13] 0 [
          ⟨(some 113), none, .mv (.tmp 13), 0, false⟩,
          ⟨(some 114), none, .not (.tmp 113), 0, false⟩,
          ⟨(some 115), none, .mv (.tmp 114), 0, false⟩,
          ⟨(some 116), (some (115, false)), .ldA (some 12) 4 (.tmp 12), 0, false⟩,
          ⟨(some 117), (some (115, false)), .mv (.tmp 9), 0, false⟩,
          ⟨(some 118), (some (115, false)), .mv (.tmp 11), 0, false⟩,
          ⟨(some 119), (some (115, false)), .ixA 4 (.tmp 117) (.tmp 118), 0, false⟩,
          ⟨(some 120), (some (115, false)), .ldA none 4 (.tmp 119), 0, false⟩,
          ⟨(some 121), (some (115, false)), .eqa true [1, 1, 1, 1] (.tmp 116) (.tmp 120), 0, false⟩,
          ⟨(some 122), none, .pick (.tmp 115) (.con (.val (.bool true))) (.tmp 121), 0, false⟩])
        (.cond (.tmp 122)
          (.seq (.regN [] [
            ⟨(some 8), none, .mv (.con (.val (.bool false))), 0, false⟩])
          .ret)
          .skip))
        (.seq (.regN [1, 2, 3, 4, 9, 10, 11] [
          ⟨(some 123), none, .mv (.tmp 9), 0, false⟩,
          ⟨(some 124), none, .mv (.tmp 11), 0, false⟩,
          ⟨(some 125), none, .ixA 4 (.tmp 123) (.tmp 124), 0, false⟩,
          ⟨(some 126), none, .fldA 3 (.tmp 125), 0, false⟩,
          ⟨(some 127), none, .ld1 none (.tmp 126), 0, false⟩,
          ⟨(some 128), none, .mv (.tmp 1), 0, false⟩,
          ⟨(some 129), none, .len true (.tmp 128), 0, false⟩,
          ⟨(some 130), none, .bini .leq (.tmp 127) (.tmp 129), 0, false⟩])
        (.cond (.tmp 130)
          (.seq (.regD [1, 2, 3, 4, 9, 10, 11] 0 [
            ⟨(some 132), none, .ldA (some 4) 2 (.tmp 4), 0, false⟩,
            ⟨(some 133), none, .mv (.tmp 1), 0, false⟩,
            ⟨(some 134), none, .mv (.tmp 9), 0, false⟩,
            ⟨(some 135), none, .mv (.tmp 11), 0, false⟩,
            ⟨(some 136), none, .ixA 4 (.tmp 134) (.tmp 135), 0, false⟩,
            ⟨(some 137), none, .fldA 3 (.tmp 136), 0, false⟩,
            ⟨(some 138), none, .ld1 none (.tmp 137), 0, false⟩,
            ⟨(some 139), none, .slS (.tmp 133) none (some (.tmp 138)), 0, false⟩,
            ⟨(some 140), none, .mv (.tmp 2), 0, false⟩,
            ⟨(some 141), none, .bins .add (.tmp 139) (.tmp 140), 0, false⟩,
            ⟨(some 142), none, .mv (.tmp 9), 0, false⟩,
            ⟨(some 143), none, .mv (.tmp 11), 0, false⟩,
            ⟨(some 144), none, .ixA 4 (.tmp 142) (.tmp 143), 0, false⟩,
            ⟨(some 145), none, .fldA 1 (.tmp 144), 0, false⟩,
            ⟨(some 146), none, .ld1 none (.tmp 145), 0, false⟩,
            ⟨(some 147), none, .call 17 [(.tmp 132), (.tmp 141), (.tmp 146)], 0, true⟩,
            ⟨(some 131), none, .mv (.tmp 147), 0, false⟩,
            ⟨(some 148), none, .ext (.tmp 131) 0, 0, false⟩,
            ⟨(some 149), none, .ext (.tmp 131) 1, 0, false⟩,
            ⟨(some 14), none, .allocR [(.val (.int .i64 0)), (.val (.int .i64 0)), (.val (.int .i64 0)), (.val (.int .i64 0))], 0, false⟩,
            ⟨none, none, .st (some 14) 4 (.tmp 14) (.tmp 148), 0, false⟩,
            ⟨(some 15), none, .mv (.tmp 149), 0, false⟩])
          (.seq (.regD [1, 2, 3, 4, 9, 10, 11, 14, 15] 0 [
            ⟨(some 150), none, .mv (.tmp 15), 0, false⟩,
            ⟨(some 151), none, .not (.tmp 150), 0, false⟩,
            ⟨(some 152), none, .mv (.tmp 151), 0, false⟩,
            ⟨(some 153), (some (152, false)), .ldA (some 14) 4 (.tmp 14), 0, false⟩,
            ⟨(some 154), (some (152, false)), .mv (.tmp 9), 0, false⟩,
            ⟨(some 155), (some (152, false)), .mv (.tmp 11), 0, false⟩,
            ⟨(some 156), (some (152, false)), .ixA 4 (.tmp 154) (.tmp 155), 0, false⟩,
            ⟨(some 157), (some (152, false)), .ldA none 4 (.tmp 156), 0, false⟩,
            ⟨(some 158), (some (152, false)), .eqa true [1, 1, 1, 1] (.tmp 153) (.tmp 157), 0, false⟩,
            ⟨(some 159), none, .pick (.tmp 152) (.con (.val (.bool true))) (.tmp 158), 0, false⟩])
          (.cond (.tmp 159)
            (.seq (.regN [] [
              ⟨(some 8), none, .mv (.con (.val (.bool false))), 0, false⟩])
            .ret)
            .skip)))
          .skip))))))))
      (.regN [1, 2, 3, 4, 9, 10, 11] [
        ⟨(some 48), none, .mv (.tmp 11), 0, false⟩,
        ⟨(some 49), none, .bini .add (.tmp 48) (.con (.val (.int .i64 1))), 0, false⟩,
        ⟨(some 11), none, .mv (.tmp 49), 0, false⟩])))
def t6B : AC := (.seq (.regN [0, 1, 2, 3] [
    ⟨(some 4), none, .boxR 2 (.tmp 0), 0, false⟩,
    ⟨(some 8), none, .mv (.con (.val (.bool false))), 0, false⟩])
  (.seq (.seq (.regN [1, 2, 3, 4] [
    ⟨(some 16), none, .call 11 [], 0, false⟩,
    ⟨(some 17), none, .not (.tmp 16), 0, false⟩])
  (.cond (.tmp 17)
    (.seq (.regN [] [
      ⟨(some 8), none, .mv (.con (.val (.bool false))), 0, false⟩])
    .ret)
    .skip))
  (.seq (.seq (.regN [1, 2, 3, 4] [
    ⟨(some 18), none, .ldA (some 4) 2 (.tmp 4), 0, false⟩,
    ⟨(some 19), none, .call 12 [(.tmp 18), (.con (.val (.int .i64 24)))], 0, false⟩,
    ⟨(some 20), none, .not (.tmp 19), 0, false⟩,
    ⟨(some 21), none, .mv (.tmp 20), 0, false⟩,
    ⟨(some 22), (some (21, false)), .mv (.tmp 1), 0, false⟩,
    ⟨(some 23), (some (21, false)), .len true (.tmp 22), 0, false⟩,
    ⟨(some 24), (some (21, false)), .bini .gtr (.tmp 23) (.con (.val (.int .i64 60))), 0, false⟩,
    ⟨(some 25), none, .pick (.tmp 21) (.con (.val (.bool true))) (.tmp 24), 0, false⟩,
    ⟨(some 26), none, .mv (.tmp 25), 0, false⟩,
    ⟨(some 27), (some (26, false)), .mv (.tmp 2), 0, false⟩,
    ⟨(some 28), (some (26, false)), .len true (.tmp 27), 0, false⟩,
    ⟨(some 29), (some (26, false)), .bini .gtr (.tmp 28) (.con (.val (.int .i64 60))), 0, false⟩,
    ⟨(some 30), none, .pick (.tmp 26) (.con (.val (.bool true))) (.tmp 29), 0, false⟩,
    ⟨(some 31), none, .mv (.tmp 30), 0, false⟩,
    ⟨(some 32), (some (31, false)), .mv (.tmp 3), 0, false⟩,
    ⟨(some 33), (some (31, false)), .len true (.tmp 32), 0, false⟩,
    ⟨(some 34), (some (31, false)), .bini .gtr (.tmp 33) (.con (.val (.int .i64 60))), 0, false⟩,
    ⟨(some 35), none, .pick (.tmp 31) (.con (.val (.bool true))) (.tmp 34), 0, false⟩,
    ⟨(some 36), none, .mv (.tmp 35), 0, false⟩,
    ⟨(some 37), (some (36, false)), .ldA (some 4) 2 (.tmp 4), 0, false⟩,
    ⟨(some 38), (some (36, false)), .call 13 [(.tmp 37)], 0, false⟩,
    ⟨(some 39), (some (36, false)), .bini .neq (.tmp 38) (.con (.val (.int .i64 0))), 0, false⟩,
    ⟨(some 40), none, .pick (.tmp 36) (.con (.val (.bool true))) (.tmp 39), 0, false⟩])
  (.cond (.tmp 40)
    (.seq (.regN [] [
      ⟨(some 8), none, .mv (.con (.val (.bool true))), 0, false⟩])
    .ret)
    .skip))
  (.seq (.regN [1, 2, 3, 4] [
    ⟨(some 41), none, .ldA (some 4) 2 (.tmp 4), 0, false⟩,
    ⟨(some 42), none, .mv (.tmp 1), 0, false⟩,
    ⟨(some 43), none, .call 14 [(.tmp 41), (.tmp 42)], 0, false⟩,
    ⟨(some 9), none, .mv (.tmp 43), 0, false⟩])
  (.seq (.regN [1, 2, 3, 4, 9] [
    ⟨(some 10), none, .mv (.con (.val (.int .i64 0))), 0, false⟩])
  (.seq (.seq (.regN [1, 2, 3, 4, 9, 10] [
    ⟨(some 11), none, .mv (.con (.val (.int .i64 0))), 0, false⟩])
  (.block 0
    (.loop [1, 2, 3, 4, 9, 10, 11] t6L1)))
  (.seq (.regN [1, 10] [
    ⟨(some 160), none, .mv (.tmp 10), 0, false⟩,
    ⟨(some 161), none, .mv (.tmp 1), 0, false⟩,
    ⟨(some 162), none, .len true (.tmp 161), 0, false⟩,
    ⟨(some 163), none, .bini .eql (.tmp 160) (.tmp 162), 0, false⟩,
    ⟨(some 8), none, .mv (.tmp 163), 0, false⟩])
  .ret)))))))
def t6 : AFn := ⟨4, t6B,
  [.tmp 8], true⟩
/-- viewport/viewportlaw06.MunchNames  -/
def t7B : AC := (.seq (.regN [] [
    ⟨(some 0), none, .mv (.con (.val (.bool false))), 0, false⟩])
  (.seq (.seq (.regN [] [
    ⟨(some 28), none, .call 11 [], 0, false⟩,
    ⟨(some 29), none, .not (.tmp 28), 0, false⟩])
  (.cond (.tmp 29)
    (.seq (.regN [] [
      ⟨(some 0), none, .mv (.con (.val (.bool false))), 0, false⟩])
    .ret)
    .skip))
  (.seq (.regN [] [
    ⟨(some 30), none, .buildS 1 [(.val (.string ⟨#[]⟩))] [(0, 1, (.con (.val (.string ⟨#[97, 40, 98, 99, 41, 42]⟩))))], 0, false⟩,
    ⟨(some 31), none, .call 21 [(.tmp 30)], 0, false⟩,
    ⟨(some 1), none, .allocR [.e0, .e0], 0, false⟩,
    ⟨none, none, .st (some 1) 2 (.tmp 1) (.tmp 31), 0, false⟩])
  (.seq (.regN [1] [
    ⟨(some 33), none, .ldA (some 1) 2 (.tmp 1), 0, false⟩,
    ⟨(some 34), none, .call 17 [(.tmp 33), (.con (.val (.string ⟨#[97, 98, 99, 98, 100]⟩))), (.con (.val (.int .i64 0)))], 0, false⟩,
    ⟨(some 32), none, .mv (.tmp 34), 0, false⟩,
    ⟨(some 35), none, .ext (.tmp 32) 0, 0, false⟩,
    ⟨(some 36), none, .ext (.tmp 32) 1, 0, false⟩,
    ⟨(some 2), none, .allocR [(.val (.int .i64 0)), (.val (.int .i64 0)), (.val (.int .i64 0)), (.val (.int .i64 0))], 0, false⟩,
    ⟨none, none, .st (some 2) 4 (.tmp 2) (.tmp 35), 0, false⟩,
    ⟨(some 3), none, .mv (.tmp 36), 0, false⟩])
  (.seq (.regN [1, 2, 3] [
    ⟨(some 38), none, .ldA (some 1) 2 (.tmp 1), 0, false⟩,
    ⟨(some 39), none, .call 17 [(.tmp 38), (.con (.val (.string ⟨#[97]⟩))), (.con (.val (.int .i64 1)))], 0, false⟩,
    ⟨(some 37), none, .mv (.tmp 39), 0, false⟩,
    ⟨(some 40), none, .ext (.tmp 37) 0, 0, false⟩,
    ⟨(some 41), none, .ext (.tmp 37) 1, 0, false⟩,
    ⟨(some 4), none, .allocR [(.val (.int .i64 0)), (.val (.int .i64 0)), (.val (.int .i64 0)), (.val (.int .i64 0))], 0, false⟩,
    ⟨none, none, .st (some 4) 4 (.tmp 4) (.tmp 40), 0, false⟩,
    ⟨(some 5), none, .mv (.tmp 41), 0, false⟩])
  (.seq (.regN [1, 2, 3, 5] [
    ⟨(some 43), none, .build [.e0, .e0] [], 0, false⟩,
    ⟨(some 44), none, .call 17 [(.tmp 43), (.con (.val (.string ⟨#[97]⟩))), (.con (.val (.int .i64 0)))], 0, false⟩,
    ⟨(some 42), none, .mv (.tmp 44), 0, false⟩,
    ⟨(some 45), none, .ext (.tmp 42) 0, 0, false⟩,
    ⟨(some 46), none, .ext (.tmp 42) 1, 0, false⟩,
    ⟨(some 6), none, .allocR [(.val (.int .i64 0)), (.val (.int .i64 0)), (.val (.int .i64 0)), (.val (.int .i64 0))], 0, false⟩,
    ⟨none, none, .st (some 6) 4 (.tmp 6) (.tmp 45), 0, false⟩,
    ⟨(some 7), none, .mv (.tmp 46), 0, false⟩])
  (.seq (.regN [1, 2, 3, 5, 7] [
    ⟨(some 48), none, .ldA (some 1) 2 (.tmp 1), 0, false⟩,
    ⟨(some 49), none, .call 22 [(.tmp 48)], 0, false⟩,
    ⟨(some 47), none, .mv (.tmp 49), 0, false⟩,
    ⟨(some 50), none, .ext (.tmp 47) 0, 0, false⟩,
    ⟨(some 51), none, .ext (.tmp 47) 1, 0, false⟩,
    ⟨(some 8), none, .mv (.tmp 50), 0, false⟩,
    ⟨(some 9), none, .mv (.tmp 51), 0, false⟩])
  (.seq (.regN [1, 2, 3, 5, 7, 8, 9] [
    ⟨(some 53), none, .build [.e0, .e0] [], 0, false⟩,
    ⟨(some 54), none, .call 22 [(.tmp 53)], 0, false⟩,
    ⟨(some 52), none, .mv (.tmp 54), 0, false⟩,
    ⟨(some 55), none, .ext (.tmp 52) 0, 0, false⟩,
    ⟨(some 56), none, .ext (.tmp 52) 1, 0, false⟩,
    ⟨(some 10), none, .mv (.tmp 55), 0, false⟩,
    ⟨(some 11), none, .mv (.tmp 56), 0, false⟩])
  (.seq (.seq (.regN [1, 2, 3, 5, 7, 8, 9, 11] [
    ⟨(some 57), none, .mv (.tmp 8), 0, false⟩,
    ⟨(some 58), none, .eqp false (.tmp 57) (.con (.val (.pointer none))), 0, false⟩])
  (.cond (.tmp 58)
    (.seq (.regN [] [
      ⟨(some 0), none, .mv (.con (.val (.bool false))), 0, false⟩])
    .ret)
    .skip))
  (.seq (.regN [1, 2, 3, 5, 7, 8, 9, 11] [
    ⟨(some 60), none, .mv (.tmp 8), 0, false⟩,
    ⟨(some 61), none, .call 23 [(.tmp 60), (.con (.val (.string ⟨#[97, 98]⟩)))], 0, false⟩,
    ⟨(some 59), none, .mv (.tmp 61), 0, false⟩,
    ⟨(some 62), none, .ext (.tmp 59) 0, 0, false⟩,
    ⟨(some 63), none, .ext (.tmp 59) 1, 0, false⟩,
    ⟨(some 12), none, .mv (.tmp 62), 0, false⟩,
    ⟨(some 13), none, .mv (.tmp 63), 0, false⟩])
  (.seq (.regN [1, 2, 3, 5, 7, 8, 9, 11, 13] [
    ⟨(some 64), none, .mv (.tmp 8), 0, false⟩,
    ⟨(some 65), none, .call 24 [(.tmp 64), (.con (.val (.int .i64 (-1))))], 0, false⟩,
    ⟨(some 14), none, .mv (.tmp 65), 0, false⟩])
  (.seq (.regN [1, 2, 3, 5, 7, 8, 9, 11, 13, 14] [
    ⟨(some 66), none, .mv (.tmp 8), 0, false⟩,
    ⟨(some 67), none, .call 24 [(.tmp 66), (.con (.val (.int .i64 0)))], 0, false⟩,
    ⟨(some 15), none, .mv (.tmp 67), 0, false⟩])
  (.seq (.regN [1, 2, 3, 5, 7, 8, 9, 11, 13, 14, 15] [
    ⟨(some 69), none, .mv (.tmp 8), 0, false⟩,
    ⟨(some 70), none, .call 23 [(.tmp 69), (.con (.val (.string ⟨#[97, 98]⟩)))], 0, false⟩,
    ⟨(some 68), none, .mv (.tmp 70), 0, false⟩,
    ⟨(some 71), none, .ext (.tmp 68) 0, 0, false⟩,
    ⟨(some 72), none, .ext (.tmp 68) 1, 0, false⟩,
    ⟨(some 16), none, .mv (.tmp 71), 0, false⟩,
    ⟨(some 17), none, .mv (.tmp 72), 0, false⟩])
  (.seq (.regN [1, 2, 3, 5, 7, 8, 9, 11, 13, 14, 15, 16, 17] [
    ⟨(some 74), none, .mv (.tmp 8), 0, false⟩,
    ⟨(some 75), none, .call 25 [(.tmp 74)], 0, false⟩,
    ⟨(some 73), none, .mv (.tmp 75), 0, false⟩,
    ⟨(some 76), none, .ext (.tmp 73) 0, 0, false⟩,
    ⟨(some 77), none, .ext (.tmp 73) 1, 0, false⟩,
    ⟨(some 18), none, .allocR [(.val (.int .i64 0)), (.val (.int .i64 0)), (.val (.int .i64 0)), (.val (.int .i64 0))], 0, false⟩,
    ⟨none, none, .st (some 18) 4 (.tmp 18) (.tmp 76), 0, false⟩,
    ⟨(some 19), none, .mv (.tmp 77), 0, false⟩])
  (.seq (.regN [1, 2, 3, 5, 7, 8, 9, 11, 13, 14, 15, 16, 17, 19] [
    ⟨(some 78), none, .mv (.tmp 8), 0, false⟩,
    ⟨(some 79), none, .call 23 [(.tmp 78), (.con (.val (.string ⟨#[97, 98]⟩)))], 0, false⟩])
  (.seq (.regN [1, 2, 3, 5, 7, 8, 9, 11, 13, 14, 15, 16, 17, 19] [
    ⟨(some 81), none, .mv (.tmp 8), 0, false⟩,
    ⟨(some 82), none, .call 23 [(.tmp 81), (.con (.val (.string ⟨#[97, 98]⟩)))], 0, false⟩,
    ⟨(some 80), none, .mv (.tmp 82), 0, false⟩,
    ⟨(some 83), none, .ext (.tmp 80) 0, 0, false⟩,
    ⟨(some 84), none, .ext (.tmp 80) 1, 0, false⟩,
    ⟨(some 20), none, .mv (.tmp 83), 0, false⟩,
    ⟨(some 21), none, .mv (.tmp 84), 0, false⟩])
  (.seq (.regN [1, 2, 3, 5, 7, 8, 9, 11, 13, 14, 15, 16, 17, 19, 20, 21] [
    ⟨(some 86), none, .mv (.tmp 8), 0, false⟩,
    ⟨(some 87), none, .call 25 [(.tmp 86)], 0, false⟩,
    ⟨(some 85), none, .mv (.tmp 87), 0, false⟩,
    ⟨(some 88), none, .ext (.tmp 85) 0, 0, false⟩,
    ⟨(some 89), none, .ext (.tmp 85) 1, 0, false⟩,
    ⟨(some 22), none, .allocR [(.val (.int .i64 0)), (.val (.int .i64 0)), (.val (.int .i64 0)), (.val (.int .i64 0))], 0, false⟩,
    ⟨none, none, .st (some 22) 4 (.tmp 22) (.tmp 88), 0, false⟩,
    ⟨(some 23), none, .mv (.tmp 89), 0, false⟩])
  (.seq (.regN [1, 2, 3, 5, 7, 8, 9, 11, 13, 14, 15, 16, 17, 19, 20, 21, 22, 23] [
    ⟨(some 91), none, .mv (.tmp 8), 0, false⟩,
    ⟨(some 92), none, .call 23 [(.tmp 91), (.con (.val (.string ⟨#[97, 98]⟩)))], 0, false⟩,
    ⟨(some 90), none, .mv (.tmp 92), 0, false⟩,
    ⟨(some 93), none, .ext (.tmp 90) 0, 0, false⟩,
    ⟨(some 94), none, .ext (.tmp 90) 1, 0, false⟩,
    ⟨(some 24), none, .mv (.tmp 93), 0, false⟩,
    ⟨(some 25), none, .mv (.tmp 94), 0, false⟩])
  (.seq (.regN [1, 2, 3, 5, 7, 8, 9, 11, 13, 14, 15, 16, 17, 19, 20, 21, 22, 23, 25] [
    ⟨(some 95), none, .mv (.tmp 8), 0, false⟩,
    ⟨(some 96), none, .call 24 [(.tmp 95), (.con (.val (.int .i64 2)))], 0, false⟩])
  (.seq (.regN [1, 2, 3, 5, 7, 8, 9, 11, 13, 14, 15, 16, 17, 19, 20, 21, 22, 23, 25] [
    ⟨(some 98), none, .mv (.tmp 8), 0, false⟩,
    ⟨(some 99), none, .call 23 [(.tmp 98), (.con (.val (.string ⟨#[97, 98]⟩)))], 0, false⟩,
    ⟨(some 97), none, .mv (.tmp 99), 0, false⟩,
    ⟨(some 100), none, .ext (.tmp 97) 0, 0, false⟩,
    ⟨(some 101), none, .ext (.tmp 97) 1, 0, false⟩,
    ⟨(some 26), none, .mv (.tmp 100), 0, false⟩,
    ⟨(some 27), none, .mv (.tmp 101), 0, false⟩])
  (.seq (.regN [1, 2, 3, 5, 7, 9, 11, 13, 14, 15, 16, 17, 19, 20, 21, 22, 23, 25, 27] [
    ⟨(some 102), none, .mv (.tmp 3), 0, false⟩,
    ⟨(some 103), none, .mv (.tmp 102), 0, false⟩,
    ⟨(some 104), (some (103, true)), .ldA (some 2) 4 (.tmp 2), 0, false⟩,
    ⟨(some 105), (some (103, true)), .build [(.val (.int .i64 0)), (.val (.int .i64 0)), (.val (.int .i64 0)), (.val (.int .i64 0))] [(0, 1, (.con (.val (.int .i64 0)))), (1, 1, (.con (.val (.int .i64 0)))), (2, 1, (.con (.val (.int .i64 3)))), (3, 1, (.con (.val (.int .i64 5))))], 0, false⟩,
    ⟨(some 106), (some (103, true)), .eqa false [1, 1, 1, 1] (.tmp 104) (.tmp 105), 0, false⟩,
    ⟨(some 107), none, .pick (.tmp 103) (.tmp 106) (.con (.val (.bool false))), 0, false⟩,
    ⟨(some 108), none, .mv (.tmp 107), 0, false⟩,
    ⟨(some 109), (some (108, true)), .mv (.tmp 5), 0, false⟩,
    ⟨(some 110), (some (108, true)), .not (.tmp 109), 0, false⟩,
    ⟨(some 111), none, .pick (.tmp 108) (.tmp 110) (.con (.val (.bool false))), 0, false⟩,
    ⟨(some 112), none, .mv (.tmp 111), 0, false⟩,
    ⟨(some 113), (some (112, true)), .mv (.tmp 7), 0, false⟩,
    ⟨(some 114), (some (112, true)), .not (.tmp 113), 0, false⟩,
    ⟨(some 115), none, .pick (.tmp 112) (.tmp 114) (.con (.val (.bool false))), 0, false⟩,
    ⟨(some 116), none, .mv (.tmp 115), 0, false⟩,
    ⟨(some 117), (some (116, true)), .mv (.tmp 9), 0, false⟩,
    ⟨(some 118), (some (116, true)), .bini .eql (.tmp 117) (.con (.val (.int .i64 0))), 0, false⟩,
    ⟨(some 119), none, .pick (.tmp 116) (.tmp 118) (.con (.val (.bool false))), 0, false⟩,
    ⟨(some 120), none, .mv (.tmp 119), 0, false⟩,
    ⟨(some 121), (some (120, true)), .mv (.tmp 11), 0, false⟩,
    ⟨(some 122), (some (120, true)), .bini .eql (.tmp 121) (.con (.val (.int .i64 2))), 0, false⟩,
    ⟨(some 123), none, .pick (.tmp 120) (.tmp 122) (.con (.val (.bool false))), 0, false⟩,
    ⟨(some 124), none, .mv (.tmp 123), 0, false⟩,
    ⟨(some 125), (some (124, true)), .mv (.tmp 13), 0, false⟩,
    ⟨(some 126), (some (124, true)), .bini .eql (.tmp 125) (.con (.val (.int .i64 9))), 0, false⟩,
    ⟨(some 127), none, .pick (.tmp 124) (.tmp 126) (.con (.val (.bool false))), 0, false⟩,
    ⟨(some 128), none, .mv (.tmp 127), 0, false⟩,
    ⟨(some 129), (some (128, true)), .mv (.tmp 14), 0, false⟩,
    ⟨(some 130), (some (128, true)), .bini .eql (.tmp 129) (.con (.val (.int .i64 2))), 0, false⟩,
    ⟨(some 131), none, .pick (.tmp 128) (.tmp 130) (.con (.val (.bool false))), 0, false⟩,
    ⟨(some 132), none, .mv (.tmp 131), 0, false⟩,
    ⟨(some 133), (some (132, true)), .mv (.tmp 15), 0, false⟩,
    ⟨(some 134), (some (132, true)), .bini .eql (.tmp 133) (.con (.val (.int .i64 0))), 0, false⟩,
    ⟨(some 135), none, .pick (.tmp 132) (.tmp 134) (.con (.val (.bool false))), 0, false⟩,
    ⟨(some 136), none, .mv (.tmp 135), 0, false⟩,
    ⟨(some 137), (some (136, true)), .mv (.tmp 16), 0, false⟩,
    ⟨(some 138), (some (136, true)), .not (.tmp 137), 0, false⟩,
    ⟨(some 139), none, .pick (.tmp 136) (.tmp 138) (.con (.val (.bool false))), 0, false⟩,
    ⟨(some 140), none, .mv (.tmp 139), 0, false⟩,
    ⟨(some 141), (some (140, true)), .mv (.tmp 17), 0, false⟩,
    ⟨(some 142), (some (140, true)), .bini .eql (.tmp 141) (.con (.val (.int .i64 0))), 0, false⟩,
    ⟨(some 143), none, .pick (.tmp 140) (.tmp 142) (.con (.val (.bool false))), 0, false⟩,
    ⟨(some 144), none, .mv (.tmp 143), 0, false⟩,
    ⟨(some 145), (some (144, true)), .mv (.tmp 19), 0, false⟩,
    ⟨(some 146), (some (144, true)), .not (.tmp 145), 0, false⟩,
    ⟨(some 147), none, .pick (.tmp 144) (.tmp 146) (.con (.val (.bool false))), 0, false⟩,
    ⟨(some 148), none, .mv (.tmp 147), 0, false⟩,
    ⟨(some 149), (some (148, true)), .mv (.tmp 20), 0, false⟩,
    ⟨(some 150), none, .pick (.tmp 148) (.tmp 149) (.con (.val (.bool false))), 0, false⟩,
    ⟨(some 151), none, .mv (.tmp 150), 0, false⟩,
    ⟨(some 152), (some (151, true)), .mv (.tmp 21), 0, false⟩,
    ⟨(some 153), (some (151, true)), .bini .eql (.tmp 152) (.con (.val (.int .i64 0))), 0, false⟩,
    ⟨(some 154), none, .pick (.tmp 151) (.tmp 153) (.con (.val (.bool false))), 0, false⟩,
    ⟨(some 155), none, .mv (.tmp 154), 0, false⟩,
    ⟨(some 156), (some (155, true)), .mv (.tmp 23), 0, false⟩,
    ⟨(some 157), none, .pick (.tmp 155) (.tmp 156) (.con (.val (.bool false))), 0, false⟩,
    ⟨(some 158), none, .mv (.tmp 157), 0, false⟩,
    ⟨(some 159), (some (158, true)), .ldA (some 22) 4 (.tmp 22), 0, false⟩,
    ⟨(some 160), (some (158, true)), .build [(.val (.int .i64 0)), (.val (.int .i64 0)), (.val (.int .i64 0)), (.val (.int .i64 0))] [(0, 1, (.con (.val (.int .i64 0)))), (1, 1, (.con (.val (.int .i64 0)))), (2, 1, (.con (.val (.int .i64 1)))), (3, 1, (.con (.val (.int .i64 3))))], 0, false⟩,
    ⟨(some 161), (some (158, true)), .eqa false [1, 1, 1, 1] (.tmp 159) (.tmp 160), 0, false⟩,
    ⟨(some 162), none, .pick (.tmp 158) (.tmp 161) (.con (.val (.bool false))), 0, false⟩,
    ⟨(some 163), none, .mv (.tmp 162), 0, false⟩,
    ⟨(some 164), (some (163, true)), .mv (.tmp 25), 0, false⟩,
    ⟨(some 165), (some (163, true)), .bini .eql (.tmp 164) (.con (.val (.int .i64 9))), 0, false⟩,
    ⟨(some 166), none, .pick (.tmp 163) (.tmp 165) (.con (.val (.bool false))), 0, false⟩,
    ⟨(some 167), none, .mv (.tmp 166), 0, false⟩,
    ⟨(some 168), (some (167, true)), .mv (.tmp 27), 0, false⟩,
    ⟨(some 169), (some (167, true)), .bini .eql (.tmp 168) (.con (.val (.int .i64 2))), 0, false⟩,
    ⟨(some 170), none, .pick (.tmp 167) (.tmp 169) (.con (.val (.bool false))), 0, false⟩,
    ⟨(some 171), none, .mv (.tmp 170), 0, false⟩,
    ⟨(some 172), (some (171, true)), .ldA (some 1) 2 (.tmp 1), 0, false⟩,
    ⟨(some 173), (some (171, true)), .call 14 [(.tmp 172), (.con (.val (.string ⟨#[]⟩)))], 0, false⟩,
    ⟨(some 174), (some (171, true)), .len false (.tmp 173), 0, false⟩,
    ⟨(some 175), (some (171, true)), .bini .eql (.tmp 174) (.con (.val (.int .i64 0))), 0, false⟩,
    ⟨(some 176), none, .pick (.tmp 171) (.tmp 175) (.con (.val (.bool false))), 0, false⟩,
    ⟨(some 0), none, .mv (.tmp 176), 0, false⟩])
  .ret)))))))))))))))))))))
def t7 : AFn := ⟨0, t7B,
  [.tmp 0], true⟩
/-- viewport/munch.New  -/
def t22B : AC := (.seq (.regN [0] [
    ⟨(some 1), none, .boxR 2 (.tmp 0), 0, false⟩,
    ⟨(some 2), none, .mv (.con (.val (.pointer none))), 0, false⟩,
    ⟨(some 3), none, .mv (.con (.val (.int .i64 0))), 0, false⟩])
  (.seq (.seq (.regN [1] [
    ⟨(some 5), none, .ldA (some 1) 2 (.tmp 1), 0, false⟩,
    ⟨(some 6), none, .call 33 [(.tmp 5)], 0, false⟩,
    ⟨(some 4), none, .mv (.tmp 6), 0, false⟩])
  (.seq (.regN [1, 4] [
    ⟨(some 7), none, .mv (.tmp 4), 0, false⟩,
    ⟨(some 8), none, .bini .neq (.tmp 7) (.con (.val (.int .i64 0))), 0, false⟩])
  (.cond (.tmp 8)
    (.seq (.regN [4] [
      ⟨(some 9), none, .mv (.tmp 4), 0, false⟩,
      ⟨(some 2), none, .mv (.con (.val (.pointer none))), 0, false⟩,
      ⟨(some 3), none, .mv (.tmp 9), 0, false⟩])
    .ret)
    .skip)))
  (.seq (.regN [1] [
    ⟨(some 10), none, .ldA (some 1) 2 (.tmp 1), 0, false⟩,
    ⟨(some 11), none, .build [.e0, .e0, (.val (.int .i64 0)), (.val (.int .i64 0)), (.val (.int .i64 0)), (.val (.int .i64 0)), (.val (.int .i64 0)), (.val (.int .i64 0)), (.val (.int .i64 0)), (.val (.bool false)), (.val (.bool false))] [(0, 2, (.tmp 10))], 0, false⟩,
    ⟨(some 12), none, .boxH 11 (.tmp 11), 0, false⟩,
    ⟨(some 2), none, .mv (.tmp 12), 0, false⟩,
    ⟨(some 3), none, .mv (.con (.val (.int .i64 0))), 0, false⟩])
  .ret)))
def t22 : AFn := ⟨1, t22B,
  [.tmp 2, .tmp 3], false⟩
/-- (*viewport/munch.Scanner).Step  -/
def t23B : AC := (.seq (.regN [0, 1] [
    ⟨(some 4), none, .mv (.con (.val (.bool false))), 0, false⟩,
    ⟨(some 5), none, .mv (.con (.val (.int .i64 0))), 0, false⟩])
  (.seq (.block 0
    (.seq (.regN [0, 1] [
      ⟨(some 7), none, .mv (.tmp 0), 0, false⟩,
      ⟨(some 8), none, .eqp false (.tmp 7) (.con (.val (.pointer none))), 0, false⟩,
      ⟨(some 6), none, .mv (.tmp 8), 0, false⟩])
    (.cond (.tmp 6)
      (.seq (.regN [] [
        ⟨(some 4), none, .mv (.con (.val (.bool false))), 0, false⟩,
        ⟨(some 5), none, .mv (.con (.val (.int .i64 1))), 0, false⟩])
      .ret)
      (.seq (.regN [0, 1] [
        ⟨(some 10), none, .mv (.tmp 0), 0, false⟩,
        ⟨(some 11), none, .nilc (.tmp 10), 0, false⟩,
        ⟨(some 12), none, .fldA 2 (.tmp 11), 0, false⟩,
        ⟨(some 13), none, .fldA 7 (.tmp 12), 0, false⟩,
        ⟨(some 14), none, .ld1 none (.tmp 13), 0, false⟩,
        ⟨(some 15), none, .not (.tmp 14), 0, false⟩,
        ⟨(some 16), none, .mv (.tmp 15), 0, false⟩,
        ⟨(some 17), (some (16, false)), .mv (.tmp 0), 0, false⟩,
        ⟨(some 18), (some (16, false)), .nilc (.tmp 17), 0, false⟩,
        ⟨(some 19), (some (16, false)), .fldA 2 (.tmp 18), 0, false⟩,
        ⟨(some 20), (some (16, false)), .fldA 8 (.tmp 19), 0, false⟩,
        ⟨(some 21), (some (16, false)), .ld1 none (.tmp 20), 0, false⟩,
        ⟨(some 22), none, .pick (.tmp 16) (.con (.val (.bool true))) (.tmp 21), 0, false⟩,
        ⟨(some 9), none, .mv (.tmp 22), 0, false⟩])
      (.cond (.tmp 9)
        (.seq (.regN [] [
          ⟨(some 4), none, .mv (.con (.val (.bool false))), 0, false⟩,
          ⟨(some 5), none, .mv (.con (.val (.int .i64 9))), 0, false⟩])
        .ret)
        (.seq (.regD [0, 1] 0 [
          ⟨(some 24), none, .mv (.tmp 0), 0, false⟩,
          ⟨(some 25), none, .nilc (.tmp 24), 0, false⟩,
          ⟨(some 26), none, .fldA 2 (.tmp 25), 0, false⟩,
          ⟨(some 27), none, .fldA 0 (.tmp 26), 0, false⟩,
          ⟨(some 28), none, .ld1 none (.tmp 27), 0, false⟩,
          ⟨(some 29), none, .mv (.tmp 1), 0, false⟩,
          ⟨(some 30), none, .len true (.tmp 29), 0, false⟩,
          ⟨(some 31), none, .bini .geq (.tmp 28) (.tmp 30), 0, false⟩,
          ⟨(some 32), none, .mv (.tmp 31), 0, false⟩,
          ⟨(some 33), (some (32, false)), .mv (.tmp 0), 0, false⟩,
          ⟨(some 34), (some (32, false)), .nilc (.tmp 33), 0, false⟩,
          ⟨(some 35), (some (32, false)), .fldA 2 (.tmp 34), 0, false⟩,
          ⟨(some 36), (some (32, false)), .fldA 0 (.tmp 35), 0, false⟩,
          ⟨(some 37), (some (32, false)), .ld1 none (.tmp 36), 0, false⟩,
          ⟨(some 38), (some (32, false)), .mv (.tmp 0), 0, false⟩,
          ⟨(some 39), (some (32, false)), .nilc (.tmp 38), 0, false⟩,
          ⟨(some 40), (some (32, false)), .fldA 2 (.tmp 39), 0, false⟩,
          ⟨(some 41), (some (32, false)), .fldA 1 (.tmp 40), 0, false⟩,
          ⟨(some 42), (some (32, false)), .ld1 none (.tmp 41), 0, false⟩,
          ⟨(some 43), (some (32, false)), .bini .add (.tmp 37) (.tmp 42), 0, false⟩,
          ⟨(some 44), (some (32, false)), .mv (.tmp 1), 0, false⟩,
          ⟨(some 45), (some (32, false)), .len true (.tmp 44), 0, false⟩,
          ⟨(some 46), (some (32, false)), .bini .gtr (.tmp 43) (.tmp 45), 0, false⟩,
          ⟨(some 47), none, .pick (.tmp 32) (.con (.val (.bool true))) (.tmp 46), 0, false⟩,
          ⟨(some 23), none, .mv (.tmp 47), 0, false⟩])
        (.cond (.tmp 23)
          (.seq (.regN [] [
            ⟨(some 4), none, .mv (.con (.val (.bool false))), 0, false⟩,
            ⟨(some 5), none, .mv (.con (.val (.int .i64 2))), 0, false⟩])
          .ret)
          .skip)))))))
  (.seq (.regD [0, 1] 0 [
    ⟨(some 48), none, .mv (.tmp 0), 0, false⟩,
    ⟨(some 49), none, .mv (.tmp 0), 0, false⟩,
    ⟨(some 50), none, .nilc (.tmp 49), 0, false⟩,
    ⟨(some 51), none, .fldA 2 (.tmp 50), 0, false⟩,
    ⟨(some 52), none, .ldA none 9 (.tmp 51), 0, false⟩,
    ⟨(some 53), none, .mv (.tmp 0), 0, false⟩,
    ⟨(some 54), none, .nilc (.tmp 53), 0, false⟩,
    ⟨(some 55), none, .fldA 0 (.tmp 54), 0, false⟩,
    ⟨(some 56), none, .ldA none 2 (.tmp 55), 0, false⟩,
    ⟨(some 57), none, .mv (.tmp 1), 0, false⟩,
    ⟨(some 58), none, .call 38 [(.tmp 52), (.tmp 56), (.tmp 57)], 0, true⟩,
    ⟨(some 59), none, .nilc (.tmp 48), 0, false⟩,
    ⟨(some 60), none, .fldA 2 (.tmp 59), 0, false⟩,
    ⟨none, none, .st none 9 (.tmp 60) (.tmp 58), 0, false⟩])
  (.seq (.regN [0] [
    ⟨(some 61), none, .mv (.tmp 0), 0, false⟩,
    ⟨(some 62), none, .nilc (.tmp 61), 0, false⟩,
    ⟨(some 63), none, .fldA 2 (.tmp 62), 0, false⟩,
    ⟨(some 64), none, .fldA 8 (.tmp 63), 0, false⟩,
    ⟨(some 65), none, .ld1 none (.tmp 64), 0, false⟩,
    ⟨(some 4), none, .mv (.tmp 65), 0, false⟩,
    ⟨(some 5), none, .mv (.con (.val (.int .i64 0))), 0, false⟩])
  .ret))))
def t23 : AFn := ⟨2, t23B,
  [.tmp 4, .tmp 5], true⟩
/-- (*viewport/munch.Scanner).Begin  -/
def t24B : AC := (.seq (.regN [0, 1] [
    ⟨(some 4), none, .mv (.con (.val (.int .i64 0))), 0, false⟩])
  (.seq (.block 0
    (.seq (.regN [0, 1] [
      ⟨(some 6), none, .mv (.tmp 0), 0, false⟩,
      ⟨(some 7), none, .eqp false (.tmp 6) (.con (.val (.pointer none))), 0, false⟩,
      ⟨(some 5), none, .mv (.tmp 7), 0, false⟩])
    (.cond (.tmp 5)
      (.seq (.regN [] [
        ⟨(some 4), none, .mv (.con (.val (.int .i64 1))), 0, false⟩])
      .ret)
      (.seq (.regN [0, 1] [
        ⟨(some 9), none, .mv (.tmp 1), 0, false⟩,
        ⟨(some 10), none, .bini .lss (.tmp 9) (.con (.val (.int .i64 0))), 0, false⟩,
        ⟨(some 8), none, .mv (.tmp 10), 0, false⟩])
      (.cond (.tmp 8)
        (.seq (.regN [] [
          ⟨(some 4), none, .mv (.con (.val (.int .i64 2))), 0, false⟩])
        .ret)
        .skip)))))
  (.seq (.regN [0, 1] [
    ⟨(some 11), none, .mv (.tmp 0), 0, false⟩,
    ⟨(some 12), none, .mv (.tmp 1), 0, false⟩,
    ⟨(some 13), none, .call 39 [(.tmp 12)], 0, false⟩,
    ⟨(some 14), none, .nilc (.tmp 11), 0, false⟩,
    ⟨(some 15), none, .fldA 2 (.tmp 14), 0, false⟩,
    ⟨none, none, .st none 9 (.tmp 15) (.tmp 13), 0, false⟩])
  (.seq (.regN [] [
    ⟨(some 4), none, .mv (.con (.val (.int .i64 0))), 0, false⟩])
  .ret))))
def t24 : AFn := ⟨2, t24B,
  [.tmp 4], true⟩
/-- (*viewport/munch.Scanner).Lexeme  -/
def t25B : AC := (.seq (.regN [0] [
    ⟨(some 2), none, .allocR [(.val (.int .i64 0)), (.val (.int .i64 0)), (.val (.int .i64 0)), (.val (.int .i64 0))], 0, false⟩,
    ⟨(some 3), none, .mv (.con (.val (.bool false))), 0, false⟩])
  (.seq (.seq (.regN [0, 2] [
    ⟨(some 4), none, .mv (.tmp 0), 0, false⟩,
    ⟨(some 5), none, .eqp false (.tmp 4) (.con (.val (.pointer none))), 0, false⟩,
    ⟨(some 6), none, .mv (.tmp 5), 0, false⟩,
    ⟨(some 7), (some (6, false)), .mv (.tmp 0), 0, false⟩,
    ⟨(some 8), (some (6, false)), .nilc (.tmp 7), 0, false⟩,
    ⟨(some 9), (some (6, false)), .fldA 2 (.tmp 8), 0, false⟩,
    ⟨(some 10), (some (6, false)), .fldA 8 (.tmp 9), 0, false⟩,
    ⟨(some 11), (some (6, false)), .ld1 none (.tmp 10), 0, false⟩,
    ⟨(some 12), (some (6, false)), .not (.tmp 11), 0, false⟩,
    ⟨(some 13), none, .pick (.tmp 6) (.con (.val (.bool true))) (.tmp 12), 0, false⟩])
  (.cond (.tmp 13)
    (.seq (.regN [2] [
      ⟨(some 14), none, .build [(.val (.int .i64 0)), (.val (.int .i64 0)), (.val (.int .i64 0)), (.val (.int .i64 0))] [], 0, false⟩,
      ⟨none, none, .st (some 2) 4 (.tmp 2) (.tmp 14), 0, false⟩,
      ⟨(some 3), none, .mv (.con (.val (.bool false))), 0, false⟩])
    .ret)
    .skip))
  (.seq (.regN [0, 2] [
    ⟨(some 15), none, .mv (.tmp 0), 0, false⟩,
    ⟨(some 16), none, .nilc (.tmp 15), 0, false⟩,
    ⟨(some 17), none, .fldA 2 (.tmp 16), 0, false⟩,
    ⟨(some 18), none, .fldA 3 (.tmp 17), 0, false⟩,
    ⟨(some 19), none, .ldA none 4 (.tmp 18), 0, false⟩,
    ⟨none, none, .st (some 2) 4 (.tmp 2) (.tmp 19), 0, false⟩,
    ⟨(some 3), none, .mv (.con (.val (.bool true))), 0, false⟩])
  .ret)))
def t25 : AFn := ⟨1, t25B,
  [.cell 2 4 true, .tmp 3], true⟩
/-- viewport/viewportlaw06.MunchNil  -/
def t8B : AC := (.seq (.regN [0, 1] [
    ⟨(some 4), none, .mv (.con (.val (.bool false))), 0, false⟩])
  (.seq (.seq (.regN [0, 1] [
    ⟨(some 10), none, .call 11 [], 0, false⟩,
    ⟨(some 11), none, .not (.tmp 10), 0, false⟩])
  (.cond (.tmp 11)
    (.seq (.regN [] [
      ⟨(some 4), none, .mv (.con (.val (.bool false))), 0, false⟩])
    .ret)
    .skip))
  (.seq (.regN [0, 1] [
    ⟨(some 5), none, .mv (.con (.val (.pointer none))), 0, false⟩])
  (.seq (.regN [0, 1, 5] [
    ⟨(some 13), none, .mv (.tmp 5), 0, false⟩,
    ⟨(some 14), none, .mv (.tmp 1), 0, false⟩,
    ⟨(some 15), none, .call 23 [(.tmp 13), (.tmp 14)], 0, false⟩,
    ⟨(some 12), none, .mv (.tmp 15), 0, false⟩,
    ⟨(some 16), none, .ext (.tmp 12) 0, 0, false⟩,
    ⟨(some 17), none, .ext (.tmp 12) 1, 0, false⟩,
    ⟨(some 6), none, .mv (.tmp 16), 0, false⟩,
    ⟨(some 7), none, .mv (.tmp 17), 0, false⟩])
  (.seq (.regN [0, 5, 6, 7] [
    ⟨(some 19), none, .mv (.tmp 5), 0, false⟩,
    ⟨(some 20), none, .call 25 [(.tmp 19)], 0, false⟩,
    ⟨(some 18), none, .mv (.tmp 20), 0, false⟩,
    ⟨(some 21), none, .ext (.tmp 18) 0, 0, false⟩,
    ⟨(some 22), none, .ext (.tmp 18) 1, 0, false⟩,
    ⟨(some 8), none, .allocR [(.val (.int .i64 0)), (.val (.int .i64 0)), (.val (.int .i64 0)), (.val (.int .i64 0))], 0, false⟩,
    ⟨none, none, .st (some 8) 4 (.tmp 8) (.tmp 21), 0, false⟩,
    ⟨(some 9), none, .mv (.tmp 22), 0, false⟩])
  (.seq (.regN [0, 5, 6, 7, 8, 9] [
    ⟨(some 23), none, .mv (.tmp 5), 0, false⟩,
    ⟨(some 24), none, .mv (.tmp 0), 0, false⟩,
    ⟨(some 25), none, .call 24 [(.tmp 23), (.tmp 24)], 0, false⟩,
    ⟨(some 26), none, .bini .eql (.tmp 25) (.con (.val (.int .i64 1))), 0, false⟩,
    ⟨(some 27), none, .mv (.tmp 26), 0, false⟩,
    ⟨(some 28), (some (27, true)), .mv (.tmp 6), 0, false⟩,
    ⟨(some 29), (some (27, true)), .not (.tmp 28), 0, false⟩,
    ⟨(some 30), none, .pick (.tmp 27) (.tmp 29) (.con (.val (.bool false))), 0, false⟩,
    ⟨(some 31), none, .mv (.tmp 30), 0, false⟩,
    ⟨(some 32), (some (31, true)), .mv (.tmp 7), 0, false⟩,
    ⟨(some 33), (some (31, true)), .bini .eql (.tmp 32) (.con (.val (.int .i64 1))), 0, false⟩,
    ⟨(some 34), none, .pick (.tmp 31) (.tmp 33) (.con (.val (.bool false))), 0, false⟩,
    ⟨(some 35), none, .mv (.tmp 34), 0, false⟩,
    ⟨(some 36), (some (35, true)), .ldA (some 8) 4 (.tmp 8), 0, false⟩,
    ⟨(some 37), (some (35, true)), .build [(.val (.int .i64 0)), (.val (.int .i64 0)), (.val (.int .i64 0)), (.val (.int .i64 0))] [], 0, false⟩,
    ⟨(some 38), (some (35, true)), .eqa false [1, 1, 1, 1] (.tmp 36) (.tmp 37), 0, false⟩,
    ⟨(some 39), none, .pick (.tmp 35) (.tmp 38) (.con (.val (.bool false))), 0, false⟩,
    ⟨(some 40), none, .mv (.tmp 39), 0, false⟩,
    ⟨(some 41), (some (40, true)), .mv (.tmp 9), 0, false⟩,
    ⟨(some 42), (some (40, true)), .not (.tmp 41), 0, false⟩,
    ⟨(some 43), none, .pick (.tmp 40) (.tmp 42) (.con (.val (.bool false))), 0, false⟩,
    ⟨(some 44), none, .mv (.tmp 43), 0, false⟩,
    ⟨(some 45), (some (44, true)), .mv (.tmp 5), 0, false⟩,
    ⟨(some 46), (some (44, true)), .call 26 [(.tmp 45)], 0, false⟩,
    ⟨(some 47), (some (44, true)), .bini .eql (.tmp 46) (.con (.val (.int .i64 0))), 0, false⟩,
    ⟨(some 48), none, .pick (.tmp 44) (.tmp 47) (.con (.val (.bool false))), 0, false⟩,
    ⟨(some 49), none, .mv (.tmp 48), 0, false⟩,
    ⟨(some 50), (some (49, true)), .mv (.tmp 5), 0, false⟩,
    ⟨(some 51), (some (49, true)), .call 27 [(.tmp 50)], 0, false⟩,
    ⟨(some 52), (some (49, true)), .bini .eql (.tmp 51) (.con (.val (.int .i64 0))), 0, false⟩,
    ⟨(some 53), none, .pick (.tmp 49) (.tmp 52) (.con (.val (.bool false))), 0, false⟩,
    ⟨(some 4), none, .mv (.tmp 53), 0, false⟩])
  .ret))))))
def t8 : AFn := ⟨2, t8B,
  [.tmp 4], true⟩
/-- (*viewport/munch.Scanner).Ext  -/
def t26B : AC := (.seq (.regN [0] [
    ⟨(some 2), none, .mv (.con (.val (.int .i64 0))), 0, false⟩])
  (.seq (.seq (.regN [0] [
    ⟨(some 3), none, .mv (.tmp 0), 0, false⟩,
    ⟨(some 4), none, .eqp false (.tmp 3) (.con (.val (.pointer none))), 0, false⟩])
  (.cond (.tmp 4)
    (.seq (.regN [] [
      ⟨(some 2), none, .mv (.con (.val (.int .i64 0))), 0, false⟩])
    .ret)
    .skip))
  (.seq (.regD [0] 0 [
    ⟨(some 5), none, .mv (.tmp 0), 0, false⟩,
    ⟨(some 6), none, .nilc (.tmp 5), 0, false⟩,
    ⟨(some 7), none, .fldA 2 (.tmp 6), 0, false⟩,
    ⟨(some 8), none, .fldA 0 (.tmp 7), 0, false⟩,
    ⟨(some 9), none, .ld1 none (.tmp 8), 0, false⟩,
    ⟨(some 10), none, .mv (.tmp 0), 0, false⟩,
    ⟨(some 11), none, .nilc (.tmp 10), 0, false⟩,
    ⟨(some 12), none, .fldA 2 (.tmp 11), 0, false⟩,
    ⟨(some 13), none, .fldA 1 (.tmp 12), 0, false⟩,
    ⟨(some 14), none, .ld1 none (.tmp 13), 0, false⟩,
    ⟨(some 15), none, .bini .add (.tmp 9) (.tmp 14), 0, false⟩,
    ⟨(some 2), none, .mv (.tmp 15), 0, false⟩])
  .ret)))
def t26 : AFn := ⟨1, t26B,
  [.tmp 2], true⟩
/-- (*viewport/munch.Scanner).Steps  -/
def t27B : AC := (.seq (.regN [0] [
    ⟨(some 2), none, .mv (.con (.val (.int .i64 0))), 0, false⟩])
  (.seq (.seq (.regN [0] [
    ⟨(some 3), none, .mv (.tmp 0), 0, false⟩,
    ⟨(some 4), none, .eqp false (.tmp 3) (.con (.val (.pointer none))), 0, false⟩])
  (.cond (.tmp 4)
    (.seq (.regN [] [
      ⟨(some 2), none, .mv (.con (.val (.int .i64 0))), 0, false⟩])
    .ret)
    .skip))
  (.seq (.regN [0] [
    ⟨(some 5), none, .mv (.tmp 0), 0, false⟩,
    ⟨(some 6), none, .nilc (.tmp 5), 0, false⟩,
    ⟨(some 7), none, .fldA 2 (.tmp 6), 0, false⟩,
    ⟨(some 8), none, .fldA 1 (.tmp 7), 0, false⟩,
    ⟨(some 9), none, .ld1 none (.tmp 8), 0, false⟩,
    ⟨(some 2), none, .mv (.tmp 9), 0, false⟩])
  .ret)))
def t27 : AFn := ⟨1, t27B,
  [.tmp 2], true⟩
/-- viewport/viewportlaw06.MunchScript  -/
def t9L1 : AC := (.seq (.seq (.regN [1, 5, 7, 9, 10, 11] [
              ⟨(some 96), none, .mv (.tmp 11), 0, false⟩,
              ⟨(some 97), none, .mv (.tmp 10), 0, false⟩,
              ⟨(some 98), none, .bini .lss (.tmp 96) (.tmp 97), 0, false⟩])
            (.cond (.tmp 98)
              .skip
              (.exit 2)))
            (.seq (.block 3
              (.seq (.regN [1, 5, 7, 9, 10, 11] [
                ⟨(some 102), none, .mv (.tmp 5), 0, false⟩,
                ⟨(some 103), none, .mv (.tmp 1), 0, false⟩,
                ⟨(some 104), none, .mv (.tmp 9), 0, false⟩,
                ⟨(some 105), none, .ixA 3 (.tmp 103) (.tmp 104), 0, false⟩,
                ⟨(some 106), none, .fldA 2 (.tmp 105), 0, false⟩,
                ⟨(some 107), none, .ld1 none (.tmp 106), 0, false⟩,
                ⟨(some 108), none, .call 23 [(.tmp 102), (.tmp 107)], 0, false⟩,
                ⟨(some 101), none, .mv (.tmp 108), 0, false⟩,
                ⟨(some 109), none, .ext (.tmp 101) 0, 0, false⟩,
                ⟨(some 110), none, .ext (.tmp 101) 1, 0, false⟩,
                ⟨(some 12), none, .mv (.tmp 109), 0, false⟩,
                ⟨(some 13), none, .mv (.tmp 110), 0, false⟩])
              (.seq (.regN [1, 5, 7, 9, 10, 11, 12, 13] [
                ⟨(some 112), none, .mv (.tmp 7), 0, false⟩,
                ⟨(some 113), none, .mv (.tmp 1), 0, false⟩,
                ⟨(some 114), none, .mv (.tmp 9), 0, false⟩,
                ⟨(some 115), none, .ixA 3 (.tmp 113) (.tmp 114), 0, false⟩,
                ⟨(some 116), none, .fldA 2 (.tmp 115), 0, false⟩,
                ⟨(some 117), none, .ld1 none (.tmp 116), 0, false⟩,
                ⟨(some 118), none, .call 30 [(.tmp 112), (.tmp 117)], 0, false⟩,
                ⟨(some 111), none, .mv (.tmp 118), 0, false⟩,
                ⟨(some 119), none, .ext (.tmp 111) 0, 0, false⟩,
                ⟨(some 120), none, .ext (.tmp 111) 1, 0, false⟩,
                ⟨(some 14), none, .mv (.tmp 119), 0, false⟩,
                ⟨(some 15), none, .mv (.tmp 120), 0, false⟩])
              (.seq (.seq (.regN [1, 5, 7, 9, 10, 11, 12, 13, 14, 15] [
                ⟨(some 121), none, .mv (.tmp 12), 0, false⟩,
                ⟨(some 122), none, .mv (.tmp 14), 0, false⟩,
                ⟨(some 123), none, .eqb true (.tmp 121) (.tmp 122), 0, false⟩,
                ⟨(some 124), none, .mv (.tmp 123), 0, false⟩,
                ⟨(some 125), (some (124, false)), .mv (.tmp 13), 0, false⟩,
                ⟨(some 126), (some (124, false)), .mv (.tmp 15), 0, false⟩,
                ⟨(some 127), (some (124, false)), .bini .neq (.tmp 125) (.tmp 126), 0, false⟩,
                ⟨(some 128), none, .pick (.tmp 124) (.con (.val (.bool true))) (.tmp 127), 0, false⟩])
              (.cond (.tmp 128)
                (.seq (.regN [] [
                  ⟨(some 4), none, .mv (.con (.val (.bool false))), 0, false⟩])
                .ret)
                .skip))
              (.seq (.regN [1, 5, 7, 9, 10, 11, 12, 13] [
                ⟨(some 129), none, .mv (.tmp 12), 0, false⟩,
                ⟨(some 130), none, .mv (.tmp 129), 0, false⟩,
                ⟨(some 131), (some (130, false)), .mv (.tmp 13), 0, false⟩,
                ⟨(some 132), (some (130, false)), .bini .neq (.tmp 131) (.con (.val (.int .i64 0))), 0, false⟩,
                ⟨(some 133), none, .pick (.tmp 130) (.con (.val (.bool true))) (.tmp 132), 0, false⟩])
              (.cond (.tmp 133)
                (.exit 2)
                .skip))))))
            (.regN [1, 5, 7, 9, 10, 11] [
              ⟨(some 99), none, .mv (.tmp 11), 0, false⟩,
              ⟨(some 100), none, .bini .add (.tmp 99) (.con (.val (.int .i64 1))), 0, false⟩,
              ⟨(some 11), none, .mv (.tmp 100), 0, false⟩])))
def t9L2 : AC := (.seq (.seq (.regN [1, 5, 7, 9] [
        ⟨(some 50), none, .mv (.tmp 9), 0, false⟩,
        ⟨(some 51), none, .mv (.tmp 1), 0, false⟩,
        ⟨(some 52), none, .len false (.tmp 51), 0, false⟩,
        ⟨(some 53), none, .bini .lss (.tmp 50) (.tmp 52), 0, false⟩,
        ⟨(some 54), none, .mv (.tmp 53), 0, false⟩,
        ⟨(some 55), (some (54, true)), .mv (.tmp 7), 0, false⟩,
        ⟨(some 56), (some (54, true)), .eqp true (.tmp 55) (.con (.val (.pointer none))), 0, false⟩,
        ⟨(some 57), none, .pick (.tmp 54) (.tmp 56) (.con (.val (.bool false))), 0, false⟩])
      (.cond (.tmp 57)
        .skip
        (.exit 0)))
      (.seq (.block 1
        (.seq (.seq (.regN [1, 5, 7, 9] [
          ⟨(some 60), none, .mv (.tmp 1), 0, false⟩,
          ⟨(some 61), none, .mv (.tmp 9), 0, false⟩,
          ⟨(some 62), none, .ixA 3 (.tmp 60) (.tmp 61), 0, false⟩,
          ⟨(some 63), none, .fldA 2 (.tmp 62), 0, false⟩,
          ⟨(some 64), none, .ld1 none (.tmp 63), 0, false⟩,
          ⟨(some 65), none, .len true (.tmp 64), 0, false⟩,
          ⟨(some 66), none, .bini .gtr (.tmp 65) (.con (.val (.int .i64 60))), 0, false⟩])
        (.cond (.tmp 66)
          (.seq (.regN [] [
            ⟨(some 4), none, .mv (.con (.val (.bool true))), 0, false⟩])
          .ret)
          .skip))
        (.seq (.regN [1, 5, 7, 9] [
          ⟨(some 10), none, .mv (.con (.val (.int .i64 1))), 0, false⟩])
        (.seq (.seq (.regN [1, 5, 7, 9, 10] [
          ⟨(some 67), none, .mv (.tmp 1), 0, false⟩,
          ⟨(some 68), none, .mv (.tmp 9), 0, false⟩,
          ⟨(some 69), none, .ixA 3 (.tmp 67) (.tmp 68), 0, false⟩,
          ⟨(some 70), none, .fldA 0 (.tmp 69), 0, false⟩,
          ⟨(some 71), none, .ld1 none (.tmp 70), 0, false⟩,
          ⟨(some 72), none, .call 15 [(.tmp 71), (.con (.val (.int .i64 3)))], 0, false⟩,
          ⟨(some 73), none, .bini .eql (.tmp 72) (.con (.val (.int .i64 2))), 0, false⟩])
        (.cond (.tmp 73)
          (.regN [1, 5, 7, 9] [
            ⟨(some 10), none, .mv (.con (.val (.int .i64 200))), 0, false⟩])
          .skip))
        (.seq (.seq (.regN [1, 5, 7, 9, 10] [
          ⟨(some 74), none, .mv (.tmp 1), 0, false⟩,
          ⟨(some 75), none, .mv (.tmp 9), 0, false⟩,
          ⟨(some 76), none, .ixA 3 (.tmp 74) (.tmp 75), 0, false⟩,
          ⟨(some 77), none, .fldA 0 (.tmp 76), 0, false⟩,
          ⟨(some 78), none, .ld1 none (.tmp 77), 0, false⟩,
          ⟨(some 79), none, .call 15 [(.tmp 78), (.con (.val (.int .i64 3)))], 0, false⟩,
          ⟨(some 80), none, .bini .eql (.tmp 79) (.con (.val (.int .i64 0))), 0, false⟩])
        (.cond (.tmp 80)
          (.seq (.regN [1, 5, 7, 9] [
            ⟨(some 10), none, .mv (.con (.val (.int .i64 0))), 0, false⟩])
          (.seq (.regD [1, 5, 7, 9, 10] 0 [
            ⟨(some 81), none, .mv (.tmp 5), 0, false⟩,
            ⟨(some 82), none, .mv (.tmp 1), 0, false⟩,
            ⟨(some 83), none, .mv (.tmp 9), 0, false⟩,
            ⟨(some 84), none, .ixA 3 (.tmp 82) (.tmp 83), 0, false⟩,
            ⟨(some 85), none, .fldA 1 (.tmp 84), 0, false⟩,
            ⟨(some 86), none, .ld1 none (.tmp 85), 0, false⟩,
            ⟨(some 87), none, .call 24 [(.tmp 81), (.tmp 86)], 0, true⟩,
            ⟨(some 88), none, .mv (.tmp 7), 0, false⟩,
            ⟨(some 89), none, .mv (.tmp 1), 0, false⟩,
            ⟨(some 90), none, .mv (.tmp 9), 0, false⟩,
            ⟨(some 91), none, .ixA 3 (.tmp 89) (.tmp 90), 0, false⟩,
            ⟨(some 92), none, .fldA 1 (.tmp 91), 0, false⟩,
            ⟨(some 93), none, .ld1 none (.tmp 92), 0, true⟩,
            ⟨(some 94), none, .call 29 [(.tmp 88), (.tmp 93)], 0, true⟩,
            ⟨(some 95), none, .bini .neq (.tmp 87) (.tmp 94), 0, false⟩])
          (.cond (.tmp 95)
            (.seq (.regN [] [
              ⟨(some 4), none, .mv (.con (.val (.bool false))), 0, false⟩])
            .ret)
            .skip)))
          .skip))
        (.seq (.seq (.regN [1, 5, 7, 9, 10] [
          ⟨(some 11), none, .mv (.con (.val (.int .i64 0))), 0, false⟩])
        (.block 2
          (.loop [1, 5, 7, 9, 10, 11] t9L1)))
        (.seq (.regN [1, 5, 7, 9] [
          ⟨(some 135), none, .mv (.tmp 5), 0, false⟩,
          ⟨(some 136), none, .call 25 [(.tmp 135)], 0, false⟩,
          ⟨(some 134), none, .mv (.tmp 136), 0, false⟩,
          ⟨(some 137), none, .ext (.tmp 134) 0, 0, false⟩,
          ⟨(some 138), none, .ext (.tmp 134) 1, 0, false⟩,
          ⟨(some 16), none, .allocR [(.val (.int .i64 0)), (.val (.int .i64 0)), (.val (.int .i64 0)), (.val (.int .i64 0))], 0, false⟩,
          ⟨none, none, .st (some 16) 4 (.tmp 16) (.tmp 137), 0, false⟩,
          ⟨(some 17), none, .mv (.tmp 138), 0, false⟩])
        (.seq (.regN [1, 5, 7, 9, 16, 17] [
          ⟨(some 140), none, .mv (.tmp 7), 0, false⟩,
          ⟨(some 141), none, .call 31 [(.tmp 140)], 0, false⟩,
          ⟨(some 139), none, .mv (.tmp 141), 0, false⟩,
          ⟨(some 142), none, .ext (.tmp 139) 0, 0, false⟩,
          ⟨(some 143), none, .ext (.tmp 139) 1, 0, false⟩,
          ⟨(some 18), none, .allocR [(.val (.int .i64 0)), (.val (.int .i64 0)), (.val (.int .i64 0)), (.val (.int .i64 0))], 0, false⟩,
          ⟨none, none, .st (some 18) 4 (.tmp 18) (.tmp 142), 0, false⟩,
          ⟨(some 19), none, .mv (.tmp 143), 0, false⟩])
        (.seq (.regD [1, 5, 7, 9, 16, 17, 18, 19] 0 [
          ⟨(some 144), none, .ldA (some 16) 4 (.tmp 16), 0, false⟩,
          ⟨(some 145), none, .ldA (some 18) 4 (.tmp 18), 0, false⟩,
          ⟨(some 146), none, .eqa true [1, 1, 1, 1] (.tmp 144) (.tmp 145), 0, false⟩,
          ⟨(some 147), none, .mv (.tmp 146), 0, false⟩,
          ⟨(some 148), (some (147, false)), .mv (.tmp 17), 0, false⟩,
          ⟨(some 149), (some (147, false)), .mv (.tmp 19), 0, false⟩,
          ⟨(some 150), (some (147, false)), .eqb true (.tmp 148) (.tmp 149), 0, false⟩,
          ⟨(some 151), none, .pick (.tmp 147) (.con (.val (.bool true))) (.tmp 150), 0, false⟩,
          ⟨(some 152), none, .mv (.tmp 151), 0, false⟩,
          ⟨(some 153), (some (152, false)), .mv (.tmp 5), 0, false⟩,
          ⟨(some 154), (some (152, false)), .call 26 [(.tmp 153)], 0, false⟩,
          ⟨(some 155), (some (152, false)), .mv (.tmp 7), 0, false⟩,
          ⟨(some 156), (some (152, false)), .call 32 [(.tmp 155)], 0, false⟩,
          ⟨(some 157), (some (152, false)), .bini .neq (.tmp 154) (.tmp 156), 0, false⟩,
          ⟨(some 158), none, .pick (.tmp 152) (.con (.val (.bool true))) (.tmp 157), 0, false⟩,
          ⟨(some 159), none, .mv (.tmp 158), 0, false⟩,
          ⟨(some 160), (some (159, false)), .mv (.tmp 5), 0, false⟩,
          ⟨(some 161), (some (159, false)), .call 27 [(.tmp 160)], 0, false⟩,
          ⟨(some 162), (some (159, false)), .mv (.tmp 7), 0, false⟩,
          ⟨(some 163), (some (159, false)), .nilc (.tmp 162), 0, false⟩,
          ⟨(some 164), (some (159, false)), .fldA 5 (.tmp 163), 0, false⟩,
          ⟨(some 165), (some (159, false)), .ld1 none (.tmp 164), 0, false⟩,
          ⟨(some 166), (some (159, false)), .bini .neq (.tmp 161) (.tmp 165), 0, false⟩,
          ⟨(some 167), none, .pick (.tmp 159) (.con (.val (.bool true))) (.tmp 166), 0, false⟩])
        (.cond (.tmp 167)
          (.seq (.regN [] [
            ⟨(some 4), none, .mv (.con (.val (.bool false))), 0, false⟩])
          .ret)
          .skip))))))))))
      (.regN [1, 5, 7, 9] [
        ⟨(some 58), none, .mv (.tmp 9), 0, false⟩,
        ⟨(some 59), none, .bini .add (.tmp 58) (.con (.val (.int .i64 1))), 0, false⟩,
        ⟨(some 9), none, .mv (.tmp 59), 0, false⟩])))
def t9B : AC := (.seq (.regN [0, 1] [
    ⟨(some 2), none, .boxR 2 (.tmp 0), 0, false⟩,
    ⟨(some 4), none, .mv (.con (.val (.bool false))), 0, false⟩])
  (.seq (.seq (.regN [1, 2] [
    ⟨(some 20), none, .call 11 [], 0, false⟩,
    ⟨(some 21), none, .not (.tmp 20), 0, false⟩])
  (.cond (.tmp 21)
    (.seq (.regN [] [
      ⟨(some 4), none, .mv (.con (.val (.bool false))), 0, false⟩])
    .ret)
    .skip))
  (.seq (.seq (.regN [1, 2] [
    ⟨(some 22), none, .ldA (some 2) 2 (.tmp 2), 0, false⟩,
    ⟨(some 23), none, .call 12 [(.tmp 22), (.con (.val (.int .i64 24)))], 0, false⟩,
    ⟨(some 24), none, .not (.tmp 23), 0, false⟩,
    ⟨(some 25), none, .mv (.tmp 24), 0, false⟩,
    ⟨(some 26), (some (25, false)), .mv (.tmp 1), 0, false⟩,
    ⟨(some 27), (some (25, false)), .len false (.tmp 26), 0, false⟩,
    ⟨(some 28), (some (25, false)), .bini .gtr (.tmp 27) (.con (.val (.int .i64 40))), 0, false⟩,
    ⟨(some 29), none, .pick (.tmp 25) (.con (.val (.bool true))) (.tmp 28), 0, false⟩])
  (.cond (.tmp 29)
    (.seq (.regN [] [
      ⟨(some 4), none, .mv (.con (.val (.bool true))), 0, false⟩])
    .ret)
    .skip))
  (.seq (.regN [1, 2] [
    ⟨(some 31), none, .ldA (some 2) 2 (.tmp 2), 0, false⟩,
    ⟨(some 32), none, .call 22 [(.tmp 31)], 0, false⟩,
    ⟨(some 30), none, .mv (.tmp 32), 0, false⟩,
    ⟨(some 33), none, .ext (.tmp 30) 0, 0, false⟩,
    ⟨(some 34), none, .ext (.tmp 30) 1, 0, false⟩,
    ⟨(some 5), none, .mv (.tmp 33), 0, false⟩,
    ⟨(some 6), none, .mv (.tmp 34), 0, false⟩])
  (.seq (.regN [1, 2, 5, 6] [
    ⟨(some 36), none, .ldA (some 2) 2 (.tmp 2), 0, false⟩,
    ⟨(some 37), none, .call 28 [(.tmp 36)], 0, false⟩,
    ⟨(some 35), none, .mv (.tmp 37), 0, false⟩,
    ⟨(some 38), none, .ext (.tmp 35) 0, 0, false⟩,
    ⟨(some 39), none, .ext (.tmp 35) 1, 0, false⟩,
    ⟨(some 7), none, .mv (.tmp 38), 0, false⟩,
    ⟨(some 8), none, .mv (.tmp 39), 0, false⟩])
  (.seq (.seq (.regN [1, 5, 6, 7, 8] [
    ⟨(some 40), none, .mv (.tmp 6), 0, false⟩,
    ⟨(some 41), none, .mv (.tmp 8), 0, false⟩,
    ⟨(some 42), none, .bini .neq (.tmp 40) (.tmp 41), 0, false⟩,
    ⟨(some 43), none, .mv (.tmp 42), 0, false⟩,
    ⟨(some 44), (some (43, false)), .mv (.tmp 5), 0, false⟩,
    ⟨(some 45), (some (43, false)), .eqp false (.tmp 44) (.con (.val (.pointer none))), 0, false⟩,
    ⟨(some 46), (some (43, false)), .mv (.tmp 7), 0, false⟩,
    ⟨(some 47), (some (43, false)), .eqp false (.tmp 46) (.con (.val (.pointer none))), 0, false⟩,
    ⟨(some 48), (some (43, false)), .eqb true (.tmp 45) (.tmp 47), 0, false⟩,
    ⟨(some 49), none, .pick (.tmp 43) (.con (.val (.bool true))) (.tmp 48), 0, false⟩])
  (.cond (.tmp 49)
    (.seq (.regN [] [
      ⟨(some 4), none, .mv (.con (.val (.bool false))), 0, false⟩])
    .ret)
    .skip))
  (.seq (.seq (.regN [1, 5, 7] [
    ⟨(some 9), none, .mv (.con (.val (.int .i64 0))), 0, false⟩])
  (.block 0
    (.loop [1, 5, 7, 9] t9L2)))
  (.seq (.regN [] [
    ⟨(some 4), none, .mv (.con (.val (.bool true))), 0, false⟩])
  .ret))))))))
def t9 : AFn := ⟨2, t9B,
  [.tmp 4], true⟩
/-- viewport/viewportref06.New  -/
def t28B : AC := (.seq (.regN [0] [
    ⟨(some 1), none, .boxR 2 (.tmp 0), 0, false⟩,
    ⟨(some 2), none, .mv (.con (.val (.pointer none))), 0, false⟩,
    ⟨(some 3), none, .mv (.con (.val (.int .i64 0))), 0, false⟩])
  (.seq (.regN [1] [
    ⟨(some 5), none, .ldA (some 1) 2 (.tmp 1), 0, false⟩,
    ⟨(some 6), none, .call 13 [(.tmp 5)], 0, false⟩,
    ⟨(some 4), none, .mv (.tmp 6), 0, false⟩])
  (.seq (.seq (.regN [1, 4] [
    ⟨(some 7), none, .mv (.tmp 4), 0, false⟩,
    ⟨(some 8), none, .bini .neq (.tmp 7) (.con (.val (.int .i64 0))), 0, false⟩])
  (.cond (.tmp 8)
    (.seq (.regN [4] [
      ⟨(some 9), none, .mv (.tmp 4), 0, false⟩,
      ⟨(some 2), none, .mv (.con (.val (.pointer none))), 0, false⟩,
      ⟨(some 3), none, .mv (.tmp 9), 0, false⟩])
    .ret)
    .skip))
  (.seq (.regN [1] [
    ⟨(some 10), none, .ldA (some 1) 2 (.tmp 1), 0, false⟩,
    ⟨(some 11), none, .build [.e0, .e0, (.val (.bool false)), (.val (.bool false)), (.val (.int .i64 0)), (.val (.int .i64 0)), (.val (.int .i64 0)), (.val (.int .i64 0)), (.val (.int .i64 0)), (.val (.int .i64 0)), (.val (.int .i64 0))] [(0, 2, (.tmp 10))], 0, false⟩,
    ⟨(some 12), none, .boxH 11 (.tmp 11), 0, false⟩,
    ⟨(some 2), none, .mv (.tmp 12), 0, false⟩,
    ⟨(some 3), none, .mv (.con (.val (.int .i64 0))), 0, false⟩])
  .ret))))
def t28 : AFn := ⟨1, t28B,
  [.tmp 2, .tmp 3], false⟩
/-- (*viewport/viewportref06.Scanner).Begin  -/
def t29B : AC := (.seq (.regN [0, 1] [
    ⟨(some 4), none, .mv (.con (.val (.int .i64 0))), 0, false⟩])
  (.seq (.seq (.regN [0, 1] [
    ⟨(some 5), none, .mv (.tmp 1), 0, false⟩,
    ⟨(some 6), none, .bini .lss (.tmp 5) (.con (.val (.int .i64 0))), 0, false⟩])
  (.cond (.tmp 6)
    (.seq (.regN [] [
      ⟨(some 4), none, .mv (.con (.val (.int .i64 2))), 0, false⟩])
    .ret)
    .skip))
  (.seq (.regN [0, 1] [
    ⟨(some 7), none, .mv (.tmp 0), 0, false⟩,
    ⟨(some 8), none, .mv (.tmp 0), 0, false⟩,
    ⟨(some 9), none, .nilc (.tmp 8), 0, false⟩,
    ⟨(some 10), none, .fldA 0 (.tmp 9), 0, false⟩,
    ⟨(some 11), none, .ldA none 2 (.tmp 10), 0, false⟩,
    ⟨(some 12), none, .mv (.tmp 1), 0, false⟩,
    ⟨(some 13), none, .mv (.tmp 1), 0, false⟩,
    ⟨(some 14), none, .mv (.tmp 1), 0, false⟩,
    ⟨(some 15), none, .bini .add (.tmp 14) (.con (.val (.int .i64 1))), 0, false⟩,
    ⟨(some 16), none, .build [(.val (.int .i64 0)), (.val (.int .i64 0)), (.val (.int .i64 0)), (.val (.int .i64 0))] [(0, 1, (.con (.val (.int .i64 (-1))))), (1, 1, (.tmp 13)), (2, 1, (.tmp 15))], 0, false⟩,
    ⟨(some 17), none, .build [.e0, .e0, (.val (.bool false)), (.val (.bool false)), (.val (.int .i64 0)), (.val (.int .i64 0)), (.val (.int .i64 0)), (.val (.int .i64 0)), (.val (.int .i64 0)), (.val (.int .i64 0)), (.val (.int .i64 0))] [(0, 2, (.tmp 11)), (2, 1, (.con (.val (.bool true)))), (4, 1, (.tmp 12)), (7, 4, (.tmp 16))], 0, false⟩,
    ⟨(some 18), none, .nilc (.tmp 7), 0, false⟩,
    ⟨none, none, .st none 11 (.tmp 18) (.tmp 17), 0, false⟩])
  (.seq (.regN [] [
    ⟨(some 4), none, .mv (.con (.val (.int .i64 0))), 0, false⟩])
  .ret))))
def t29 : AFn := ⟨2, t29B,
  [.tmp 4], true⟩
/-- (*viewport/viewportref06.Scanner).Step  -/
def t30B : AC := (.seq (.regN [0, 1] [
    ⟨(some 4), none, .mv (.con (.val (.bool false))), 0, false⟩,
    ⟨(some 5), none, .mv (.con (.val (.int .i64 0))), 0, false⟩])
  (.seq (.seq (.regN [0, 1] [
    ⟨(some 7), none, .mv (.tmp 0), 0, false⟩,
    ⟨(some 8), none, .nilc (.tmp 7), 0, false⟩,
    ⟨(some 9), none, .fldA 2 (.tmp 8), 0, false⟩,
    ⟨(some 10), none, .ld1 none (.tmp 9), 0, false⟩,
    ⟨(some 11), none, .not (.tmp 10), 0, false⟩,
    ⟨(some 12), none, .mv (.tmp 11), 0, false⟩,
    ⟨(some 13), (some (12, false)), .mv (.tmp 0), 0, false⟩,
    ⟨(some 14), (some (12, false)), .nilc (.tmp 13), 0, false⟩,
    ⟨(some 15), (some (12, false)), .fldA 3 (.tmp 14), 0, false⟩,
    ⟨(some 16), (some (12, false)), .ld1 none (.tmp 15), 0, false⟩,
    ⟨(some 17), none, .pick (.tmp 12) (.con (.val (.bool true))) (.tmp 16), 0, false⟩])
  (.cond (.tmp 17)
    (.seq (.regN [] [
      ⟨(some 4), none, .mv (.con (.val (.bool false))), 0, false⟩,
      ⟨(some 5), none, .mv (.con (.val (.int .i64 9))), 0, false⟩])
    .ret)
    .skip))
  (.seq (.regD [0, 1] 0 [
    ⟨(some 18), none, .mv (.tmp 0), 0, false⟩,
    ⟨(some 19), none, .nilc (.tmp 18), 0, false⟩,
    ⟨(some 20), none, .fldA 4 (.tmp 19), 0, false⟩,
    ⟨(some 21), none, .ld1 none (.tmp 20), 0, false⟩,
    ⟨(some 22), none, .mv (.tmp 0), 0, false⟩,
    ⟨(some 23), none, .nilc (.tmp 22), 0, false⟩,
    ⟨(some 24), none, .fldA 5 (.tmp 23), 0, false⟩,
    ⟨(some 25), none, .ld1 none (.tmp 24), 0, false⟩,
    ⟨(some 26), none, .bini .add (.tmp 21) (.tmp 25), 0, false⟩,
    ⟨(some 6), none, .mv (.tmp 26), 0, false⟩])
  (.seq (.seq (.regN [0, 1, 6] [
    ⟨(some 27), none, .mv (.tmp 0), 0, false⟩,
    ⟨(some 28), none, .nilc (.tmp 27), 0, false⟩,
    ⟨(some 29), none, .fldA 4 (.tmp 28), 0, false⟩,
    ⟨(some 30), none, .ld1 none (.tmp 29), 0, false⟩,
    ⟨(some 31), none, .mv (.tmp 1), 0, false⟩,
    ⟨(some 32), none, .len true (.tmp 31), 0, false⟩,
    ⟨(some 33), none, .bini .geq (.tmp 30) (.tmp 32), 0, false⟩,
    ⟨(some 34), none, .mv (.tmp 33), 0, false⟩,
    ⟨(some 35), (some (34, false)), .mv (.tmp 6), 0, false⟩,
    ⟨(some 36), (some (34, false)), .mv (.tmp 1), 0, false⟩,
    ⟨(some 37), (some (34, false)), .len true (.tmp 36), 0, false⟩,
    ⟨(some 38), (some (34, false)), .bini .gtr (.tmp 35) (.tmp 37), 0, false⟩,
    ⟨(some 39), none, .pick (.tmp 34) (.con (.val (.bool true))) (.tmp 38), 0, false⟩])
  (.cond (.tmp 39)
    (.seq (.regN [] [
      ⟨(some 4), none, .mv (.con (.val (.bool false))), 0, false⟩,
      ⟨(some 5), none, .mv (.con (.val (.int .i64 2))), 0, false⟩])
    .ret)
    .skip))
  (.seq (.regN [0, 1, 6] [
    ⟨(some 40), none, .mv (.tmp 0), 0, false⟩,
    ⟨(some 41), none, .nilc (.tmp 40), 0, false⟩,
    ⟨(some 42), none, .fldA 5 (.tmp 41), 0, false⟩,
    ⟨(some 43), none, .ld1 none (.tmp 42), 0, false⟩,
    ⟨(some 44), none, .bini .add (.tmp 43) (.con (.val (.int .i64 1))), 0, false⟩,
    ⟨(some 45), none, .nilc (.tmp 40), 0, false⟩,
    ⟨(some 46), none, .fldA 5 (.tmp 45), 0, false⟩,
    ⟨none, none, .st none 1 (.tmp 46) (.tmp 44), 0, false⟩])
  (.seq (.seq (.regN [0, 1, 6] [
    ⟨(some 47), none, .mv (.tmp 6), 0, false⟩,
    ⟨(some 48), none, .mv (.tmp 1), 0, false⟩,
    ⟨(some 49), none, .len true (.tmp 48), 0, false⟩,
    ⟨(some 50), none, .bini .eql (.tmp 47) (.tmp 49), 0, false⟩])
  (.cond (.tmp 50)
    (.regN [0] [
      ⟨(some 51), none, .mv (.tmp 0), 0, false⟩,
      ⟨(some 52), none, .nilc (.tmp 51), 0, false⟩,
      ⟨(some 53), none, .fldA 3 (.tmp 52), 0, false⟩,
      ⟨none, none, .st none 1 (.tmp 53) (.con (.val (.bool true))), 0, false⟩])
    (.seq (.regD [0, 1, 6] 0 [
      ⟨(some 54), none, .mv (.tmp 0), 0, false⟩,
      ⟨(some 55), none, .mv (.tmp 0), 0, false⟩,
      ⟨(some 56), none, .nilc (.tmp 55), 0, false⟩,
      ⟨(some 57), none, .fldA 0 (.tmp 56), 0, false⟩,
      ⟨(some 58), none, .fldA 0 (.tmp 57), 0, false⟩,
      ⟨(some 59), none, .ld1 none (.tmp 58), 0, false⟩,
      ⟨(some 60), none, .mv (.tmp 0), 0, false⟩,
      ⟨(some 61), none, .nilc (.tmp 60), 0, false⟩,
      ⟨(some 62), none, .fldA 6 (.tmp 61), 0, false⟩,
      ⟨(some 63), none, .ld1 none (.tmp 62), 0, false⟩,
      ⟨(some 64), none, .bini .mul (.con (.val (.int .i64 256))) (.tmp 63), 0, false⟩,
      ⟨(some 65), none, .mv (.tmp 1), 0, false⟩,
      ⟨(some 66), none, .mv (.tmp 6), 0, false⟩,
      ⟨(some 67), none, .ixS (.tmp 65) (.tmp 66), 0, false⟩,
      ⟨(some 68), none, .cvi .i64 (.tmp 67), 0, false⟩,
      ⟨(some 69), none, .bini .add (.tmp 64) (.tmp 68), 0, false⟩,
      ⟨(some 70), none, .ixA 1 (.tmp 59) (.tmp 69), 0, false⟩,
      ⟨(some 71), none, .ld1 none (.tmp 70), 0, false⟩,
      ⟨(some 72), none, .nilc (.tmp 54), 0, false⟩,
      ⟨(some 73), none, .fldA 6 (.tmp 72), 0, false⟩,
      ⟨none, none, .st none 1 (.tmp 73) (.tmp 71), 0, false⟩])
    (.seq (.regN [0, 6] [
      ⟨(some 74), none, .mv (.tmp 0), 0, false⟩,
      ⟨(some 75), none, .nilc (.tmp 74), 0, false⟩,
      ⟨(some 76), none, .fldA 6 (.tmp 75), 0, false⟩,
      ⟨(some 77), none, .ld1 none (.tmp 76), 0, false⟩,
      ⟨(some 78), none, .bini .lss (.tmp 77) (.con (.val (.int .i64 0))), 0, false⟩])
    (.cond (.tmp 78)
      (.regN [0] [
        ⟨(some 79), none, .mv (.tmp 0), 0, false⟩,
        ⟨(some 80), none, .nilc (.tmp 79), 0, false⟩,
        ⟨(some 81), none, .fldA 3 (.tmp 80), 0, false⟩,
        ⟨none, none, .st none 1 (.tmp 81) (.con (.val (.bool true))), 0, false⟩])
      (.seq (.regD [0, 6] 0 [
        ⟨(some 82), none, .mv (.tmp 0), 0, false⟩,
        ⟨(some 83), none, .nilc (.tmp 82), 0, false⟩,
        ⟨(some 84), none, .fldA 0 (.tmp 83), 0, false⟩,
        ⟨(some 85), none, .fldA 1 (.tmp 84), 0, false⟩,
        ⟨(some 86), none, .ld1 none (.tmp 85), 0, false⟩,
        ⟨(some 87), none, .mv (.tmp 0), 0, false⟩,
        ⟨(some 88), none, .nilc (.tmp 87), 0, false⟩,
        ⟨(some 89), none, .fldA 6 (.tmp 88), 0, false⟩,
        ⟨(some 90), none, .ld1 none (.tmp 89), 0, false⟩,
        ⟨(some 91), none, .ixA 1 (.tmp 86) (.tmp 90), 0, false⟩,
        ⟨(some 92), none, .ld1 none (.tmp 91), 0, false⟩,
        ⟨(some 93), none, .bini .geq (.tmp 92) (.con (.val (.int .i64 0))), 0, false⟩])
      (.cond (.tmp 93)
        (.regD [0, 6] 0 [
          ⟨(some 94), none, .mv (.tmp 0), 0, false⟩,
          ⟨(some 95), none, .mv (.tmp 0), 0, false⟩,
          ⟨(some 96), none, .mv (.tmp 0), 0, false⟩,
          ⟨(some 97), none, .nilc (.tmp 96), 0, false⟩,
          ⟨(some 98), none, .fldA 0 (.tmp 97), 0, false⟩,
          ⟨(some 99), none, .fldA 1 (.tmp 98), 0, false⟩,
          ⟨(some 100), none, .ld1 none (.tmp 99), 0, false⟩,
          ⟨(some 101), none, .mv (.tmp 0), 0, false⟩,
          ⟨(some 102), none, .nilc (.tmp 101), 0, false⟩,
          ⟨(some 103), none, .fldA 6 (.tmp 102), 0, false⟩,
          ⟨(some 104), none, .ld1 none (.tmp 103), 0, false⟩,
          ⟨(some 105), none, .ixA 1 (.tmp 100) (.tmp 104), 0, false⟩,
          ⟨(some 106), none, .ld1 none (.tmp 105), 0, false⟩,
          ⟨(some 107), none, .mv (.tmp 6), 0, false⟩,
          ⟨(some 108), none, .bini .add (.tmp 107) (.con (.val (.int .i64 1))), 0, false⟩,
          ⟨(some 109), none, .nilc (.tmp 94), 0, false⟩,
          ⟨(some 110), none, .fldA 7 (.tmp 109), 0, false⟩,
          ⟨(some 111), none, .fldA 0 (.tmp 110), 0, false⟩,
          ⟨none, none, .st none 1 (.tmp 111) (.tmp 106), 0, false⟩,
          ⟨(some 112), none, .nilc (.tmp 95), 0, false⟩,
          ⟨(some 113), none, .fldA 7 (.tmp 112), 0, false⟩,
          ⟨(some 114), none, .fldA 2 (.tmp 113), 0, false⟩,
          ⟨none, none, .st none 1 (.tmp 114) (.tmp 108), 0, false⟩])
        .skip)))))))
  (.seq (.regN [0] [
    ⟨(some 115), none, .mv (.tmp 0), 0, false⟩,
    ⟨(some 116), none, .nilc (.tmp 115), 0, false⟩,
    ⟨(some 117), none, .fldA 3 (.tmp 116), 0, false⟩,
    ⟨(some 118), none, .ld1 none (.tmp 117), 0, false⟩,
    ⟨(some 4), none, .mv (.tmp 118), 0, false⟩,
    ⟨(some 5), none, .mv (.con (.val (.int .i64 0))), 0, false⟩])
  .ret)))))))
def t30 : AFn := ⟨2, t30B,
  [.tmp 4, .tmp 5], true⟩
/-- (*viewport/viewportref06.Scanner).Lexeme  -/
def t31B : AC := (.seq (.regN [0] [
    ⟨(some 2), none, .allocR [(.val (.int .i64 0)), (.val (.int .i64 0)), (.val (.int .i64 0)), (.val (.int .i64 0))], 0, false⟩,
    ⟨(some 3), none, .mv (.con (.val (.bool false))), 0, false⟩])
  (.seq (.seq (.regN [0, 2] [
    ⟨(some 5), none, .mv (.tmp 0), 0, false⟩,
    ⟨(some 6), none, .nilc (.tmp 5), 0, false⟩,
    ⟨(some 7), none, .fldA 3 (.tmp 6), 0, false⟩,
    ⟨(some 8), none, .ld1 none (.tmp 7), 0, false⟩,
    ⟨(some 9), none, .not (.tmp 8), 0, false⟩])
  (.cond (.tmp 9)
    (.seq (.regN [2] [
      ⟨(some 10), none, .build [(.val (.int .i64 0)), (.val (.int .i64 0)), (.val (.int .i64 0)), (.val (.int .i64 0))] [], 0, false⟩,
      ⟨none, none, .st (some 2) 4 (.tmp 2) (.tmp 10), 0, false⟩,
      ⟨(some 3), none, .mv (.con (.val (.bool false))), 0, false⟩])
    .ret)
    .skip))
  (.seq (.regN [0, 2] [
    ⟨(some 11), none, .mv (.tmp 0), 0, false⟩,
    ⟨(some 12), none, .nilc (.tmp 11), 0, false⟩,
    ⟨(some 13), none, .fldA 7 (.tmp 12), 0, false⟩,
    ⟨(some 14), none, .ldA none 4 (.tmp 13), 0, false⟩,
    ⟨(some 4), none, .allocR [(.val (.int .i64 0)), (.val (.int .i64 0)), (.val (.int .i64 0)), (.val (.int .i64 0))], 0, false⟩,
    ⟨none, none, .st (some 4) 4 (.tmp 4) (.tmp 14), 0, false⟩])
  (.seq (.regD [0, 2, 4] 0 [
    ⟨(some 15), none, .mv (.tmp 0), 0, false⟩,
    ⟨(some 16), none, .nilc (.tmp 15), 0, false⟩,
    ⟨(some 17), none, .fldA 4 (.tmp 16), 0, false⟩,
    ⟨(some 18), none, .ld1 none (.tmp 17), 0, false⟩,
    ⟨(some 19), none, .mv (.tmp 0), 0, false⟩,
    ⟨(some 20), none, .nilc (.tmp 19), 0, false⟩,
    ⟨(some 21), none, .fldA 5 (.tmp 20), 0, false⟩,
    ⟨(some 22), none, .ld1 none (.tmp 21), 0, false⟩,
    ⟨(some 23), none, .bini .add (.tmp 18) (.tmp 22), 0, false⟩,
    ⟨(some 24), none, .fldA 3 (.tmp 4), 0, false⟩,
    ⟨none, none, .st (some 4) 1 (.tmp 24) (.tmp 23), 0, false⟩])
  (.seq (.regN [2, 4] [
    ⟨(some 25), none, .ldA (some 4) 4 (.tmp 4), 0, false⟩,
    ⟨none, none, .st (some 2) 4 (.tmp 2) (.tmp 25), 0, false⟩,
    ⟨(some 3), none, .mv (.con (.val (.bool true))), 0, false⟩])
  .ret)))))
def t31 : AFn := ⟨1, t31B,
  [.cell 2 4 true, .tmp 3], true⟩
/-- (*viewport/viewportref06.Scanner).Ext  -/
def t32B : AC := (.seq (.regN [0] [
    ⟨(some 2), none, .mv (.con (.val (.int .i64 0))), 0, false⟩])
  (.seq (.regD [0] 0 [
    ⟨(some 3), none, .mv (.tmp 0), 0, false⟩,
    ⟨(some 4), none, .nilc (.tmp 3), 0, false⟩,
    ⟨(some 5), none, .fldA 4 (.tmp 4), 0, false⟩,
    ⟨(some 6), none, .ld1 none (.tmp 5), 0, false⟩,
    ⟨(some 7), none, .mv (.tmp 0), 0, false⟩,
    ⟨(some 8), none, .nilc (.tmp 7), 0, false⟩,
    ⟨(some 9), none, .fldA 5 (.tmp 8), 0, false⟩,
    ⟨(some 10), none, .ld1 none (.tmp 9), 0, false⟩,
    ⟨(some 11), none, .bini .add (.tmp 6) (.tmp 10), 0, false⟩,
    ⟨(some 2), none, .mv (.tmp 11), 0, false⟩])
  .ret))
def t32 : AFn := ⟨1, t32B,
  [.tmp 2], true⟩
/-- viewport/viewportlaw06.MunchStepped  -/
def t10L1 : AC := (.seq (.seq (.regN [1, 2, 7, 9, 11] [
        ⟨(some 78), none, .mv (.tmp 11), 0, false⟩,
        ⟨(some 79), none, .fldA 3 (.tmp 7), 0, false⟩,
        ⟨(some 80), none, .ld1 (some 7) (.tmp 79), 0, false⟩,
        ⟨(some 81), none, .mv (.tmp 2), 0, false⟩,
        ⟨(some 82), none, .bini .sub (.tmp 80) (.tmp 81), 0, false⟩,
        ⟨(some 83), none, .bini .leq (.tmp 78) (.tmp 82), 0, false⟩])
      (.cond (.tmp 83)
        .skip
        (.exit 0)))
      (.seq (.block 1
        (.seq (.regN [1, 2, 7, 9, 11] [
          ⟨(some 87), none, .mv (.tmp 9), 0, false⟩,
          ⟨(some 88), none, .call 25 [(.tmp 87)], 0, false⟩,
          ⟨(some 86), none, .mv (.tmp 88), 0, false⟩,
          ⟨(some 89), none, .ext (.tmp 86) 0, 0, false⟩,
          ⟨(some 90), none, .ext (.tmp 86) 1, 0, false⟩,
          ⟨(some 12), none, .allocR [(.val (.int .i64 0)), (.val (.int .i64 0)), (.val (.int .i64 0)), (.val (.int .i64 0))], 0, false⟩,
          ⟨none, none, .st (some 12) 4 (.tmp 12) (.tmp 89), 0, false⟩,
          ⟨(some 13), none, .mv (.tmp 90), 0, false⟩])
        (.seq (.regN [1, 2, 7, 9, 11, 13] [
          ⟨(some 92), none, .mv (.tmp 9), 0, false⟩,
          ⟨(some 93), none, .mv (.tmp 1), 0, false⟩,
          ⟨(some 94), none, .call 23 [(.tmp 92), (.tmp 93)], 0, false⟩,
          ⟨(some 91), none, .mv (.tmp 94), 0, false⟩,
          ⟨(some 95), none, .ext (.tmp 91) 0, 0, false⟩,
          ⟨(some 96), none, .ext (.tmp 91) 1, 0, false⟩,
          ⟨(some 14), none, .mv (.tmp 95), 0, false⟩,
          ⟨(some 15), none, .mv (.tmp 96), 0, false⟩])
        (.seq (.regN [1, 2, 7, 9, 11, 13, 14, 15] [
          ⟨(some 97), none, .mv (.tmp 13), 0, false⟩,
          ⟨(some 98), none, .mv (.tmp 97), 0, false⟩,
          ⟨(some 99), (some (98, false)), .mv (.tmp 15), 0, false⟩,
          ⟨(some 100), (some (98, false)), .bini .neq (.tmp 99) (.con (.val (.int .i64 0))), 0, false⟩,
          ⟨(some 101), none, .pick (.tmp 98) (.con (.val (.bool true))) (.tmp 100), 0, false⟩,
          ⟨(some 102), none, .mv (.tmp 101), 0, false⟩,
          ⟨(some 103), (some (102, false)), .mv (.tmp 14), 0, false⟩,
          ⟨(some 104), (some (102, false)), .mv (.tmp 11), 0, false⟩,
          ⟨(some 105), (some (102, false)), .fldA 3 (.tmp 7), 0, false⟩,
          ⟨(some 106), (some (102, false)), .ld1 (some 7) (.tmp 105), 0, false⟩,
          ⟨(some 107), (some (102, false)), .mv (.tmp 2), 0, false⟩,
          ⟨(some 108), (some (102, false)), .bini .sub (.tmp 106) (.tmp 107), 0, false⟩,
          ⟨(some 109), (some (102, false)), .bini .eql (.tmp 104) (.tmp 108), 0, false⟩,
          ⟨(some 110), (some (102, false)), .eqb true (.tmp 103) (.tmp 109), 0, false⟩,
          ⟨(some 111), none, .pick (.tmp 102) (.con (.val (.bool true))) (.tmp 110), 0, false⟩,
          ⟨(some 112), none, .mv (.tmp 111), 0, false⟩,
          ⟨(some 113), (some (112, false)), .mv (.tmp 9), 0, false⟩,
          ⟨(some 114), (some (112, false)), .call 26 [(.tmp 113)], 0, false⟩,
          ⟨(some 115), (some (112, false)), .mv (.tmp 2), 0, false⟩,
          ⟨(some 116), (some (112, false)), .mv (.tmp 11), 0, false⟩,
          ⟨(some 117), (some (112, false)), .bini .add (.tmp 115) (.tmp 116), 0, false⟩,
          ⟨(some 118), (some (112, false)), .bini .neq (.tmp 114) (.tmp 117), 0, false⟩,
          ⟨(some 119), none, .pick (.tmp 112) (.con (.val (.bool true))) (.tmp 118), 0, false⟩,
          ⟨(some 120), none, .mv (.tmp 119), 0, false⟩,
          ⟨(some 121), (some (120, false)), .mv (.tmp 9), 0, false⟩,
          ⟨(some 122), (some (120, false)), .call 27 [(.tmp 121)], 0, false⟩,
          ⟨(some 123), (some (120, false)), .mv (.tmp 11), 0, false⟩,
          ⟨(some 124), (some (120, false)), .bini .neq (.tmp 122) (.tmp 123), 0, false⟩,
          ⟨(some 125), none, .pick (.tmp 120) (.con (.val (.bool true))) (.tmp 124), 0, false⟩])
        (.cond (.tmp 125)
          (.seq (.regN [] [
            ⟨(some 6), none, .mv (.con (.val (.bool false))), 0, false⟩])
          .ret)
          .skip)))))
      (.regN [1, 2, 7, 9, 11] [
        ⟨(some 84), none, .mv (.tmp 11), 0, false⟩,
        ⟨(some 85), none, .bini .add (.tmp 84) (.con (.val (.int .i64 1))), 0, false⟩,
        ⟨(some 11), none, .mv (.tmp 85), 0, false⟩])))
def t10B : AC := (.seq (.regN [0, 1, 2] [
    ⟨(some 3), none, .boxR 2 (.tmp 0), 0, false⟩,
    ⟨(some 6), none, .mv (.con (.val (.bool false))), 0, false⟩])
  (.seq (.seq (.regN [1, 2, 3] [
    ⟨(some 18), none, .call 11 [], 0, false⟩,
    ⟨(some 19), none, .not (.tmp 18), 0, false⟩])
  (.cond (.tmp 19)
    (.seq (.regN [] [
      ⟨(some 6), none, .mv (.con (.val (.bool false))), 0, false⟩])
    .ret)
    .skip))
  (.seq (.seq (.regN [1, 2, 3] [
    ⟨(some 20), none, .ldA (some 3) 2 (.tmp 3), 0, false⟩,
    ⟨(some 21), none, .call 12 [(.tmp 20), (.con (.val (.int .i64 24)))], 0, false⟩,
    ⟨(some 22), none, .not (.tmp 21), 0, false⟩,
    ⟨(some 23), none, .mv (.tmp 22), 0, false⟩,
    ⟨(some 24), (some (23, false)), .mv (.tmp 1), 0, false⟩,
    ⟨(some 25), (some (23, false)), .len true (.tmp 24), 0, false⟩,
    ⟨(some 26), (some (23, false)), .bini .gtr (.tmp 25) (.con (.val (.int .i64 60))), 0, false⟩,
    ⟨(some 27), none, .pick (.tmp 23) (.con (.val (.bool true))) (.tmp 26), 0, false⟩,
    ⟨(some 28), none, .mv (.tmp 27), 0, false⟩,
    ⟨(some 29), (some (28, false)), .mv (.tmp 1), 0, false⟩,
    ⟨(some 30), (some (28, false)), .len true (.tmp 29), 0, false⟩,
    ⟨(some 31), (some (28, false)), .bini .eql (.tmp 30) (.con (.val (.int .i64 0))), 0, false⟩,
    ⟨(some 32), none, .pick (.tmp 28) (.con (.val (.bool true))) (.tmp 31), 0, false⟩,
    ⟨(some 33), none, .mv (.tmp 32), 0, false⟩,
    ⟨(some 34), (some (33, false)), .ldA (some 3) 2 (.tmp 3), 0, false⟩,
    ⟨(some 35), (some (33, false)), .call 13 [(.tmp 34)], 0, false⟩,
    ⟨(some 36), (some (33, false)), .bini .neq (.tmp 35) (.con (.val (.int .i64 0))), 0, false⟩,
    ⟨(some 37), none, .pick (.tmp 33) (.con (.val (.bool true))) (.tmp 36), 0, false⟩])
  (.cond (.tmp 37)
    (.seq (.regN [] [
      ⟨(some 6), none, .mv (.con (.val (.bool true))), 0, false⟩])
    .ret)
    .skip))
  (.seq (.regN [1, 2, 3] [
    ⟨(some 38), none, .mv (.tmp 2), 0, false⟩,
    ⟨(some 39), none, .mv (.tmp 1), 0, false⟩,
    ⟨(some 40), none, .len true (.tmp 39), 0, false⟩,
    ⟨(some 41), none, .call 15 [(.tmp 38), (.tmp 40)], 0, false⟩,
    ⟨(some 2), none, .mv (.tmp 41), 0, false⟩])
  (.seq (.regN [1, 2, 3] [
    ⟨(some 43), none, .ldA (some 3) 2 (.tmp 3), 0, false⟩,
    ⟨(some 44), none, .mv (.tmp 1), 0, false⟩,
    ⟨(some 45), none, .mv (.tmp 2), 0, false⟩,
    ⟨(some 46), none, .call 17 [(.tmp 43), (.tmp 44), (.tmp 45)], 0, false⟩,
    ⟨(some 42), none, .mv (.tmp 46), 0, false⟩,
    ⟨(some 47), none, .ext (.tmp 42) 0, 0, false⟩,
    ⟨(some 48), none, .ext (.tmp 42) 1, 0, false⟩,
    ⟨(some 7), none, .allocR [(.val (.int .i64 0)), (.val (.int .i64 0)), (.val (.int .i64 0)), (.val (.int .i64 0))], 0, false⟩,
    ⟨none, none, .st (some 7) 4 (.tmp 7) (.tmp 47), 0, false⟩,
    ⟨(some 8), none, .mv (.tmp 48), 0, false⟩])
  (.seq (.regN [1, 2, 3, 7, 8] [
    ⟨(some 50), none, .ldA (some 3) 2 (.tmp 3), 0, false⟩,
    ⟨(some 51), none, .call 22 [(.tmp 50)], 0, false⟩,
    ⟨(some 49), none, .mv (.tmp 51), 0, false⟩,
    ⟨(some 52), none, .ext (.tmp 49) 0, 0, false⟩,
    ⟨(some 53), none, .ext (.tmp 49) 1, 0, false⟩,
    ⟨(some 9), none, .mv (.tmp 52), 0, false⟩,
    ⟨(some 10), none, .mv (.tmp 53), 0, false⟩])
  (.seq (.seq (.regN [1, 2, 7, 8, 9, 10] [
    ⟨(some 54), none, .mv (.tmp 8), 0, false⟩,
    ⟨(some 55), none, .not (.tmp 54), 0, false⟩,
    ⟨(some 56), none, .mv (.tmp 55), 0, false⟩,
    ⟨(some 57), (some (56, false)), .fldA 3 (.tmp 7), 0, false⟩,
    ⟨(some 58), (some (56, false)), .ld1 (some 7) (.tmp 57), 0, false⟩,
    ⟨(some 59), (some (56, false)), .mv (.tmp 1), 0, false⟩,
    ⟨(some 60), (some (56, false)), .len true (.tmp 59), 0, false⟩,
    ⟨(some 61), (some (56, false)), .bini .add (.tmp 60) (.con (.val (.int .i64 1))), 0, false⟩,
    ⟨(some 62), (some (56, false)), .bini .gtr (.tmp 58) (.tmp 61), 0, false⟩,
    ⟨(some 63), none, .pick (.tmp 56) (.con (.val (.bool true))) (.tmp 62), 0, false⟩,
    ⟨(some 64), none, .mv (.tmp 63), 0, false⟩,
    ⟨(some 65), (some (64, false)), .mv (.tmp 10), 0, false⟩,
    ⟨(some 66), (some (64, false)), .bini .neq (.tmp 65) (.con (.val (.int .i64 0))), 0, false⟩,
    ⟨(some 67), none, .pick (.tmp 64) (.con (.val (.bool true))) (.tmp 66), 0, false⟩,
    ⟨(some 68), none, .mv (.tmp 67), 0, false⟩,
    ⟨(some 69), (some (68, false)), .mv (.tmp 9), 0, false⟩,
    ⟨(some 70), (some (68, false)), .eqp false (.tmp 69) (.con (.val (.pointer none))), 0, false⟩,
    ⟨(some 71), none, .pick (.tmp 68) (.con (.val (.bool true))) (.tmp 70), 0, false⟩,
    ⟨(some 72), none, .mv (.tmp 71), 0, false⟩,
    ⟨(some 73), (some (72, false)), .mv (.tmp 9), 0, false⟩,
    ⟨(some 74), (some (72, false)), .mv (.tmp 2), 0, false⟩,
    ⟨(some 75), (some (72, false)), .call 24 [(.tmp 73), (.tmp 74)], 0, false⟩,
    ⟨(some 76), (some (72, false)), .bini .neq (.tmp 75) (.con (.val (.int .i64 0))), 0, false⟩,
    ⟨(some 77), none, .pick (.tmp 72) (.con (.val (.bool true))) (.tmp 76), 0, false⟩])
  (.cond (.tmp 77)
    (.seq (.regN [] [
      ⟨(some 6), none, .mv (.con (.val (.bool false))), 0, false⟩])
    .ret)
    .skip))
  (.seq (.seq (.regN [1, 2, 7, 9] [
    ⟨(some 11), none, .mv (.con (.val (.int .i64 1))), 0, false⟩])
  (.block 0
    (.loop [1, 2, 7, 9, 11] t10L1)))
  (.seq (.regN [7, 9] [
    ⟨(some 127), none, .mv (.tmp 9), 0, false⟩,
    ⟨(some 128), none, .call 25 [(.tmp 127)], 0, false⟩,
    ⟨(some 126), none, .mv (.tmp 128), 0, false⟩,
    ⟨(some 129), none, .ext (.tmp 126) 0, 0, false⟩,
    ⟨(some 130), none, .ext (.tmp 126) 1, 0, false⟩,
    ⟨(some 16), none, .allocR [(.val (.int .i64 0)), (.val (.int .i64 0)), (.val (.int .i64 0)), (.val (.int .i64 0))], 0, false⟩,
    ⟨none, none, .st (some 16) 4 (.tmp 16) (.tmp 129), 0, false⟩,
    ⟨(some 17), none, .mv (.tmp 130), 0, false⟩])
  (.seq (.regN [7, 16, 17] [
    ⟨(some 131), none, .mv (.tmp 17), 0, false⟩,
    ⟨(some 132), none, .mv (.tmp 131), 0, false⟩,
    ⟨(some 133), (some (132, true)), .ldA (some 16) 4 (.tmp 16), 0, false⟩,
    ⟨(some 134), (some (132, true)), .ldA (some 7) 4 (.tmp 7), 0, false⟩,
    ⟨(some 135), (some (132, true)), .eqa false [1, 1, 1, 1] (.tmp 133) (.tmp 134), 0, false⟩,
    ⟨(some 136), none, .pick (.tmp 132) (.tmp 135) (.con (.val (.bool false))), 0, false⟩,
    ⟨(some 6), none, .mv (.tmp 136), 0, false⟩])
  .ret))))))))))
def t10 : AFn := ⟨3, t10B,
  [.tmp 6], true⟩
end Go.Proofs.Ytoiolinclpiohaa
