/- The functions of a program, compiled: printed by wip/hm/tools/Gen.lean. -/
import Derived.Test.YtikedgpcgacgoaaHmG10
import Derived.Test.YtikedgpcgacgoaaRows
namespace Go.Proofs.Ytikedgpcgacgoaa
open Go Go.Hm
/-- viewport/viewportlaw11.GramLeft  -/
def t3L1 : AC := (.seq (.seq (.regN [1, 3, 4, 5] [
        ⟨(some 35), none, .mv (.tmp 5), 0, false⟩,
        ⟨(some 36), none, .fldA 1 (.tmp 1), 0, false⟩,
        ⟨(some 37), none, .ld1 (some 1) (.tmp 36), 0, false⟩,
        ⟨(some 38), none, .bini .lss (.tmp 35) (.tmp 37), 0, false⟩])
      (.cond (.tmp 38)
        .skip
        (.exit 0)))
      (.seq (.block 1
        (.regN [1, 3, 4, 5] [
          ⟨(some 41), none, .mv (.tmp 4), 0, false⟩,
          ⟨(some 42), none, .mv (.tmp 5), 0, false⟩,
          ⟨(some 43), none, .fldA 1 (.tmp 1), 0, false⟩,
          ⟨(some 44), none, .ld1 (some 1) (.tmp 43), 0, false⟩,
          ⟨(some 45), none, .mks 1 1 [(.val (.bool false))] (.tmp 44), 0, false⟩,
          ⟨(some 46), none, .ixA 1 (.tmp 41) (.tmp 42), 0, false⟩,
          ⟨none, none, .st none 1 (.tmp 46) (.tmp 45), 0, false⟩]))
      (.regN [1, 3, 4, 5] [
        ⟨(some 39), none, .mv (.tmp 5), 0, false⟩,
        ⟨(some 40), none, .bini .add (.tmp 39) (.con (.val (.int .i64 1))), 0, false⟩,
        ⟨(some 5), none, .mv (.tmp 40), 0, false⟩])))
def t3L2 : AC := (.seq (.seq (.regN [1, 3, 4, 6, 7, 8, 9, 10, 11] [
                          ⟨(some 108), none, .mv (.tmp 11), 0, false⟩,
                          ⟨(some 109), none, .fldA 1 (.tmp 1), 0, false⟩,
                          ⟨(some 110), none, .ld1 (some 1) (.tmp 109), 0, false⟩,
                          ⟨(some 111), none, .bini .lss (.tmp 108) (.tmp 110), 0, false⟩])
                        (.cond (.tmp 111)
                          .skip
                          (.exit 8)))
                        (.seq (.block 9
                          (.regD [1, 3, 4, 6, 7, 8, 9, 10, 11] 0 [
                            ⟨(some 114), none, .mv (.tmp 4), 0, false⟩,
                            ⟨(some 115), none, .fldA 0 (.tmp 8), 0, false⟩,
                            ⟨(some 116), none, .ld1 (some 8) (.tmp 115), 0, false⟩,
                            ⟨(some 117), none, .ixA 1 (.tmp 114) (.tmp 116), 0, false⟩,
                            ⟨(some 118), none, .ld1 none (.tmp 117), 0, false⟩,
                            ⟨(some 119), none, .mv (.tmp 11), 0, false⟩,
                            ⟨(some 120), none, .mv (.tmp 4), 0, false⟩,
                            ⟨(some 121), none, .fldA 0 (.tmp 8), 0, false⟩,
                            ⟨(some 122), none, .ld1 (some 8) (.tmp 121), 0, false⟩,
                            ⟨(some 123), none, .ixA 1 (.tmp 120) (.tmp 122), 0, false⟩,
                            ⟨(some 124), none, .ld1 none (.tmp 123), 0, false⟩,
                            ⟨(some 125), none, .mv (.tmp 11), 0, false⟩,
                            ⟨(some 126), none, .ixA 1 (.tmp 124) (.tmp 125), 0, false⟩,
                            ⟨(some 127), none, .ld1 none (.tmp 126), 0, false⟩,
                            ⟨(some 128), none, .mv (.tmp 127), 0, false⟩,
                            ⟨(some 129), (some (128, false)), .mv (.tmp 4), 0, false⟩,
                            ⟨(some 130), (some (128, false)), .mv (.tmp 10), 0, false⟩,
                            ⟨(some 131), (some (128, false)), .ixA 1 (.tmp 129) (.tmp 130), 0, false⟩,
                            ⟨(some 132), (some (128, false)), .ld1 none (.tmp 131), 0, false⟩,
                            ⟨(some 133), (some (128, false)), .mv (.tmp 11), 0, false⟩,
                            ⟨(some 134), (some (128, false)), .ixA 1 (.tmp 132) (.tmp 133), 0, false⟩,
                            ⟨(some 135), (some (128, false)), .ld1 none (.tmp 134), 0, false⟩,
                            ⟨(some 136), none, .pick (.tmp 128) (.con (.val (.bool true))) (.tmp 135), 0, false⟩,
                            ⟨(some 137), none, .ixA 1 (.tmp 118) (.tmp 119), 0, false⟩,
                            ⟨none, none, .st none 1 (.tmp 137) (.tmp 136), 0, false⟩]))
                        (.regN [1, 3, 4, 6, 7, 8, 9, 10, 11] [
                          ⟨(some 112), none, .mv (.tmp 11), 0, false⟩,
                          ⟨(some 113), none, .bini .add (.tmp 112) (.con (.val (.int .i64 1))), 0, false⟩,
                          ⟨(some 11), none, .mv (.tmp 113), 0, false⟩])))
def t3L3 : AC := (.seq (.seq (.regN [1, 3, 4, 6, 7, 8, 9] [
                    ⟨(some 65), none, .mv (.tmp 9), 0, false⟩,
                    ⟨(some 66), none, .fldA 1 (.tmp 8), 0, false⟩,
                    ⟨(some 67), none, .ld1 (some 8) (.tmp 66), 0, false⟩,
                    ⟨(some 68), none, .len false (.tmp 67), 0, false⟩,
                    ⟨(some 69), none, .bini .lss (.tmp 65) (.tmp 68), 0, false⟩])
                  (.cond (.tmp 69)
                    .skip
                    (.exit 6)))
                  (.seq (.block 7
                    (.seq (.regD [1, 3, 4, 6, 7, 8, 9] 0 [
                      ⟨(some 72), none, .fldA 1 (.tmp 8), 0, false⟩,
                      ⟨(some 73), none, .ld1 (some 8) (.tmp 72), 0, false⟩,
                      ⟨(some 74), none, .mv (.tmp 9), 0, false⟩,
                      ⟨(some 75), none, .ixA 1 (.tmp 73) (.tmp 74), 0, false⟩,
                      ⟨(some 76), none, .ld1 none (.tmp 75), 0, false⟩,
                      ⟨(some 77), none, .fldA 0 (.tmp 1), 0, false⟩,
                      ⟨(some 78), none, .ld1 (some 1) (.tmp 77), 0, false⟩,
                      ⟨(some 79), none, .bini .sub (.tmp 76) (.tmp 78), 0, false⟩,
                      ⟨(some 10), none, .mv (.tmp 79), 0, false⟩])
                    (.seq (.seq (.regD [1, 3, 4, 6, 7, 8, 9, 10] 0 [
                      ⟨(some 80), none, .mv (.tmp 10), 0, false⟩,
                      ⟨(some 81), none, .bini .lss (.tmp 80) (.con (.val (.int .i64 0))), 0, false⟩,
                      ⟨(some 82), none, .mv (.tmp 81), 0, false⟩,
                      ⟨(some 83), (some (82, false)), .mv (.tmp 9), 0, false⟩,
                      ⟨(some 84), (some (82, false)), .bini .gtr (.tmp 83) (.con (.val (.int .i64 0))), 0, false⟩,
                      ⟨(some 85), (some (82, false)), .mv (.tmp 84), 0, false⟩,
                      ⟨(some 86), (some (85, true)), .mv (.tmp 3), 0, false⟩,
                      ⟨(some 87), (some (85, true)), .fldA 1 (.tmp 8), 0, false⟩,
                      ⟨(some 88), (some (85, true)), .ld1 (some 8) (.tmp 87), 0, false⟩,
                      ⟨(some 89), (some (85, true)), .mv (.tmp 9), 0, false⟩,
                      ⟨(some 90), (some (85, true)), .bini .sub (.tmp 89) (.con (.val (.int .i64 1))), 0, false⟩,
                      ⟨(some 91), (some (85, true)), .ixA 1 (.tmp 88) (.tmp 90), 0, false⟩,
                      ⟨(some 92), (some (85, true)), .ld1 none (.tmp 91), 0, false⟩,
                      ⟨(some 93), (some (85, true)), .fldA 0 (.tmp 1), 0, false⟩,
                      ⟨(some 94), (some (85, true)), .ld1 (some 1) (.tmp 93), 0, false⟩,
                      ⟨(some 95), (some (85, true)), .bini .sub (.tmp 92) (.tmp 94), 0, false⟩,
                      ⟨(some 96), (some (85, true)), .ixA 1 (.tmp 86) (.tmp 95), 0, false⟩,
                      ⟨(some 97), (some (85, true)), .ld1 none (.tmp 96), 0, false⟩,
                      ⟨(some 98), (some (85, true)), .not (.tmp 97), 0, false⟩,
                      ⟨(some 99), (some (82, false)), .pick (.tmp 85) (.tmp 98) (.con (.val (.bool false))), 0, false⟩,
                      ⟨(some 100), none, .pick (.tmp 82) (.con (.val (.bool true))) (.tmp 99), 0, false⟩])
                    (.cond (.tmp 100)
                      (.exit 6)
                      .skip))
                    (.seq (.regN [1, 3, 4, 6, 7, 8, 9, 10] [
                      ⟨(some 101), none, .mv (.tmp 4), 0, false⟩,
                      ⟨(some 102), none, .fldA 0 (.tmp 8), 0, false⟩,
                      ⟨(some 103), none, .ld1 (some 8) (.tmp 102), 0, false⟩,
                      ⟨(some 104), none, .ixA 1 (.tmp 101) (.tmp 103), 0, false⟩,
                      ⟨(some 105), none, .ld1 none (.tmp 104), 0, false⟩,
                      ⟨(some 106), none, .mv (.tmp 10), 0, false⟩,
                      ⟨(some 107), none, .ixA 1 (.tmp 105) (.tmp 106), 0, false⟩,
                      ⟨none, none, .st none 1 (.tmp 107) (.con (.val (.bool true))), 0, false⟩])
                    (.seq (.regN [1, 3, 4, 6, 7, 8, 9, 10] [
                      ⟨(some 11), none, .mv (.con (.val (.int .i64 0))), 0, false⟩])
                    (.block 8
                      (.loop [1, 3, 4, 6, 7, 8, 9, 10, 11] t3L2)))))))
                  (.regN [1, 3, 4, 6, 7, 8, 9] [
                    ⟨(some 70), none, .mv (.tmp 9), 0, false⟩,
                    ⟨(some 71), none, .bini .add (.tmp 70) (.con (.val (.int .i64 1))), 0, false⟩,
                    ⟨(some 9), none, .mv (.tmp 71), 0, false⟩])))
def t3L4 : AC := (.seq (.seq (.regN [1, 3, 4, 6, 7] [
              ⟨(some 53), none, .mv (.tmp 7), 0, false⟩,
              ⟨(some 54), none, .fldA 3 (.tmp 1), 0, false⟩,
              ⟨(some 55), none, .ld1 (some 1) (.tmp 54), 0, false⟩,
              ⟨(some 56), none, .len false (.tmp 55), 0, false⟩,
              ⟨(some 57), none, .bini .lss (.tmp 53) (.tmp 56), 0, false⟩])
            (.cond (.tmp 57)
              .skip
              (.exit 4)))
            (.seq (.block 5
              (.seq (.regN [1, 3, 4, 6, 7] [
                ⟨(some 60), none, .fldA 3 (.tmp 1), 0, false⟩,
                ⟨(some 61), none, .ld1 (some 1) (.tmp 60), 0, false⟩,
                ⟨(some 62), none, .mv (.tmp 7), 0, false⟩,
                ⟨(some 63), none, .ixA 2 (.tmp 61) (.tmp 62), 0, false⟩,
                ⟨(some 64), none, .ldA none 2 (.tmp 63), 0, false⟩,
                ⟨(some 8), none, .allocR [(.val (.int .i64 0)), .e0], 0, false⟩,
                ⟨none, none, .st (some 8) 2 (.tmp 8) (.tmp 64), 0, false⟩])
              (.seq (.regN [1, 3, 4, 6, 7, 8] [
                ⟨(some 9), none, .mv (.con (.val (.int .i64 0))), 0, false⟩])
              (.block 6
                (.loop [1, 3, 4, 6, 7, 8, 9] t3L3)))))
            (.regN [1, 3, 4, 6, 7] [
              ⟨(some 58), none, .mv (.tmp 7), 0, false⟩,
              ⟨(some 59), none, .bini .add (.tmp 58) (.con (.val (.int .i64 1))), 0, false⟩,
              ⟨(some 7), none, .mv (.tmp 59), 0, false⟩])))
def t3L5 : AC := (.seq (.seq (.regN [1, 3, 4, 6] [
        ⟨(some 47), none, .mv (.tmp 6), 0, false⟩,
        ⟨(some 48), none, .fldA 1 (.tmp 1), 0, false⟩,
        ⟨(some 49), none, .ld1 (some 1) (.tmp 48), 0, false⟩,
        ⟨(some 50), none, .bini .leq (.tmp 47) (.tmp 49), 0, false⟩])
      (.cond (.tmp 50)
        .skip
        (.exit 2)))
      (.seq (.block 3
        (.seq (.regN [1, 3, 4, 6] [
          ⟨(some 7), none, .mv (.con (.val (.int .i64 0))), 0, false⟩])
        (.block 4
          (.loop [1, 3, 4, 6, 7] t3L4))))
      (.regN [1, 3, 4, 6] [
        ⟨(some 51), none, .mv (.tmp 6), 0, false⟩,
        ⟨(some 52), none, .bini .add (.tmp 51) (.con (.val (.int .i64 1))), 0, false⟩,
        ⟨(some 6), none, .mv (.tmp 52), 0, false⟩])))
def t3L6 : AC := (.seq (.seq (.regN [1, 4, 12, 13, 14] [
        ⟨(some 143), none, .mv (.tmp 14), 0, false⟩,
        ⟨(some 144), none, .fldA 1 (.tmp 1), 0, false⟩,
        ⟨(some 145), none, .ld1 (some 1) (.tmp 144), 0, false⟩,
        ⟨(some 146), none, .bini .lss (.tmp 143) (.tmp 145), 0, false⟩])
      (.cond (.tmp 146)
        .skip
        (.exit 10)))
      (.seq (.block 11
        (.seq (.regN [1, 4, 12, 13, 14] [
          ⟨(some 149), none, .mv (.tmp 4), 0, false⟩,
          ⟨(some 150), none, .mv (.tmp 14), 0, false⟩,
          ⟨(some 151), none, .ixA 1 (.tmp 149) (.tmp 150), 0, false⟩,
          ⟨(some 152), none, .ld1 none (.tmp 151), 0, false⟩,
          ⟨(some 153), none, .mv (.tmp 14), 0, false⟩,
          ⟨(some 154), none, .ixA 1 (.tmp 152) (.tmp 153), 0, false⟩,
          ⟨(some 155), none, .ld1 none (.tmp 154), 0, false⟩])
        (.cond (.tmp 155)
          (.seq (.regN [12, 13, 14] [
            ⟨(some 156), none, .mv (.tmp 13), 0, false⟩,
            ⟨(some 157), none, .mv (.tmp 156), 0, false⟩,
            ⟨(some 158), (some (157, true)), .mv (.tmp 12), 0, false⟩,
            ⟨(some 159), (some (157, true)), .mv (.tmp 14), 0, false⟩,
            ⟨(some 160), (some (157, true)), .bini .eql (.tmp 158) (.tmp 159), 0, false⟩,
            ⟨(some 161), none, .pick (.tmp 157) (.tmp 160) (.con (.val (.bool false))), 0, false⟩,
            ⟨(some 2), none, .mv (.tmp 161), 0, false⟩])
          .ret)
          .skip)))
      (.regN [1, 4, 12, 13, 14] [
        ⟨(some 147), none, .mv (.tmp 14), 0, false⟩,
        ⟨(some 148), none, .bini .add (.tmp 147) (.con (.val (.int .i64 1))), 0, false⟩,
        ⟨(some 14), none, .mv (.tmp 148), 0, false⟩])))
def t3B : AC := (.seq (.regN [0] [
    ⟨(some 1), none, .boxR 4 (.tmp 0), 0, false⟩,
    ⟨(some 2), none, .mv (.con (.val (.bool false))), 0, false⟩])
  (.seq (.seq (.regN [1] [
    ⟨(some 15), none, .call 9 [], 0, false⟩,
    ⟨(some 16), none, .not (.tmp 15), 0, false⟩])
  (.cond (.tmp 16)
    (.seq (.regN [] [
      ⟨(some 2), none, .mv (.con (.val (.bool false))), 0, false⟩])
    .ret)
    .skip))
  (.seq (.seq (.regN [1] [
    ⟨(some 17), none, .ldA (some 1) 4 (.tmp 1), 0, false⟩,
    ⟨(some 18), none, .call 10 [(.tmp 17)], 0, false⟩,
    ⟨(some 19), none, .not (.tmp 18), 0, false⟩,
    ⟨(some 20), none, .mv (.tmp 19), 0, false⟩,
    ⟨(some 21), (some (20, false)), .ldA (some 1) 4 (.tmp 1), 0, false⟩,
    ⟨(some 22), (some (20, false)), .call 11 [(.tmp 21)], 0, false⟩,
    ⟨(some 23), (some (20, false)), .bini .neq (.tmp 22) (.con (.val (.int .i64 0))), 0, false⟩,
    ⟨(some 24), none, .pick (.tmp 20) (.con (.val (.bool true))) (.tmp 23), 0, false⟩])
  (.cond (.tmp 24)
    (.seq (.regN [] [
      ⟨(some 2), none, .mv (.con (.val (.bool true))), 0, false⟩])
    .ret)
    .skip))
  (.seq (.regN [1] [
    ⟨(some 25), none, .ldA (some 1) 4 (.tmp 1), 0, false⟩,
    ⟨(some 26), none, .call 12 [(.tmp 25)], 0, false⟩,
    ⟨(some 3), none, .mv (.tmp 26), 0, false⟩])
  (.seq (.seq (.regN [1, 3] [
    ⟨(some 27), none, .mv (.tmp 3), 0, false⟩,
    ⟨(some 28), none, .len false (.tmp 27), 0, false⟩,
    ⟨(some 29), none, .fldA 1 (.tmp 1), 0, false⟩,
    ⟨(some 30), none, .ld1 (some 1) (.tmp 29), 0, false⟩,
    ⟨(some 31), none, .bini .neq (.tmp 28) (.tmp 30), 0, false⟩])
  (.cond (.tmp 31)
    (.seq (.regN [] [
      ⟨(some 2), none, .mv (.con (.val (.bool false))), 0, false⟩])
    .ret)
    .skip))
  (.seq (.regN [1, 3] [
    ⟨(some 32), none, .fldA 1 (.tmp 1), 0, false⟩,
    ⟨(some 33), none, .ld1 (some 1) (.tmp 32), 0, false⟩,
    ⟨(some 34), none, .mks 1 24 [.e0] (.tmp 33), 0, false⟩,
    ⟨(some 4), none, .mv (.tmp 34), 0, false⟩])
  (.seq (.seq (.regN [1, 3, 4] [
    ⟨(some 5), none, .mv (.con (.val (.int .i64 0))), 0, false⟩])
  (.block 0
    (.loop [1, 3, 4, 5] t3L1)))
  (.seq (.seq (.regN [1, 3, 4] [
    ⟨(some 6), none, .mv (.con (.val (.int .i64 0))), 0, false⟩])
  (.block 2
    (.loop [1, 3, 4, 6] t3L5)))
  (.seq (.regN [1, 4] [
    ⟨(some 139), none, .ldA (some 1) 4 (.tmp 1), 0, false⟩,
    ⟨(some 140), none, .call 13 [(.tmp 139)], 0, false⟩,
    ⟨(some 138), none, .mv (.tmp 140), 0, false⟩,
    ⟨(some 141), none, .ext (.tmp 138) 0, 0, false⟩,
    ⟨(some 142), none, .ext (.tmp 138) 1, 0, false⟩,
    ⟨(some 12), none, .mv (.tmp 141), 0, false⟩,
    ⟨(some 13), none, .mv (.tmp 142), 0, false⟩])
  (.seq (.seq (.regN [1, 4, 12, 13] [
    ⟨(some 14), none, .mv (.con (.val (.int .i64 0))), 0, false⟩])
  (.block 10
    (.loop [1, 4, 12, 13, 14] t3L6)))
  (.seq (.regN [12, 13] [
    ⟨(some 162), none, .mv (.tmp 13), 0, false⟩,
    ⟨(some 163), none, .not (.tmp 162), 0, false⟩,
    ⟨(some 164), none, .mv (.tmp 163), 0, false⟩,
    ⟨(some 165), (some (164, true)), .mv (.tmp 12), 0, false⟩,
    ⟨(some 166), (some (164, true)), .bini .eql (.tmp 165) (.con (.val (.int .i64 0))), 0, false⟩,
    ⟨(some 167), none, .pick (.tmp 164) (.tmp 166) (.con (.val (.bool false))), 0, false⟩,
    ⟨(some 2), none, .mv (.tmp 167), 0, false⟩])
  .ret)))))))))))
def t3 : AFn := ⟨1, t3B,
  [.tmp 2], true⟩
/-- viewport/viewportlaw11.lives  -/
def t9B : AC := (.seq (.regN [] [
    ⟨(some 0), none, .mv (.con (.val (.bool false))), 0, false⟩])
  (.seq (.regN [] [
    ⟨(some 4), none, .call 23 [], 0, false⟩,
    ⟨(some 5), none, .call 13 [(.tmp 4)], 0, false⟩,
    ⟨(some 3), none, .mv (.tmp 5), 0, false⟩,
    ⟨(some 6), none, .ext (.tmp 3) 0, 0, false⟩,
    ⟨(some 7), none, .ext (.tmp 3) 1, 0, false⟩,
    ⟨(some 1), none, .mv (.tmp 6), 0, false⟩,
    ⟨(some 2), none, .mv (.tmp 7), 0, false⟩])
  (.seq (.regN [2] [
    ⟨(some 8), none, .call 23 [], 0, false⟩,
    ⟨(some 9), none, .call 12 [(.tmp 8)], 0, false⟩,
    ⟨(some 10), none, .buildS 2 [(.val (.bool false)), (.val (.bool false))] [(0, 1, (.con (.val (.bool false)))), (1, 1, (.con (.val (.bool true))))], 0, false⟩,
    ⟨(some 11), none, .call 15 [(.tmp 9), (.tmp 10)], 0, false⟩,
    ⟨(some 12), none, .mv (.tmp 11), 0, false⟩,
    ⟨(some 13), (some (12, true)), .mv (.tmp 2), 0, false⟩,
    ⟨(some 14), (some (12, true)), .not (.tmp 13), 0, false⟩,
    ⟨(some 15), none, .pick (.tmp 12) (.tmp 14) (.con (.val (.bool false))), 0, false⟩,
    ⟨(some 16), none, .mv (.tmp 15), 0, false⟩,
    ⟨(some 17), (some (16, true)), .call 23 [], 0, false⟩,
    ⟨(some 18), (some (16, true)), .call 11 [(.tmp 17)], 0, false⟩,
    ⟨(some 19), (some (16, true)), .bini .eql (.tmp 18) (.con (.val (.int .i64 0))), 0, false⟩,
    ⟨(some 20), none, .pick (.tmp 16) (.tmp 19) (.con (.val (.bool false))), 0, false⟩,
    ⟨(some 0), none, .mv (.tmp 20), 0, false⟩])
  .ret)))
def t9 : AFn := ⟨0, t9B,
  [.tmp 0], true⟩
/-- viewport/viewportlaw11.example  -/
def t23B : AC := (.seq (.regN [] [
    ⟨(some 0), none, .allocR [(.val (.int .i64 0)), (.val (.int .i64 0)), (.val (.int .i64 0)), .e0], 0, false⟩])
  (.seq (.regN [0] [
    ⟨(some 1), none, .buildS 2 [(.val (.int .i64 0)), (.val (.int .i64 0))] [(0, 1, (.con (.val (.int .i64 3)))), (1, 1, (.con (.val (.int .i64 0))))], 0, false⟩,
    ⟨(some 2), none, .build [(.val (.int .i64 0)), .e0] [(0, 1, (.con (.val (.int .i64 0)))), (1, 1, (.tmp 1))], 0, false⟩,
    ⟨(some 3), none, .build [(.val (.int .i64 0)), .e0] [(0, 1, (.con (.val (.int .i64 1))))], 0, false⟩,
    ⟨(some 4), none, .buildS 2 [(.val (.int .i64 0)), (.val (.int .i64 0))] [(0, 1, (.con (.val (.int .i64 1)))), (1, 1, (.con (.val (.int .i64 3))))], 0, false⟩,
    ⟨(some 5), none, .build [(.val (.int .i64 0)), .e0] [(0, 1, (.con (.val (.int .i64 1)))), (1, 1, (.tmp 4))], 0, false⟩,
    ⟨(some 6), none, .buildS 3 [(.val (.int .i64 0)), .e0, (.val (.int .i64 0)), .e0, (.val (.int .i64 0)), .e0] [(0, 2, (.tmp 2)), (2, 2, (.tmp 3)), (4, 2, (.tmp 5))], 0, false⟩,
    ⟨(some 7), none, .build [(.val (.int .i64 0)), (.val (.int .i64 0)), (.val (.int .i64 0)), .e0] [(0, 1, (.con (.val (.int .i64 2)))), (1, 1, (.con (.val (.int .i64 2)))), (2, 1, (.con (.val (.int .i64 1)))), (3, 1, (.tmp 6))], 0, false⟩,
    ⟨none, none, .st (some 0) 4 (.tmp 0) (.tmp 7), 0, false⟩])
  .ret))
def t23 : AFn := ⟨0, t23B,
  [.cell 0 4 true], true⟩
/-- viewport/gram.Left  -/
def t13L1 : AC := (.seq (.regN [1, 4, 5, 17, 18] [
        ⟨(some 19), none, .bini .lss (.tmp 18) (.tmp 17), 0, false⟩])
      (.seq (.cond (.tmp 19)
        .skip
        (.exit 0))
      (.seq (.block 1
        (.seq (.regN [1, 4, 5, 17, 18] [
          ⟨(some 20), none, .mv (.tmp 18), 0, false⟩,
          ⟨(some 6), none, .mv (.tmp 20), 0, false⟩])
        (.regD [1, 4, 5, 6, 17, 18] 1 [
          ⟨(some 21), none, .ld1 none (.tmp 5), 0, false⟩,
          ⟨(some 22), none, .mv (.tmp 6), 0, false⟩,
          ⟨(some 23), none, .fldA 1 (.tmp 1), 0, false⟩,
          ⟨(some 24), none, .ld1 none (.tmp 23), 0, false⟩,
          ⟨(some 25), none, .mks 1 1 [(.val (.bool false))] (.tmp 24), 0, false⟩,
          ⟨(some 26), none, .ixA 1 (.tmp 21) (.tmp 22), 0, false⟩,
          ⟨none, none, .st none 1 (.tmp 26) (.tmp 25), 0, false⟩])))
      (.regN [1, 4, 5, 17, 18] [
        ⟨(some 27), none, .bini .add (.tmp 18) (.con (.val (.int .i64 1))), 0, false⟩,
        ⟨(some 18), none, .mv (.tmp 27), 0, false⟩]))))
def t13L2 : AC := (.seq (.regN [5, 33, 34] [
        ⟨(some 35), none, .bini .lss (.tmp 34) (.tmp 33), 0, false⟩])
      (.seq (.cond (.tmp 35)
        .skip
        (.exit 2))
      (.seq (.block 3
        (.seq (.regN [5, 33, 34] [
          ⟨(some 36), none, .mv (.tmp 34), 0, false⟩,
          ⟨(some 7), none, .mv (.tmp 36), 0, false⟩])
        (.seq (.regN [5, 7, 33, 34] [
          ⟨(some 37), none, .ld1 none (.tmp 5), 0, false⟩,
          ⟨(some 38), none, .mv (.tmp 7), 0, false⟩,
          ⟨(some 39), none, .ixA 1 (.tmp 37) (.tmp 38), 0, false⟩,
          ⟨(some 40), none, .ld1 none (.tmp 39), 0, false⟩,
          ⟨(some 41), none, .mv (.tmp 7), 0, false⟩,
          ⟨(some 42), none, .ixA 1 (.tmp 40) (.tmp 41), 0, false⟩,
          ⟨(some 43), none, .ld1 none (.tmp 42), 0, false⟩])
        (.cond (.tmp 43)
          (.seq (.regN [7] [
            ⟨(some 44), none, .mv (.tmp 7), 0, false⟩,
            ⟨(some 2), none, .mv (.tmp 44), 0, false⟩,
            ⟨(some 3), none, .mv (.con (.val (.bool true))), 0, false⟩])
          .ret)
          .skip))))
      (.regN [5, 33, 34] [
        ⟨(some 45), none, .bini .add (.tmp 34) (.con (.val (.int .i64 1))), 0, false⟩,
        ⟨(some 34), none, .mv (.tmp 45), 0, false⟩]))))
def t13B : AC := (.seq (.regN [0] [
    ⟨(some 1), none, .boxH 4 (.tmp 0), 0, false⟩,
    ⟨(some 2), none, .mv (.con (.val (.int .i64 0))), 0, false⟩,
    ⟨(some 3), none, .mv (.con (.val (.bool false))), 0, false⟩])
  (.seq (.seq (.regN [1] [
    ⟨(some 8), none, .ldA none 4 (.tmp 1), 0, false⟩,
    ⟨(some 9), none, .call 11 [(.tmp 8)], 0, false⟩,
    ⟨(some 10), none, .bini .neq (.tmp 9) (.con (.val (.int .i64 0))), 0, false⟩])
  (.cond (.tmp 10)
    (.seq (.regN [] [
      ⟨(some 2), none, .mv (.con (.val (.int .i64 0))), 0, false⟩,
      ⟨(some 3), none, .mv (.con (.val (.bool false))), 0, false⟩])
    .ret)
    .skip))
  (.seq (.regN [1] [
    ⟨(some 11), none, .ldA none 4 (.tmp 1), 0, false⟩,
    ⟨(some 12), none, .call 12 [(.tmp 11)], 0, false⟩,
    ⟨(some 4), none, .allocH [.e0], 0, false⟩,
    ⟨none, none, .st none 1 (.tmp 4) (.tmp 12), 0, false⟩])
  (.seq (.regN [1, 4] [
    ⟨(some 13), none, .fldA 1 (.tmp 1), 0, false⟩,
    ⟨(some 14), none, .ld1 none (.tmp 13), 0, false⟩,
    ⟨(some 15), none, .mks 1 24 [.e0] (.tmp 14), 0, false⟩,
    ⟨(some 5), none, .allocH [.e0], 0, false⟩,
    ⟨none, none, .st none 1 (.tmp 5) (.tmp 15), 0, false⟩])
  (.seq (.seq (.regN [1, 4, 5] [
    ⟨(some 16), none, .ld1 none (.tmp 5), 0, false⟩,
    ⟨(some 17), none, .len false (.tmp 16), 0, false⟩,
    ⟨(some 18), none, .mv (.con (.val (.int .i64 0))), 0, false⟩])
  (.block 0
    (.loop [1, 4, 5, 17, 18] t13L1)))
  (.seq (.regN [1, 4, 5] [
    ⟨(some 28), none, .fldA 3 (.tmp 1), 0, false⟩,
    ⟨(some 29), none, .ld1 none (.tmp 28), 0, false⟩,
    ⟨(some 30), none, .mkf 39 [(.tmp 5), (.tmp 1), (.tmp 4)], 0, false⟩,
    ⟨(some 31), none, .call 38 [(.tmp 29), (.tmp 30)], 0, false⟩])
  (.seq (.seq (.regN [1, 5] [
    ⟨(some 32), none, .fldA 1 (.tmp 1), 0, false⟩,
    ⟨(some 33), none, .ld1 none (.tmp 32), 0, false⟩,
    ⟨(some 34), none, .mv (.con (.val (.int .i64 0))), 0, false⟩])
  (.block 2
    (.loop [5, 33, 34] t13L2)))
  (.seq (.regN [] [
    ⟨(some 2), none, .mv (.con (.val (.int .i64 0))), 0, false⟩,
    ⟨(some 3), none, .mv (.con (.val (.bool false))), 0, false⟩])
  .ret))))))))
def t13 : AFn := ⟨1, t13B,
  [.tmp 2, .tmp 3], true⟩
/-- viewport/gram.Check  -/
def t11L1 : AC := (.seq (.regN [1, 39, 40, 41] [
        ⟨(some 42), none, .bini .lss (.tmp 41) (.tmp 40), 0, false⟩])
      (.seq (.cond (.tmp 42)
        .skip
        (.exit 0))
      (.seq (.block 1
        (.seq (.regN [1, 39, 40, 41] [
          ⟨(some 43), none, .ixA 2 (.tmp 39) (.tmp 41), 0, false⟩,
          ⟨(some 44), none, .ldA none 2 (.tmp 43), 0, false⟩,
          ⟨(some 4), none, .allocR [(.val (.int .i64 0)), .e0], 0, false⟩,
          ⟨none, none, .st (some 4) 2 (.tmp 4) (.tmp 44), 0, false⟩])
        (.seq (.regN [1, 4, 39, 40, 41] [
          ⟨(some 45), none, .fldA 0 (.tmp 4), 0, false⟩,
          ⟨(some 46), none, .ld1 (some 4) (.tmp 45), 0, false⟩,
          ⟨(some 47), none, .bini .lss (.tmp 46) (.con (.val (.int .i64 0))), 0, false⟩,
          ⟨(some 48), none, .mv (.tmp 47), 0, false⟩,
          ⟨(some 49), (some (48, false)), .fldA 0 (.tmp 4), 0, false⟩,
          ⟨(some 50), (some (48, false)), .ld1 (some 4) (.tmp 49), 0, false⟩,
          ⟨(some 51), (some (48, false)), .fldA 1 (.tmp 1), 0, false⟩,
          ⟨(some 52), (some (48, false)), .ld1 none (.tmp 51), 0, false⟩,
          ⟨(some 53), (some (48, false)), .bini .geq (.tmp 50) (.tmp 52), 0, false⟩,
          ⟨(some 54), none, .pick (.tmp 48) (.con (.val (.bool true))) (.tmp 53), 0, false⟩,
          ⟨(some 55), none, .mv (.tmp 54), 0, false⟩,
          ⟨(some 56), (some (55, false)), .fldA 1 (.tmp 4), 0, false⟩,
          ⟨(some 57), (some (55, false)), .ld1 (some 4) (.tmp 56), 0, false⟩,
          ⟨(some 58), (some (55, false)), .mkf 36 [(.tmp 1)], 0, false⟩,
          ⟨(some 59), (some (55, false)), .call 35 [(.tmp 57), (.tmp 58)], 0, false⟩,
          ⟨(some 60), none, .pick (.tmp 55) (.con (.val (.bool true))) (.tmp 59), 0, false⟩])
        (.cond (.tmp 60)
          (.seq (.regN [] [
            ⟨(some 2), none, .mv (.con (.val (.int .i64 2))), 0, false⟩])
          .ret)
          .skip))))
      (.regN [1, 39, 40, 41] [
        ⟨(some 61), none, .bini .add (.tmp 41) (.con (.val (.int .i64 1))), 0, false⟩,
        ⟨(some 41), none, .mv (.tmp 61), 0, false⟩]))))
def t11B : AC := (.seq (.regN [0] [
    ⟨(some 1), none, .boxH 4 (.tmp 0), 0, false⟩,
    ⟨(some 2), none, .mv (.con (.val (.int .i64 0))), 0, false⟩])
  (.seq (.seq (.regN [1] [
    ⟨(some 5), none, .fldA 0 (.tmp 1), 0, false⟩,
    ⟨(some 6), none, .ld1 none (.tmp 5), 0, false⟩,
    ⟨(some 7), none, .bini .gtr (.tmp 6) (.con (.val (.int .i64 8))), 0, false⟩,
    ⟨(some 8), none, .mv (.tmp 7), 0, false⟩,
    ⟨(some 9), (some (8, false)), .fldA 1 (.tmp 1), 0, false⟩,
    ⟨(some 10), (some (8, false)), .ld1 none (.tmp 9), 0, false⟩,
    ⟨(some 11), (some (8, false)), .bini .gtr (.tmp 10) (.con (.val (.int .i64 16))), 0, false⟩,
    ⟨(some 12), none, .pick (.tmp 8) (.con (.val (.bool true))) (.tmp 11), 0, false⟩,
    ⟨(some 13), none, .mv (.tmp 12), 0, false⟩,
    ⟨(some 14), (some (13, false)), .fldA 2 (.tmp 1), 0, false⟩,
    ⟨(some 15), (some (13, false)), .ld1 none (.tmp 14), 0, false⟩,
    ⟨(some 16), (some (13, false)), .bini .gtr (.tmp 15) (.con (.val (.int .i64 3))), 0, false⟩,
    ⟨(some 17), none, .pick (.tmp 13) (.con (.val (.bool true))) (.tmp 16), 0, false⟩,
    ⟨(some 18), none, .mv (.tmp 17), 0, false⟩,
    ⟨(some 19), (some (18, false)), .fldA 3 (.tmp 1), 0, false⟩,
    ⟨(some 20), (some (18, false)), .ld1 none (.tmp 19), 0, false⟩,
    ⟨(some 21), (some (18, false)), .len false (.tmp 20), 0, false⟩,
    ⟨(some 22), (some (18, false)), .bini .gtr (.tmp 21) (.con (.val (.int .i64 64))), 0, false⟩,
    ⟨(some 23), none, .pick (.tmp 18) (.con (.val (.bool true))) (.tmp 22), 0, false⟩])
  (.cond (.tmp 23)
    (.seq (.regN [] [
      ⟨(some 2), none, .mv (.con (.val (.int .i64 3))), 0, false⟩])
    .ret)
    .skip))
  (.seq (.seq (.regN [1] [
    ⟨(some 24), none, .fldA 3 (.tmp 1), 0, false⟩,
    ⟨(some 25), none, .ld1 none (.tmp 24), 0, false⟩,
    ⟨(some 26), none, .call 33 [(.tmp 25), (.con (.fn 34 []))], 0, false⟩])
  (.cond (.tmp 26)
    (.seq (.regN [] [
      ⟨(some 2), none, .mv (.con (.val (.int .i64 3))), 0, false⟩])
    .ret)
    .skip))
  (.seq (.seq (.regN [1] [
    ⟨(some 27), none, .fldA 0 (.tmp 1), 0, false⟩,
    ⟨(some 28), none, .ld1 none (.tmp 27), 0, false⟩,
    ⟨(some 29), none, .fldA 1 (.tmp 1), 0, false⟩,
    ⟨(some 30), none, .ld1 none (.tmp 29), 0, false⟩,
    ⟨(some 31), none, .fldA 2 (.tmp 1), 0, false⟩,
    ⟨(some 32), none, .ld1 none (.tmp 31), 0, false⟩,
    ⟨(some 33), none, .fldA 3 (.tmp 1), 0, false⟩,
    ⟨(some 34), none, .ld1 none (.tmp 33), 0, false⟩,
    ⟨(some 35), none, .len false (.tmp 34), 0, false⟩,
    ⟨(some 36), none, .mm false [(.tmp 28), (.tmp 30), (.tmp 32), (.tmp 35)], 0, false⟩,
    ⟨(some 37), none, .bini .lss (.tmp 36) (.con (.val (.int .i64 1))), 0, false⟩])
  (.cond (.tmp 37)
    (.seq (.regN [] [
      ⟨(some 2), none, .mv (.con (.val (.int .i64 2))), 0, false⟩])
    .ret)
    .skip))
  (.seq (.seq (.regN [1] [
    ⟨(some 38), none, .fldA 3 (.tmp 1), 0, false⟩,
    ⟨(some 39), none, .ld1 none (.tmp 38), 0, false⟩,
    ⟨(some 40), none, .len false (.tmp 39), 0, false⟩,
    ⟨(some 41), none, .mv (.con (.val (.int .i64 0))), 0, false⟩])
  (.block 0
    (.loop [1, 39, 40, 41] t11L1)))
  (.seq (.regN [] [
    ⟨(some 2), none, .mv (.con (.val (.int .i64 0))), 0, false⟩])
  .ret))))))
def t11 : AFn := ⟨1, t11B,
  [.tmp 2], true⟩
/-- slices.ContainsFunc[[]viewport/api.Prod,viewport/api.Prod]  -/
def t33B : AC := (.seq (.regN [0, 1] [
    ⟨(some 4), none, .mv (.con (.val (.bool false))), 0, false⟩])
  (.seq (.regN [0, 1] [
    ⟨(some 5), none, .mv (.tmp 0), 0, false⟩,
    ⟨(some 6), none, .mv (.tmp 1), 0, false⟩,
    ⟨(some 7), none, .call 50 [(.tmp 5), (.tmp 6)], 0, false⟩,
    ⟨(some 8), none, .bini .geq (.tmp 7) (.con (.val (.int .i64 0))), 0, false⟩,
    ⟨(some 4), none, .mv (.tmp 8), 0, false⟩])
  .ret))
def t33 : AFn := ⟨2, t33B,
  [.tmp 4], true⟩
/-- slices.IndexFunc[[]viewport/api.Prod,viewport/api.Prod]  -/
def t50L1 : AC := (.seq (.regN [0, 1, 7, 8] [
        ⟨(some 9), none, .bini .lss (.tmp 8) (.tmp 7), 0, false⟩])
      (.seq (.cond (.tmp 9)
        .skip
        (.exit 0))
      (.seq (.block 1
        (.seq (.regN [0, 1, 7, 8] [
          ⟨(some 10), none, .mv (.tmp 8), 0, false⟩,
          ⟨(some 5), none, .mv (.tmp 10), 0, false⟩])
        (.seq (.regN [0, 1, 5, 7, 8] [
          ⟨(some 11), none, .mv (.tmp 1), 0, false⟩,
          ⟨(some 12), none, .mv (.tmp 0), 0, false⟩,
          ⟨(some 13), none, .mv (.tmp 5), 0, false⟩,
          ⟨(some 14), none, .ixA 2 (.tmp 12) (.tmp 13), 0, false⟩,
          ⟨(some 15), none, .ldA none 2 (.tmp 14), 0, false⟩,
          ⟨(some 16), none, .callv (.tmp 11) [(.tmp 15)], 0, false⟩])
        (.cond (.tmp 16)
          (.seq (.regN [5] [
            ⟨(some 17), none, .mv (.tmp 5), 0, false⟩,
            ⟨(some 4), none, .mv (.tmp 17), 0, false⟩])
          .ret)
          .skip))))
      (.regN [0, 1, 7, 8] [
        ⟨(some 18), none, .bini .add (.tmp 8) (.con (.val (.int .i64 1))), 0, false⟩,
        ⟨(some 8), none, .mv (.tmp 18), 0, false⟩]))))
def t50B : AC := (.seq (.regN [0, 1] [
    ⟨(some 4), none, .mv (.con (.val (.int .i64 0))), 0, false⟩])
  (.seq (.seq (.regN [0, 1] [
    ⟨(some 6), none, .mv (.tmp 0), 0, false⟩,
    ⟨(some 7), none, .len false (.tmp 6), 0, false⟩,
    ⟨(some 8), none, .mv (.con (.val (.int .i64 0))), 0, false⟩])
  (.block 0
    (.loop [0, 1, 7, 8] t50L1)))
  (.seq (.regN [] [
    ⟨(some 4), none, .mv (.con (.val (.int .i64 (-1)))), 0, false⟩])
  .ret)))
def t50 : AFn := ⟨2, t50B,
  [.tmp 4], true⟩
/-- viewport/gram.Check$1  -/
def t34B : AC := (.seq (.regN [0] [
    ⟨(some 1), none, .boxR 2 (.tmp 0), 0, false⟩,
    ⟨(some 2), none, .mv (.con (.val (.bool false))), 0, false⟩])
  (.seq (.regN [1] [
    ⟨(some 3), none, .fldA 1 (.tmp 1), 0, false⟩,
    ⟨(some 4), none, .ld1 (some 1) (.tmp 3), 0, false⟩,
    ⟨(some 5), none, .len false (.tmp 4), 0, false⟩,
    ⟨(some 6), none, .bini .gtr (.tmp 5) (.con (.val (.int .i64 8))), 0, false⟩,
    ⟨(some 2), none, .mv (.tmp 6), 0, false⟩])
  .ret))
def t34 : AFn := ⟨1, t34B,
  [.tmp 2], true⟩
/-- viewport/gram.Check$2  -/
def t36B : AC := (.seq (.regN [0, 1] [
    ⟨(some 3), none, .mv (.con (.val (.bool false))), 0, false⟩])
  (.seq (.regN [0, 1] [
    ⟨(some 4), none, .mv (.tmp 0), 0, false⟩,
    ⟨(some 5), none, .bini .lss (.tmp 4) (.con (.val (.int .i64 0))), 0, false⟩,
    ⟨(some 6), none, .mv (.tmp 5), 0, false⟩,
    ⟨(some 7), (some (6, false)), .mv (.tmp 0), 0, false⟩,
    ⟨(some 8), (some (6, false)), .fldA 0 (.tmp 1), 0, false⟩,
    ⟨(some 9), (some (6, false)), .ld1 none (.tmp 8), 0, false⟩,
    ⟨(some 10), (some (6, false)), .fldA 1 (.tmp 1), 0, false⟩,
    ⟨(some 11), (some (6, false)), .ld1 none (.tmp 10), 0, false⟩,
    ⟨(some 12), (some (6, false)), .bini .add (.tmp 9) (.tmp 11), 0, false⟩,
    ⟨(some 13), (some (6, false)), .bini .geq (.tmp 7) (.tmp 12), 0, false⟩,
    ⟨(some 14), none, .pick (.tmp 6) (.con (.val (.bool true))) (.tmp 13), 0, false⟩,
    ⟨(some 3), none, .mv (.tmp 14), 0, false⟩])
  .ret))
def t36 : AFn := ⟨2, t36B,
  [.tmp 3], true⟩
/-- slices.ContainsFunc[[]int,int]  -/
def t35B : AC := (.seq (.regN [0, 1] [
    ⟨(some 4), none, .mv (.con (.val (.bool false))), 0, false⟩])
  (.seq (.regN [0, 1] [
    ⟨(some 5), none, .mv (.tmp 0), 0, false⟩,
    ⟨(some 6), none, .mv (.tmp 1), 0, false⟩,
    ⟨(some 7), none, .call 51 [(.tmp 5), (.tmp 6)], 0, false⟩,
    ⟨(some 8), none, .bini .geq (.tmp 7) (.con (.val (.int .i64 0))), 0, false⟩,
    ⟨(some 4), none, .mv (.tmp 8), 0, false⟩])
  .ret))
def t35 : AFn := ⟨2, t35B,
  [.tmp 4], true⟩
/-- slices.IndexFunc[[]int,int]  -/
def t51L1 : AC := (.seq (.regN [0, 1, 7, 8] [
        ⟨(some 9), none, .bini .lss (.tmp 8) (.tmp 7), 0, false⟩])
      (.seq (.cond (.tmp 9)
        .skip
        (.exit 0))
      (.seq (.block 1
        (.seq (.regN [0, 1, 7, 8] [
          ⟨(some 10), none, .mv (.tmp 8), 0, false⟩,
          ⟨(some 5), none, .mv (.tmp 10), 0, false⟩])
        (.seq (.regN [0, 1, 5, 7, 8] [
          ⟨(some 11), none, .mv (.tmp 1), 0, false⟩,
          ⟨(some 12), none, .mv (.tmp 0), 0, false⟩,
          ⟨(some 13), none, .mv (.tmp 5), 0, false⟩,
          ⟨(some 14), none, .ixA 1 (.tmp 12) (.tmp 13), 0, false⟩,
          ⟨(some 15), none, .ld1 none (.tmp 14), 0, false⟩,
          ⟨(some 16), none, .callv (.tmp 11) [(.tmp 15)], 0, false⟩])
        (.cond (.tmp 16)
          (.seq (.regN [5] [
            ⟨(some 17), none, .mv (.tmp 5), 0, false⟩,
            ⟨(some 4), none, .mv (.tmp 17), 0, false⟩])
          .ret)
          .skip))))
      (.regN [0, 1, 7, 8] [
        ⟨(some 18), none, .bini .add (.tmp 8) (.con (.val (.int .i64 1))), 0, false⟩,
        ⟨(some 8), none, .mv (.tmp 18), 0, false⟩]))))
def t51B : AC := (.seq (.regN [0, 1] [
    ⟨(some 4), none, .mv (.con (.val (.int .i64 0))), 0, false⟩])
  (.seq (.seq (.regN [0, 1] [
    ⟨(some 6), none, .mv (.tmp 0), 0, false⟩,
    ⟨(some 7), none, .len false (.tmp 6), 0, false⟩,
    ⟨(some 8), none, .mv (.con (.val (.int .i64 0))), 0, false⟩])
  (.block 0
    (.loop [0, 1, 7, 8] t51L1)))
  (.seq (.regN [] [
    ⟨(some 4), none, .mv (.con (.val (.int .i64 (-1)))), 0, false⟩])
  .ret)))
def t51 : AFn := ⟨2, t51B,
  [.tmp 4], true⟩
/-- viewport/gram.Nullable  -/
def t12B : AC := (.seq (.regN [0] [
    ⟨(some 1), none, .boxR 4 (.tmp 0), 0, false⟩,
    ⟨(some 2), none, .mv (.con .e0), 0, false⟩])
  (.seq (.regN [1] [
    ⟨(some 3), none, .ldA (some 1) 4 (.tmp 1), 0, false⟩,
    ⟨(some 4), none, .call 37 [(.tmp 3), (.con (.val (.bool false)))], 0, false⟩,
    ⟨(some 2), none, .mv (.tmp 4), 0, false⟩])
  .ret))
def t12 : AFn := ⟨1, t12B,
  [.tmp 2], true⟩
/-- viewport/gram.derive  -/
def t37B : AC := (.seq (.regN [0, 1] [
    ⟨(some 2), none, .boxH 4 (.tmp 0), 0, false⟩,
    ⟨(some 3), none, .boxH 1 (.tmp 1), 0, false⟩,
    ⟨(some 4), none, .mv (.con .e0), 0, false⟩])
  (.seq (.seq (.regN [2, 3] [
    ⟨(some 7), none, .ldA none 4 (.tmp 2), 0, false⟩,
    ⟨(some 8), none, .call 11 [(.tmp 7)], 0, false⟩,
    ⟨(some 9), none, .bini .neq (.tmp 8) (.con (.val (.int .i64 0))), 0, false⟩])
  (.cond (.tmp 9)
    (.seq (.regN [] [
      ⟨(some 4), none, .mv (.con .e0), 0, false⟩])
    .ret)
    .skip))
  (.seq (.regN [2, 3] [
    ⟨(some 10), none, .fldA 1 (.tmp 2), 0, false⟩,
    ⟨(some 11), none, .ld1 none (.tmp 10), 0, false⟩,
    ⟨(some 12), none, .mks 1 1 [(.val (.bool false))] (.tmp 11), 0, false⟩,
    ⟨(some 5), none, .allocH [.e0], 0, false⟩,
    ⟨none, none, .st none 1 (.tmp 5) (.tmp 12), 0, false⟩])
  (.seq (.regN [2, 3, 5] [
    ⟨(some 13), none, .mkf 52 [(.tmp 2), (.tmp 3), (.tmp 5)], 0, false⟩,
    ⟨(some 6), none, .allocH [(.val .nilFunc)], 0, false⟩,
    ⟨none, none, .st none 1 (.tmp 6) (.tmp 13), 0, false⟩])
  (.seq (.regN [2, 5, 6] [
    ⟨(some 14), none, .fldA 3 (.tmp 2), 0, false⟩,
    ⟨(some 15), none, .ld1 none (.tmp 14), 0, false⟩,
    ⟨(some 16), none, .mkf 53 [(.tmp 5), (.tmp 6)], 0, false⟩,
    ⟨(some 17), none, .call 38 [(.tmp 15), (.tmp 16)], 0, false⟩])
  (.seq (.regN [5] [
    ⟨(some 18), none, .ld1 none (.tmp 5), 0, false⟩,
    ⟨(some 4), none, .mv (.tmp 18), 0, false⟩])
  .ret))))))
def t37 : AFn := ⟨2, t37B,
  [.tmp 4], true⟩
/-- viewport/gram.derive$1  -/
def t52B : AC := (.seq (.regN [0, 1, 2, 3] [
    ⟨(some 5), none, .mv (.con (.val (.bool false))), 0, false⟩])
  (.seq (.regN [0, 1, 2, 3] [
    ⟨(some 6), none, .mv (.tmp 0), 0, false⟩,
    ⟨(some 7), none, .fldA 0 (.tmp 1), 0, false⟩,
    ⟨(some 8), none, .ld1 none (.tmp 7), 0, false⟩,
    ⟨(some 9), none, .bini .lss (.tmp 6) (.tmp 8), 0, false⟩,
    ⟨(some 10), none, .mv (.tmp 9), 0, false⟩,
    ⟨(some 11), (some (10, true)), .ld1 none (.tmp 2), 0, false⟩,
    ⟨(some 12), (some (10, true)), .not (.tmp 11), 0, false⟩,
    ⟨(some 13), none, .pick (.tmp 10) (.tmp 12) (.con (.val (.bool false))), 0, false⟩,
    ⟨(some 14), none, .mv (.tmp 13), 0, false⟩,
    ⟨(some 15), (some (14, false)), .mv (.tmp 0), 0, false⟩,
    ⟨(some 16), (some (14, false)), .fldA 0 (.tmp 1), 0, false⟩,
    ⟨(some 17), (some (14, false)), .ld1 none (.tmp 16), 0, false⟩,
    ⟨(some 18), (some (14, false)), .bini .geq (.tmp 15) (.tmp 17), 0, false⟩,
    ⟨(some 19), (some (14, false)), .mv (.tmp 18), 0, false⟩,
    ⟨(some 20), (some (19, true)), .ld1 none (.tmp 3), 0, false⟩,
    ⟨(some 21), (some (19, true)), .mv (.tmp 0), 0, false⟩,
    ⟨(some 22), (some (19, true)), .fldA 0 (.tmp 1), 0, false⟩,
    ⟨(some 23), (some (19, true)), .ld1 none (.tmp 22), 0, false⟩,
    ⟨(some 24), (some (19, true)), .bini .sub (.tmp 21) (.tmp 23), 0, false⟩,
    ⟨(some 25), (some (19, true)), .ixA 1 (.tmp 20) (.tmp 24), 0, false⟩,
    ⟨(some 26), (some (19, true)), .ld1 none (.tmp 25), 0, false⟩,
    ⟨(some 27), (some (19, true)), .not (.tmp 26), 0, false⟩,
    ⟨(some 28), (some (14, false)), .pick (.tmp 19) (.tmp 27) (.con (.val (.bool false))), 0, false⟩,
    ⟨(some 29), none, .pick (.tmp 14) (.con (.val (.bool true))) (.tmp 28), 0, false⟩,
    ⟨(some 5), none, .mv (.tmp 29), 0, false⟩])
  .ret))
def t52 : AFn := ⟨4, t52B,
  [.tmp 5], true⟩
/-- viewport/gram.derive$2  -/
def t53B : AC := (.seq (.regN [0, 1, 2] [
    ⟨(some 3), none, .boxR 2 (.tmp 0), 0, false⟩,
    ⟨(some 4), none, .mv (.con (.val (.bool false))), 0, false⟩])
  (.seq (.seq (.regN [1, 2, 3] [
    ⟨(some 5), none, .ld1 none (.tmp 1), 0, false⟩,
    ⟨(some 6), none, .fldA 0 (.tmp 3), 0, false⟩,
    ⟨(some 7), none, .ld1 (some 3) (.tmp 6), 0, false⟩,
    ⟨(some 8), none, .ixA 1 (.tmp 5) (.tmp 7), 0, false⟩,
    ⟨(some 9), none, .ld1 none (.tmp 8), 0, false⟩,
    ⟨(some 10), none, .mv (.tmp 9), 0, false⟩,
    ⟨(some 11), (some (10, false)), .fldA 1 (.tmp 3), 0, false⟩,
    ⟨(some 12), (some (10, false)), .ld1 (some 3) (.tmp 11), 0, false⟩,
    ⟨(some 13), (some (10, false)), .ld1 none (.tmp 2), 0, false⟩,
    ⟨(some 14), (some (10, false)), .call 35 [(.tmp 12), (.tmp 13)], 0, false⟩,
    ⟨(some 15), none, .pick (.tmp 10) (.con (.val (.bool true))) (.tmp 14), 0, false⟩])
  (.cond (.tmp 15)
    (.seq (.regN [] [
      ⟨(some 4), none, .mv (.con (.val (.bool false))), 0, false⟩])
    .ret)
    .skip))
  (.seq (.regN [1, 3] [
    ⟨(some 16), none, .ld1 none (.tmp 1), 0, false⟩,
    ⟨(some 17), none, .fldA 0 (.tmp 3), 0, false⟩,
    ⟨(some 18), none, .ld1 (some 3) (.tmp 17), 0, false⟩,
    ⟨(some 19), none, .ixA 1 (.tmp 16) (.tmp 18), 0, false⟩,
    ⟨none, none, .st none 1 (.tmp 19) (.con (.val (.bool true))), 0, false⟩])
  (.seq (.regN [] [
    ⟨(some 4), none, .mv (.con (.val (.bool true))), 0, false⟩])
  .ret))))
def t53 : AFn := ⟨3, t53B,
  [.tmp 4], true⟩
/-- viewport/gram.grow[viewport/api.Prod]  -/
def t38L1 : AC := (.seq (.regN [0, 1, 4, 8, 9, 10] [
              ⟨(some 11), none, .bini .lss (.tmp 10) (.tmp 9), 0, false⟩])
            (.seq (.cond (.tmp 11)
              .skip
              (.exit 2))
            (.seq (.block 3
              (.seq (.regN [0, 1, 4, 8, 9, 10] [
                ⟨(some 12), none, .ixA 2 (.tmp 8) (.tmp 10), 0, false⟩,
                ⟨(some 13), none, .ldA none 2 (.tmp 12), 0, false⟩,
                ⟨(some 6), none, .allocR [(.val (.int .i64 0)), .e0], 0, false⟩,
                ⟨none, none, .st (some 6) 2 (.tmp 6) (.tmp 13), 0, false⟩])
              (.regN [0, 1, 4, 6, 8, 9, 10] [
                ⟨(some 14), none, .mv (.tmp 1), 0, false⟩,
                ⟨(some 15), none, .ldA (some 6) 2 (.tmp 6), 0, false⟩,
                ⟨(some 16), none, .callv (.tmp 14) [(.tmp 15)], 0, false⟩,
                ⟨(some 17), none, .mv (.tmp 16), 0, false⟩,
                ⟨(some 18), (some (17, false)), .mv (.tmp 4), 0, false⟩,
                ⟨(some 19), none, .pick (.tmp 17) (.con (.val (.bool true))) (.tmp 18), 0, false⟩,
                ⟨(some 4), none, .mv (.tmp 19), 0, false⟩])))
            (.regN [0, 1, 4, 8, 9, 10] [
              ⟨(some 20), none, .bini .add (.tmp 10) (.con (.val (.int .i64 1))), 0, false⟩,
              ⟨(some 10), none, .mv (.tmp 20), 0, false⟩]))))
def t38L2 : AC := (.seq (.seq (.regN [0, 1, 4] [
        ⟨(some 7), none, .mv (.tmp 4), 0, false⟩])
      (.cond (.tmp 7)
        .skip
        (.exit 0)))
      (.block 1
        (.seq (.regN [0, 1] [
          ⟨(some 4), none, .mv (.con (.val (.bool false))), 0, false⟩])
        (.seq (.regN [0, 1, 4] [
          ⟨(some 8), none, .mv (.tmp 0), 0, false⟩,
          ⟨(some 9), none, .len false (.tmp 8), 0, false⟩,
          ⟨(some 10), none, .mv (.con (.val (.int .i64 0))), 0, false⟩])
        (.block 2
          (.loop [0, 1, 4, 8, 9, 10] t38L1))))))
def t38B : AC := (.seq (.regN [0, 1] [
    ⟨(some 4), none, .mv (.con (.val (.bool true))), 0, false⟩])
  (.block 0
    (.loop [0, 1, 4] t38L2)))
def t38 : AFn := ⟨2, t38B,
  [], true⟩
/-- viewport/gram.Left$1  -/
def t39L1 : AC := (.seq (.regN [1, 5, 6, 8, 20, 21, 22, 29, 30, 31] [
              ⟨(some 32), none, .bini .lss (.tmp 31) (.tmp 30), 0, false⟩])
            (.seq (.cond (.tmp 32)
              .skip
              (.exit 2))
            (.seq (.block 3
              (.seq (.regN [1, 5, 6, 8, 20, 21, 22, 29, 30, 31] [
                ⟨(some 33), none, .mv (.tmp 31), 0, false⟩,
                ⟨(some 34), none, .ixA 1 (.tmp 29) (.tmp 31), 0, false⟩,
                ⟨(some 35), none, .ld1 none (.tmp 34), 0, false⟩,
                ⟨(some 9), none, .mv (.tmp 33), 0, false⟩,
                ⟨(some 10), none, .mv (.tmp 35), 0, false⟩])
              (.seq (.regN [1, 5, 6, 8, 9, 10, 20, 21, 22, 29, 30, 31] [
                ⟨(some 36), none, .mv (.tmp 10), 0, false⟩,
                ⟨(some 37), none, .mv (.tmp 36), 0, false⟩,
                ⟨(some 38), (some (37, false)), .mv (.tmp 9), 0, false⟩,
                ⟨(some 39), (some (37, false)), .mv (.tmp 8), 0, false⟩,
                ⟨(some 40), (some (37, false)), .bini .eql (.tmp 38) (.tmp 39), 0, false⟩,
                ⟨(some 41), none, .pick (.tmp 37) (.con (.val (.bool true))) (.tmp 40), 0, false⟩,
                ⟨(some 42), none, .mv (.tmp 41), 0, false⟩,
                ⟨(some 43), (some (42, true)), .mv (.tmp 6), 0, false⟩,
                ⟨(some 44), (some (42, true)), .mv (.tmp 9), 0, false⟩,
                ⟨(some 45), (some (42, true)), .ixA 1 (.tmp 43) (.tmp 44), 0, false⟩,
                ⟨(some 46), (some (42, true)), .ld1 none (.tmp 45), 0, false⟩,
                ⟨(some 47), (some (42, true)), .not (.tmp 46), 0, false⟩,
                ⟨(some 48), none, .pick (.tmp 42) (.tmp 47) (.con (.val (.bool false))), 0, false⟩])
              (.cond (.tmp 48)
                (.regN [1, 6, 8, 9, 20, 21, 22, 29, 30, 31] [
                  ⟨(some 49), none, .mv (.tmp 6), 0, false⟩,
                  ⟨(some 50), none, .mv (.tmp 9), 0, false⟩,
                  ⟨(some 51), none, .ixA 1 (.tmp 49) (.tmp 50), 0, false⟩,
                  ⟨none, none, .st none 1 (.tmp 51) (.con (.val (.bool true))), 0, false⟩,
                  ⟨(some 5), none, .mv (.con (.val (.bool true))), 0, false⟩])
                .skip))))
            (.regN [1, 5, 6, 8, 20, 21, 22, 29, 30, 31] [
              ⟨(some 52), none, .bini .add (.tmp 31) (.con (.val (.int .i64 1))), 0, false⟩,
              ⟨(some 31), none, .mv (.tmp 52), 0, false⟩]))))
def t39L2 : AC := (.seq (.regN [1, 5, 6, 20, 21, 22] [
        ⟨(some 23), none, .bini .lss (.tmp 22) (.tmp 21), 0, false⟩])
      (.seq (.cond (.tmp 23)
        .skip
        (.exit 0))
      (.seq (.block 1
        (.seq (.regN [1, 5, 6, 20, 21, 22] [
          ⟨(some 24), none, .ixA 1 (.tmp 20) (.tmp 22), 0, false⟩,
          ⟨(some 25), none, .ld1 none (.tmp 24), 0, false⟩,
          ⟨(some 8), none, .mv (.tmp 25), 0, false⟩])
        (.seq (.regN [1, 5, 6, 8, 20, 21, 22] [
          ⟨(some 26), none, .ld1 none (.tmp 1), 0, false⟩,
          ⟨(some 27), none, .mv (.tmp 8), 0, false⟩,
          ⟨(some 28), none, .ixA 1 (.tmp 26) (.tmp 27), 0, false⟩,
          ⟨(some 29), none, .ld1 none (.tmp 28), 0, false⟩,
          ⟨(some 30), none, .len false (.tmp 29), 0, false⟩,
          ⟨(some 31), none, .mv (.con (.val (.int .i64 0))), 0, false⟩])
        (.block 2
          (.loop [1, 5, 6, 8, 20, 21, 22, 29, 30, 31] t39L1)))))
      (.regN [1, 5, 6, 20, 21, 22] [
        ⟨(some 53), none, .bini .add (.tmp 22) (.con (.val (.int .i64 1))), 0, false⟩,
        ⟨(some 22), none, .mv (.tmp 53), 0, false⟩]))))
def t39B : AC := (.seq (.regN [0, 1, 2, 3] [
    ⟨(some 4), none, .boxR 2 (.tmp 0), 0, false⟩,
    ⟨(some 5), none, .mv (.con (.val (.bool false))), 0, false⟩])
  (.seq (.regN [1, 2, 3, 4, 5] [
    ⟨(some 11), none, .ld1 none (.tmp 1), 0, false⟩,
    ⟨(some 12), none, .fldA 0 (.tmp 4), 0, false⟩,
    ⟨(some 13), none, .ld1 (some 4) (.tmp 12), 0, false⟩,
    ⟨(some 14), none, .ixA 1 (.tmp 11) (.tmp 13), 0, false⟩,
    ⟨(some 15), none, .ld1 none (.tmp 14), 0, false⟩,
    ⟨(some 6), none, .mv (.tmp 15), 0, false⟩])
  (.seq (.seq (.regN [1, 2, 3, 4, 5, 6] [
    ⟨(some 16), none, .ldA none 4 (.tmp 2), 0, false⟩,
    ⟨(some 17), none, .ld1 none (.tmp 3), 0, false⟩,
    ⟨(some 18), none, .fldA 1 (.tmp 4), 0, false⟩,
    ⟨(some 19), none, .ld1 (some 4) (.tmp 18), 0, false⟩,
    ⟨(some 20), none, .call 40 [(.tmp 16), (.tmp 17), (.tmp 19)], 0, false⟩,
    ⟨(some 21), none, .len false (.tmp 20), 0, false⟩,
    ⟨(some 22), none, .mv (.con (.val (.int .i64 0))), 0, false⟩])
  (.block 0
    (.loop [1, 5, 6, 20, 21, 22] t39L2)))
  (.seq (.regN [5] [
    ⟨(some 54), none, .mv (.tmp 5), 0, false⟩,
    ⟨(some 5), none, .mv (.tmp 54), 0, false⟩])
  .ret))))
def t39 : AFn := ⟨4, t39B,
  [.tmp 5], true⟩
/-- viewport/gram.begins  -/
def t40L1 : AC := (.seq (.regN [1, 3, 6, 9, 10, 11] [
        ⟨(some 12), none, .bini .lss (.tmp 11) (.tmp 10), 0, false⟩])
      (.seq (.cond (.tmp 12)
        .skip
        (.exit 0))
      (.seq (.block 1
        (.seq (.regN [1, 3, 6, 9, 10, 11] [
          ⟨(some 13), none, .ixA 1 (.tmp 9) (.tmp 11), 0, false⟩,
          ⟨(some 14), none, .ld1 none (.tmp 13), 0, false⟩,
          ⟨(some 8), none, .mv (.tmp 14), 0, false⟩])
        (.seq (.seq (.regN [1, 3, 6, 8, 9, 10, 11] [
          ⟨(some 15), none, .mv (.tmp 8), 0, false⟩,
          ⟨(some 16), none, .fldA 0 (.tmp 3), 0, false⟩,
          ⟨(some 17), none, .ld1 (some 3) (.tmp 16), 0, false⟩,
          ⟨(some 18), none, .bini .lss (.tmp 15) (.tmp 17), 0, false⟩])
        (.cond (.tmp 18)
          (.exit 0)
          .skip))
        (.seq (.regN [1, 3, 6, 8, 9, 10, 11] [
          ⟨(some 19), none, .mv (.tmp 6), 0, false⟩,
          ⟨(some 20), none, .mv (.tmp 8), 0, false⟩,
          ⟨(some 21), none, .fldA 0 (.tmp 3), 0, false⟩,
          ⟨(some 22), none, .ld1 (some 3) (.tmp 21), 0, false⟩,
          ⟨(some 23), none, .bini .sub (.tmp 20) (.tmp 22), 0, false⟩,
          ⟨(some 24), none, .buildS 1 [(.val (.int .i64 0))] [(0, 1, (.tmp 23))], 0, false⟩,
          ⟨(some 25), none, .app 1 8 (.tmp 19) (.tmp 24), 0, false⟩,
          ⟨(some 6), none, .mv (.tmp 25), 0, false⟩])
        (.seq (.regN [1, 3, 6, 8, 9, 10, 11] [
          ⟨(some 26), none, .mv (.tmp 1), 0, false⟩,
          ⟨(some 27), none, .mv (.tmp 8), 0, false⟩,
          ⟨(some 28), none, .fldA 0 (.tmp 3), 0, false⟩,
          ⟨(some 29), none, .ld1 (some 3) (.tmp 28), 0, false⟩,
          ⟨(some 30), none, .bini .sub (.tmp 27) (.tmp 29), 0, false⟩,
          ⟨(some 31), none, .ixA 1 (.tmp 26) (.tmp 30), 0, false⟩,
          ⟨(some 32), none, .ld1 none (.tmp 31), 0, false⟩,
          ⟨(some 33), none, .not (.tmp 32), 0, false⟩])
        (.cond (.tmp 33)
          (.exit 0)
          .skip))))))
      (.regN [1, 3, 6, 9, 10, 11] [
        ⟨(some 34), none, .bini .add (.tmp 11) (.con (.val (.int .i64 1))), 0, false⟩,
        ⟨(some 11), none, .mv (.tmp 34), 0, false⟩]))))
def t40B : AC := (.seq (.regN [0, 1, 2] [
    ⟨(some 3), none, .boxR 4 (.tmp 0), 0, false⟩,
    ⟨(some 6), none, .mv (.con .e0), 0, false⟩])
  (.seq (.seq (.regN [1, 2, 3, 6] [
    ⟨(some 9), none, .mv (.tmp 2), 0, false⟩,
    ⟨(some 10), none, .len false (.tmp 9), 0, false⟩,
    ⟨(some 11), none, .mv (.con (.val (.int .i64 0))), 0, false⟩])
  (.block 0
    (.loop [1, 3, 6, 9, 10, 11] t40L1)))
  (.seq (.regN [6] [
    ⟨(some 35), none, .mv (.tmp 6), 0, false⟩,
    ⟨(some 6), none, .mv (.tmp 35), 0, false⟩])
  .ret)))
def t40 : AFn := ⟨3, t40B,
  [.tmp 6], true⟩
/-- viewport/viewportkit.Same[bool]  -/
def t15L1 : AC := (.seq (.seq (.regN [0, 1, 5] [
        ⟨(some 11), none, .mv (.tmp 5), 0, false⟩,
        ⟨(some 12), none, .mv (.tmp 0), 0, false⟩,
        ⟨(some 13), none, .len false (.tmp 12), 0, false⟩,
        ⟨(some 14), none, .bini .lss (.tmp 11) (.tmp 13), 0, false⟩])
      (.cond (.tmp 14)
        .skip
        (.exit 0)))
      (.seq (.block 1
        (.seq (.regD [0, 1, 5] 0 [
          ⟨(some 17), none, .mv (.tmp 0), 0, false⟩,
          ⟨(some 18), none, .mv (.tmp 5), 0, false⟩,
          ⟨(some 19), none, .ixA 1 (.tmp 17) (.tmp 18), 0, false⟩,
          ⟨(some 20), none, .ld1 none (.tmp 19), 0, false⟩,
          ⟨(some 21), none, .mv (.tmp 1), 0, false⟩,
          ⟨(some 22), none, .mv (.tmp 5), 0, false⟩,
          ⟨(some 23), none, .ixA 1 (.tmp 21) (.tmp 22), 0, false⟩,
          ⟨(some 24), none, .ld1 none (.tmp 23), 0, false⟩,
          ⟨(some 25), none, .eqb true (.tmp 20) (.tmp 24), 0, false⟩])
        (.cond (.tmp 25)
          (.seq (.regN [] [
            ⟨(some 4), none, .mv (.con (.val (.bool false))), 0, false⟩])
          .ret)
          .skip)))
      (.regN [0, 1, 5] [
        ⟨(some 15), none, .mv (.tmp 5), 0, false⟩,
        ⟨(some 16), none, .bini .add (.tmp 15) (.con (.val (.int .i64 1))), 0, false⟩,
        ⟨(some 5), none, .mv (.tmp 16), 0, false⟩])))
def t15B : AC := (.seq (.regN [0, 1] [
    ⟨(some 4), none, .mv (.con (.val (.bool false))), 0, false⟩])
  (.seq (.seq (.regN [0, 1] [
    ⟨(some 6), none, .mv (.tmp 0), 0, false⟩,
    ⟨(some 7), none, .len false (.tmp 6), 0, false⟩,
    ⟨(some 8), none, .mv (.tmp 1), 0, false⟩,
    ⟨(some 9), none, .len false (.tmp 8), 0, false⟩,
    ⟨(some 10), none, .bini .neq (.tmp 7) (.tmp 9), 0, false⟩])
  (.cond (.tmp 10)
    (.seq (.regN [] [
      ⟨(some 4), none, .mv (.con (.val (.bool false))), 0, false⟩])
    .ret)
    .skip))
  (.seq (.seq (.regN [0, 1] [
    ⟨(some 5), none, .mv (.con (.val (.int .i64 0))), 0, false⟩])
  (.block 0
    (.loop [0, 1, 5] t15L1)))
  (.seq (.regN [] [
    ⟨(some 4), none, .mv (.con (.val (.bool true))), 0, false⟩])
  .ret))))
def t15 : AFn := ⟨2, t15B,
  [.tmp 4], true⟩
/-- viewport/viewportkit.LightGrammar  -/
def t10L1 : AC := (.seq (.seq (.regN [1, 3] [
        ⟨(some 8), none, .mv (.tmp 3), 0, false⟩,
        ⟨(some 9), none, .fldA 3 (.tmp 1), 0, false⟩,
        ⟨(some 10), none, .ld1 (some 1) (.tmp 9), 0, false⟩,
        ⟨(some 11), none, .len false (.tmp 10), 0, false⟩,
        ⟨(some 12), none, .bini .lss (.tmp 8) (.tmp 11), 0, false⟩])
      (.cond (.tmp 12)
        .skip
        (.exit 0)))
      (.seq (.block 1
        (.seq (.regN [1, 3] [
          ⟨(some 15), none, .fldA 3 (.tmp 1), 0, false⟩,
          ⟨(some 16), none, .ld1 (some 1) (.tmp 15), 0, false⟩,
          ⟨(some 17), none, .mv (.tmp 3), 0, false⟩,
          ⟨(some 18), none, .ixA 2 (.tmp 16) (.tmp 17), 0, false⟩,
          ⟨(some 19), none, .fldA 1 (.tmp 18), 0, false⟩,
          ⟨(some 20), none, .ld1 none (.tmp 19), 0, false⟩,
          ⟨(some 21), none, .len false (.tmp 20), 0, false⟩,
          ⟨(some 22), none, .bini .gtr (.tmp 21) (.con (.val (.int .i64 5))), 0, false⟩,
          ⟨(some 23), none, .mv (.tmp 22), 0, false⟩,
          ⟨(some 24), (some (23, true)), .fldA 3 (.tmp 1), 0, false⟩,
          ⟨(some 25), (some (23, true)), .ld1 (some 1) (.tmp 24), 0, false⟩,
          ⟨(some 26), (some (23, true)), .mv (.tmp 3), 0, false⟩,
          ⟨(some 27), (some (23, true)), .ixA 2 (.tmp 25) (.tmp 26), 0, false⟩,
          ⟨(some 28), (some (23, true)), .fldA 1 (.tmp 27), 0, false⟩,
          ⟨(some 29), (some (23, true)), .ld1 none (.tmp 28), 0, false⟩,
          ⟨(some 30), (some (23, true)), .len false (.tmp 29), 0, false⟩,
          ⟨(some 31), (some (23, true)), .bini .leq (.tmp 30) (.con (.val (.int .i64 8))), 0, false⟩,
          ⟨(some 32), none, .pick (.tmp 23) (.tmp 31) (.con (.val (.bool false))), 0, false⟩,
          ⟨(some 33), none, .mv (.tmp 32), 0, false⟩,
          ⟨(some 34), (some (33, false)), .fldA 3 (.tmp 1), 0, false⟩,
          ⟨(some 35), (some (33, false)), .ld1 (some 1) (.tmp 34), 0, false⟩,
          ⟨(some 36), (some (33, false)), .mv (.tmp 3), 0, false⟩,
          ⟨(some 37), (some (33, false)), .ixA 2 (.tmp 35) (.tmp 36), 0, false⟩,
          ⟨(some 38), (some (33, false)), .fldA 1 (.tmp 37), 0, false⟩,
          ⟨(some 39), (some (33, false)), .ld1 none (.tmp 38), 0, false⟩,
          ⟨(some 40), (some (33, false)), .len false (.tmp 39), 0, false⟩,
          ⟨(some 41), (some (33, false)), .bini .gtr (.tmp 40) (.con (.val (.int .i64 100))), 0, false⟩,
          ⟨(some 42), none, .pick (.tmp 33) (.con (.val (.bool true))) (.tmp 41), 0, false⟩])
        (.cond (.tmp 42)
          (.seq (.regN [] [
            ⟨(some 2), none, .mv (.con (.val (.bool false))), 0, false⟩])
          .ret)
          .skip)))
      (.regN [1, 3] [
        ⟨(some 13), none, .mv (.tmp 3), 0, false⟩,
        ⟨(some 14), none, .bini .add (.tmp 13) (.con (.val (.int .i64 1))), 0, false⟩,
        ⟨(some 3), none, .mv (.tmp 14), 0, false⟩])))
def t10B : AC := (.seq (.regN [0] [
    ⟨(some 1), none, .boxR 4 (.tmp 0), 0, false⟩,
    ⟨(some 2), none, .mv (.con (.val (.bool false))), 0, false⟩])
  (.seq (.seq (.regN [1] [
    ⟨(some 4), none, .fldA 3 (.tmp 1), 0, false⟩,
    ⟨(some 5), none, .ld1 (some 1) (.tmp 4), 0, false⟩,
    ⟨(some 6), none, .len false (.tmp 5), 0, false⟩,
    ⟨(some 7), none, .bini .gtr (.tmp 6) (.con (.val (.int .i64 100))), 0, false⟩])
  (.cond (.tmp 7)
    (.seq (.regN [] [
      ⟨(some 2), none, .mv (.con (.val (.bool false))), 0, false⟩])
    .ret)
    .skip))
  (.seq (.seq (.regN [1] [
    ⟨(some 3), none, .mv (.con (.val (.int .i64 0))), 0, false⟩])
  (.block 0
    (.loop [1, 3] t10L1)))
  (.seq (.seq (.regN [1] [
    ⟨(some 43), none, .fldA 0 (.tmp 1), 0, false⟩,
    ⟨(some 44), none, .ld1 (some 1) (.tmp 43), 0, false⟩,
    ⟨(some 45), none, .bini .gtr (.tmp 44) (.con (.val (.int .i64 8))), 0, false⟩,
    ⟨(some 46), none, .mv (.tmp 45), 0, false⟩,
    ⟨(some 47), (some (46, false)), .fldA 1 (.tmp 1), 0, false⟩,
    ⟨(some 48), (some (46, false)), .ld1 (some 1) (.tmp 47), 0, false⟩,
    ⟨(some 49), (some (46, false)), .bini .gtr (.tmp 48) (.con (.val (.int .i64 16))), 0, false⟩,
    ⟨(some 50), none, .pick (.tmp 46) (.con (.val (.bool true))) (.tmp 49), 0, false⟩,
    ⟨(some 51), none, .mv (.tmp 50), 0, false⟩,
    ⟨(some 52), (some (51, false)), .fldA 2 (.tmp 1), 0, false⟩,
    ⟨(some 53), (some (51, false)), .ld1 (some 1) (.tmp 52), 0, false⟩,
    ⟨(some 54), (some (51, false)), .bini .gtr (.tmp 53) (.con (.val (.int .i64 3))), 0, false⟩,
    ⟨(some 55), none, .pick (.tmp 51) (.con (.val (.bool true))) (.tmp 54), 0, false⟩,
    ⟨(some 56), none, .mv (.tmp 55), 0, false⟩,
    ⟨(some 57), (some (56, false)), .fldA 3 (.tmp 1), 0, false⟩,
    ⟨(some 58), (some (56, false)), .ld1 (some 1) (.tmp 57), 0, false⟩,
    ⟨(some 59), (some (56, false)), .len false (.tmp 58), 0, false⟩,
    ⟨(some 60), (some (56, false)), .bini .gtr (.tmp 59) (.con (.val (.int .i64 64))), 0, false⟩,
    ⟨(some 61), none, .pick (.tmp 56) (.con (.val (.bool true))) (.tmp 60), 0, false⟩])
  (.cond (.tmp 61)
    (.seq (.regN [] [
      ⟨(some 2), none, .mv (.con (.val (.bool true))), 0, false⟩])
    .ret)
    .skip))
  (.seq (.regN [1] [
    ⟨(some 62), none, .fldA 0 (.tmp 1), 0, false⟩,
    ⟨(some 63), none, .ld1 (some 1) (.tmp 62), 0, false⟩,
    ⟨(some 64), none, .bini .leq (.tmp 63) (.con (.val (.int .i64 4))), 0, false⟩,
    ⟨(some 65), none, .mv (.tmp 64), 0, false⟩,
    ⟨(some 66), (some (65, true)), .fldA 1 (.tmp 1), 0, false⟩,
    ⟨(some 67), (some (65, true)), .ld1 (some 1) (.tmp 66), 0, false⟩,
    ⟨(some 68), (some (65, true)), .bini .leq (.tmp 67) (.con (.val (.int .i64 6))), 0, false⟩,
    ⟨(some 69), none, .pick (.tmp 65) (.tmp 68) (.con (.val (.bool false))), 0, false⟩,
    ⟨(some 70), none, .mv (.tmp 69), 0, false⟩,
    ⟨(some 71), (some (70, true)), .fldA 3 (.tmp 1), 0, false⟩,
    ⟨(some 72), (some (70, true)), .ld1 (some 1) (.tmp 71), 0, false⟩,
    ⟨(some 73), (some (70, true)), .len false (.tmp 72), 0, false⟩,
    ⟨(some 74), (some (70, true)), .bini .leq (.tmp 73) (.con (.val (.int .i64 14))), 0, false⟩,
    ⟨(some 75), none, .pick (.tmp 70) (.tmp 74) (.con (.val (.bool false))), 0, false⟩,
    ⟨(some 76), none, .mv (.tmp 75), 0, false⟩,
    ⟨(some 77), (some (76, true)), .fldA 2 (.tmp 1), 0, false⟩,
    ⟨(some 78), (some (76, true)), .ld1 (some 1) (.tmp 77), 0, false⟩,
    ⟨(some 79), (some (76, true)), .bini .leq (.tmp 78) (.con (.val (.int .i64 2))), 0, false⟩,
    ⟨(some 80), (some (76, true)), .mv (.tmp 79), 0, false⟩,
    ⟨(some 81), (some (80, false)), .fldA 0 (.tmp 1), 0, false⟩,
    ⟨(some 82), (some (80, false)), .ld1 (some 1) (.tmp 81), 0, false⟩,
    ⟨(some 83), (some (80, false)), .bini .leq (.tmp 82) (.con (.val (.int .i64 3))), 0, false⟩,
    ⟨(some 84), (some (76, true)), .pick (.tmp 80) (.con (.val (.bool true))) (.tmp 83), 0, false⟩,
    ⟨(some 85), none, .pick (.tmp 76) (.tmp 84) (.con (.val (.bool false))), 0, false⟩,
    ⟨(some 2), none, .mv (.tmp 85), 0, false⟩])
  .ret)))))
def t10 : AFn := ⟨1, t10B,
  [.tmp 2], true⟩
/-- viewport/viewportlaw11.GramGrounded  -/
def t4L1 : AC := (.seq (.seq (.regN [1, 3, 4, 5, 6, 7, 8, 9] [
                    ⟨(some 81), none, .mv (.tmp 9), 0, false⟩,
                    ⟨(some 82), none, .fldA 1 (.tmp 8), 0, false⟩,
                    ⟨(some 83), none, .ld1 (some 8) (.tmp 82), 0, false⟩,
                    ⟨(some 84), none, .len false (.tmp 83), 0, false⟩,
                    ⟨(some 85), none, .bini .lss (.tmp 81) (.tmp 84), 0, false⟩,
                    ⟨(some 86), none, .mv (.tmp 85), 0, false⟩,
                    ⟨(some 87), (some (86, true)), .mv (.tmp 5), 0, false⟩,
                    ⟨(some 88), (some (86, true)), .fldA 0 (.tmp 8), 0, false⟩,
                    ⟨(some 89), (some (86, true)), .ld1 (some 8) (.tmp 88), 0, false⟩,
                    ⟨(some 90), (some (86, true)), .ixA 1 (.tmp 87) (.tmp 89), 0, false⟩,
                    ⟨(some 91), (some (86, true)), .ld1 none (.tmp 90), 0, false⟩,
                    ⟨(some 92), none, .pick (.tmp 86) (.tmp 91) (.con (.val (.bool false))), 0, false⟩])
                  (.cond (.tmp 92)
                    .skip
                    (.exit 4)))
                  (.seq (.block 5
                    (.seq (.regD [1, 3, 4, 5, 6, 7, 8, 9] 0 [
                      ⟨(some 95), none, .fldA 1 (.tmp 8), 0, false⟩,
                      ⟨(some 96), none, .ld1 (some 8) (.tmp 95), 0, false⟩,
                      ⟨(some 97), none, .mv (.tmp 9), 0, false⟩,
                      ⟨(some 98), none, .ixA 1 (.tmp 96) (.tmp 97), 0, false⟩,
                      ⟨(some 99), none, .ld1 none (.tmp 98), 0, false⟩,
                      ⟨(some 100), none, .fldA 0 (.tmp 1), 0, false⟩,
                      ⟨(some 101), none, .ld1 (some 1) (.tmp 100), 0, false⟩,
                      ⟨(some 102), none, .bini .geq (.tmp 99) (.tmp 101), 0, false⟩])
                    (.cond (.tmp 102)
                      (.regD [1, 3, 4, 5, 6, 7, 8, 9] 0 [
                        ⟨(some 103), none, .mv (.tmp 5), 0, false⟩,
                        ⟨(some 104), none, .fldA 1 (.tmp 8), 0, false⟩,
                        ⟨(some 105), none, .ld1 (some 8) (.tmp 104), 0, false⟩,
                        ⟨(some 106), none, .mv (.tmp 9), 0, false⟩,
                        ⟨(some 107), none, .ixA 1 (.tmp 105) (.tmp 106), 0, false⟩,
                        ⟨(some 108), none, .ld1 none (.tmp 107), 0, false⟩,
                        ⟨(some 109), none, .fldA 0 (.tmp 1), 0, false⟩,
                        ⟨(some 110), none, .ld1 (some 1) (.tmp 109), 0, false⟩,
                        ⟨(some 111), none, .bini .sub (.tmp 108) (.tmp 110), 0, false⟩,
                        ⟨(some 112), none, .ixA 1 (.tmp 103) (.tmp 111), 0, false⟩,
                        ⟨none, none, .st none 1 (.tmp 112) (.con (.val (.bool true))), 0, false⟩])
                      .skip)))
                  (.regN [1, 3, 4, 5, 6, 7, 8, 9] [
                    ⟨(some 93), none, .mv (.tmp 9), 0, false⟩,
                    ⟨(some 94), none, .bini .add (.tmp 93) (.con (.val (.int .i64 1))), 0, false⟩,
                    ⟨(some 9), none, .mv (.tmp 94), 0, false⟩])))
def t4L2 : AC := (.seq (.seq (.regN [1, 3, 4, 5, 6, 7] [
              ⟨(some 37), none, .mv (.tmp 7), 0, false⟩,
              ⟨(some 38), none, .fldA 3 (.tmp 1), 0, false⟩,
              ⟨(some 39), none, .ld1 (some 1) (.tmp 38), 0, false⟩,
              ⟨(some 40), none, .len false (.tmp 39), 0, false⟩,
              ⟨(some 41), none, .bini .lss (.tmp 37) (.tmp 40), 0, false⟩])
            (.cond (.tmp 41)
              .skip
              (.exit 2)))
            (.seq (.block 3
              (.seq (.regN [1, 3, 4, 5, 6, 7] [
                ⟨(some 44), none, .fldA 3 (.tmp 1), 0, false⟩,
                ⟨(some 45), none, .ld1 (some 1) (.tmp 44), 0, false⟩,
                ⟨(some 46), none, .mv (.tmp 7), 0, false⟩,
                ⟨(some 47), none, .ixA 2 (.tmp 45) (.tmp 46), 0, false⟩,
                ⟨(some 48), none, .ldA none 2 (.tmp 47), 0, false⟩,
                ⟨(some 8), none, .allocR [(.val (.int .i64 0)), .e0], 0, false⟩,
                ⟨none, none, .st (some 8) 2 (.tmp 8) (.tmp 48), 0, false⟩])
              (.seq (.regD [1, 3, 4, 5, 6, 7, 8] 0 [
                ⟨(some 49), none, .mv (.tmp 3), 0, false⟩,
                ⟨(some 50), none, .fldA 0 (.tmp 8), 0, false⟩,
                ⟨(some 51), none, .ld1 (some 8) (.tmp 50), 0, false⟩,
                ⟨(some 52), none, .mv (.tmp 3), 0, false⟩,
                ⟨(some 53), none, .fldA 0 (.tmp 8), 0, false⟩,
                ⟨(some 54), none, .ld1 (some 8) (.tmp 53), 0, false⟩,
                ⟨(some 55), none, .ixA 1 (.tmp 52) (.tmp 54), 0, false⟩,
                ⟨(some 56), none, .ld1 none (.tmp 55), 0, false⟩,
                ⟨(some 57), none, .mv (.tmp 56), 0, false⟩,
                ⟨(some 58), (some (57, false)), .ldA (some 1) 4 (.tmp 1), 0, false⟩,
                ⟨(some 59), (some (57, false)), .fldA 1 (.tmp 8), 0, false⟩,
                ⟨(some 60), (some (57, false)), .ld1 (some 8) (.tmp 59), 0, false⟩,
                ⟨(some 61), (some (57, false)), .mv (.tmp 3), 0, false⟩,
                ⟨(some 62), (some (57, false)), .call 14 [(.tmp 58), (.tmp 60), (.con (.val (.bool false))), (.tmp 61)], 0, true⟩,
                ⟨(some 63), none, .pick (.tmp 57) (.con (.val (.bool true))) (.tmp 62), 0, false⟩,
                ⟨(some 64), none, .ixA 1 (.tmp 49) (.tmp 51), 0, false⟩,
                ⟨none, none, .st none 1 (.tmp 64) (.tmp 63), 0, false⟩])
              (.seq (.regD [1, 3, 4, 5, 6, 7, 8] 0 [
                ⟨(some 65), none, .mv (.tmp 4), 0, false⟩,
                ⟨(some 66), none, .fldA 0 (.tmp 8), 0, false⟩,
                ⟨(some 67), none, .ld1 (some 8) (.tmp 66), 0, false⟩,
                ⟨(some 68), none, .mv (.tmp 4), 0, false⟩,
                ⟨(some 69), none, .fldA 0 (.tmp 8), 0, false⟩,
                ⟨(some 70), none, .ld1 (some 8) (.tmp 69), 0, false⟩,
                ⟨(some 71), none, .ixA 1 (.tmp 68) (.tmp 70), 0, false⟩,
                ⟨(some 72), none, .ld1 none (.tmp 71), 0, false⟩,
                ⟨(some 73), none, .mv (.tmp 72), 0, false⟩,
                ⟨(some 74), (some (73, false)), .ldA (some 1) 4 (.tmp 1), 0, false⟩,
                ⟨(some 75), (some (73, false)), .fldA 1 (.tmp 8), 0, false⟩,
                ⟨(some 76), (some (73, false)), .ld1 (some 8) (.tmp 75), 0, false⟩,
                ⟨(some 77), (some (73, false)), .mv (.tmp 4), 0, false⟩,
                ⟨(some 78), (some (73, false)), .call 14 [(.tmp 74), (.tmp 76), (.con (.val (.bool true))), (.tmp 77)], 0, true⟩,
                ⟨(some 79), none, .pick (.tmp 73) (.con (.val (.bool true))) (.tmp 78), 0, false⟩,
                ⟨(some 80), none, .ixA 1 (.tmp 65) (.tmp 67), 0, false⟩,
                ⟨none, none, .st none 1 (.tmp 80) (.tmp 79), 0, false⟩])
              (.seq (.regN [1, 3, 4, 5, 6, 7, 8] [
                ⟨(some 9), none, .mv (.con (.val (.int .i64 0))), 0, false⟩])
              (.block 4
                (.loop [1, 3, 4, 5, 6, 7, 8, 9] t4L1)))))))
            (.regN [1, 3, 4, 5, 6, 7] [
              ⟨(some 42), none, .mv (.tmp 7), 0, false⟩,
              ⟨(some 43), none, .bini .add (.tmp 42) (.con (.val (.int .i64 1))), 0, false⟩,
              ⟨(some 7), none, .mv (.tmp 43), 0, false⟩])))
def t4L3 : AC := (.seq (.seq (.regN [1, 3, 4, 5, 6] [
        ⟨(some 31), none, .mv (.tmp 6), 0, false⟩,
        ⟨(some 32), none, .fldA 1 (.tmp 1), 0, false⟩,
        ⟨(some 33), none, .ld1 (some 1) (.tmp 32), 0, false⟩,
        ⟨(some 34), none, .bini .leq (.tmp 31) (.tmp 33), 0, false⟩])
      (.cond (.tmp 34)
        .skip
        (.exit 0)))
      (.seq (.block 1
        (.seq (.regN [1, 3, 4, 5, 6] [
          ⟨(some 7), none, .mv (.con (.val (.int .i64 0))), 0, false⟩])
        (.block 2
          (.loop [1, 3, 4, 5, 6, 7] t4L2))))
      (.regN [1, 3, 4, 5, 6] [
        ⟨(some 35), none, .mv (.tmp 6), 0, false⟩,
        ⟨(some 36), none, .bini .add (.tmp 35) (.con (.val (.int .i64 1))), 0, false⟩,
        ⟨(some 6), none, .mv (.tmp 36), 0, false⟩])))
def t4B : AC := (.seq (.regN [0] [
    ⟨(some 1), none, .boxR 4 (.tmp 0), 0, false⟩,
    ⟨(some 2), none, .mv (.con (.val (.bool false))), 0, false⟩])
  (.seq (.seq (.regN [1] [
    ⟨(some 10), none, .call 9 [], 0, false⟩,
    ⟨(some 11), none, .not (.tmp 10), 0, false⟩])
  (.cond (.tmp 11)
    (.seq (.regN [] [
      ⟨(some 2), none, .mv (.con (.val (.bool false))), 0, false⟩])
    .ret)
    .skip))
  (.seq (.seq (.regN [1] [
    ⟨(some 12), none, .ldA (some 1) 4 (.tmp 1), 0, false⟩,
    ⟨(some 13), none, .call 10 [(.tmp 12)], 0, false⟩,
    ⟨(some 14), none, .not (.tmp 13), 0, false⟩,
    ⟨(some 15), none, .mv (.tmp 14), 0, false⟩,
    ⟨(some 16), (some (15, false)), .ldA (some 1) 4 (.tmp 1), 0, false⟩,
    ⟨(some 17), (some (15, false)), .call 11 [(.tmp 16)], 0, false⟩,
    ⟨(some 18), (some (15, false)), .bini .neq (.tmp 17) (.con (.val (.int .i64 0))), 0, false⟩,
    ⟨(some 19), none, .pick (.tmp 15) (.con (.val (.bool true))) (.tmp 18), 0, false⟩])
  (.cond (.tmp 19)
    (.seq (.regN [] [
      ⟨(some 2), none, .mv (.con (.val (.bool true))), 0, false⟩])
    .ret)
    .skip))
  (.seq (.regD [1] 3 [
    ⟨(some 20), none, .fldA 1 (.tmp 1), 0, false⟩,
    ⟨(some 21), none, .ld1 (some 1) (.tmp 20), 0, false⟩,
    ⟨(some 22), none, .mks 1 1 [(.val (.bool false))] (.tmp 21), 0, false⟩,
    ⟨(some 23), none, .fldA 1 (.tmp 1), 0, false⟩,
    ⟨(some 24), none, .ld1 (some 1) (.tmp 23), 0, false⟩,
    ⟨(some 25), none, .mks 1 1 [(.val (.bool false))] (.tmp 24), 1, false⟩,
    ⟨(some 26), none, .fldA 1 (.tmp 1), 0, false⟩,
    ⟨(some 27), none, .ld1 (some 1) (.tmp 26), 0, false⟩,
    ⟨(some 28), none, .mks 1 1 [(.val (.bool false))] (.tmp 27), 2, false⟩,
    ⟨(some 3), none, .mv (.tmp 22), 0, false⟩,
    ⟨(some 4), none, .mv (.tmp 25), 0, false⟩,
    ⟨(some 5), none, .mv (.tmp 28), 0, false⟩])
  (.seq (.regN [1, 3, 4, 5] [
    ⟨(some 29), none, .mv (.tmp 5), 0, false⟩,
    ⟨(some 30), none, .ixA 1 (.tmp 29) (.con (.val (.int .i64 0))), 0, false⟩,
    ⟨none, none, .st none 1 (.tmp 30) (.con (.val (.bool true))), 0, false⟩])
  (.seq (.seq (.regN [1, 3, 4, 5] [
    ⟨(some 6), none, .mv (.con (.val (.int .i64 0))), 0, false⟩])
  (.block 0
    (.loop [1, 3, 4, 5, 6] t4L3)))
  (.seq (.regN [1, 3, 4, 5] [
    ⟨(some 113), none, .ldA (some 1) 4 (.tmp 1), 0, false⟩,
    ⟨(some 114), none, .call 12 [(.tmp 113)], 0, false⟩,
    ⟨(some 115), none, .mv (.tmp 3), 0, false⟩,
    ⟨(some 116), none, .call 15 [(.tmp 114), (.tmp 115)], 0, false⟩,
    ⟨(some 117), none, .mv (.tmp 116), 0, false⟩,
    ⟨(some 118), (some (117, true)), .ldA (some 1) 4 (.tmp 1), 0, false⟩,
    ⟨(some 119), (some (117, true)), .call 16 [(.tmp 118)], 0, false⟩,
    ⟨(some 120), (some (117, true)), .mv (.tmp 4), 0, false⟩,
    ⟨(some 121), (some (117, true)), .call 15 [(.tmp 119), (.tmp 120)], 0, false⟩,
    ⟨(some 122), none, .pick (.tmp 117) (.tmp 121) (.con (.val (.bool false))), 0, false⟩,
    ⟨(some 123), none, .mv (.tmp 122), 0, false⟩,
    ⟨(some 124), (some (123, true)), .ldA (some 1) 4 (.tmp 1), 0, false⟩,
    ⟨(some 125), (some (123, true)), .call 17 [(.tmp 124)], 0, false⟩,
    ⟨(some 126), (some (123, true)), .mv (.tmp 5), 0, false⟩,
    ⟨(some 127), (some (123, true)), .call 15 [(.tmp 125), (.tmp 126)], 0, false⟩,
    ⟨(some 128), none, .pick (.tmp 123) (.tmp 127) (.con (.val (.bool false))), 0, false⟩,
    ⟨(some 2), none, .mv (.tmp 128), 0, false⟩])
  .ret)))))))
def t4 : AFn := ⟨1, t4B,
  [.tmp 2], true⟩
/-- viewport/viewportlaw11.holds  -/
def t14L1 : AC := (.seq (.seq (.regN [1, 2, 3, 4, 9] [
        ⟨(some 10), none, .mv (.tmp 9), 0, false⟩,
        ⟨(some 11), none, .mv (.tmp 1), 0, false⟩,
        ⟨(some 12), none, .len false (.tmp 11), 0, false⟩,
        ⟨(some 13), none, .bini .lss (.tmp 10) (.tmp 12), 0, false⟩])
      (.cond (.tmp 13)
        .skip
        (.exit 0)))
      (.seq (.block 1
        (.seq (.regD [1, 2, 3, 4, 9] 0 [
          ⟨(some 16), none, .mv (.tmp 1), 0, false⟩,
          ⟨(some 17), none, .mv (.tmp 9), 0, false⟩,
          ⟨(some 18), none, .ixA 1 (.tmp 16) (.tmp 17), 0, false⟩,
          ⟨(some 19), none, .ld1 none (.tmp 18), 0, false⟩,
          ⟨(some 20), none, .fldA 0 (.tmp 4), 0, false⟩,
          ⟨(some 21), none, .ld1 (some 4) (.tmp 20), 0, false⟩,
          ⟨(some 22), none, .bini .lss (.tmp 19) (.tmp 21), 0, false⟩,
          ⟨(some 23), none, .mv (.tmp 22), 0, false⟩,
          ⟨(some 24), (some (23, true)), .mv (.tmp 2), 0, false⟩,
          ⟨(some 25), (some (23, true)), .not (.tmp 24), 0, false⟩,
          ⟨(some 26), none, .pick (.tmp 23) (.tmp 25) (.con (.val (.bool false))), 0, false⟩,
          ⟨(some 27), none, .mv (.tmp 26), 0, false⟩,
          ⟨(some 28), (some (27, false)), .mv (.tmp 1), 0, false⟩,
          ⟨(some 29), (some (27, false)), .mv (.tmp 9), 0, false⟩,
          ⟨(some 30), (some (27, false)), .ixA 1 (.tmp 28) (.tmp 29), 0, false⟩,
          ⟨(some 31), (some (27, false)), .ld1 none (.tmp 30), 0, false⟩,
          ⟨(some 32), (some (27, false)), .fldA 0 (.tmp 4), 0, false⟩,
          ⟨(some 33), (some (27, false)), .ld1 (some 4) (.tmp 32), 0, false⟩,
          ⟨(some 34), (some (27, false)), .bini .geq (.tmp 31) (.tmp 33), 0, false⟩,
          ⟨(some 35), (some (27, false)), .mv (.tmp 34), 0, false⟩,
          ⟨(some 36), (some (35, true)), .mv (.tmp 3), 0, false⟩,
          ⟨(some 37), (some (35, true)), .mv (.tmp 1), 0, false⟩,
          ⟨(some 38), (some (35, true)), .mv (.tmp 9), 0, false⟩,
          ⟨(some 39), (some (35, true)), .ixA 1 (.tmp 37) (.tmp 38), 0, false⟩,
          ⟨(some 40), (some (35, true)), .ld1 none (.tmp 39), 0, false⟩,
          ⟨(some 41), (some (35, true)), .fldA 0 (.tmp 4), 0, false⟩,
          ⟨(some 42), (some (35, true)), .ld1 (some 4) (.tmp 41), 0, false⟩,
          ⟨(some 43), (some (35, true)), .bini .sub (.tmp 40) (.tmp 42), 0, false⟩,
          ⟨(some 44), (some (35, true)), .ixA 1 (.tmp 36) (.tmp 43), 0, false⟩,
          ⟨(some 45), (some (35, true)), .ld1 none (.tmp 44), 0, false⟩,
          ⟨(some 46), (some (35, true)), .not (.tmp 45), 0, false⟩,
          ⟨(some 47), (some (27, false)), .pick (.tmp 35) (.tmp 46) (.con (.val (.bool false))), 0, false⟩,
          ⟨(some 48), none, .pick (.tmp 27) (.con (.val (.bool true))) (.tmp 47), 0, false⟩])
        (.cond (.tmp 48)
          (.seq (.regN [] [
            ⟨(some 8), none, .mv (.con (.val (.bool false))), 0, false⟩])
          .ret)
          .skip)))
      (.regN [1, 2, 3, 4, 9] [
        ⟨(some 14), none, .mv (.tmp 9), 0, false⟩,
        ⟨(some 15), none, .bini .add (.tmp 14) (.con (.val (.int .i64 1))), 0, false⟩,
        ⟨(some 9), none, .mv (.tmp 15), 0, false⟩])))
def t14B : AC := (.seq (.regN [0, 1, 2, 3] [
    ⟨(some 4), none, .boxR 4 (.tmp 0), 0, false⟩,
    ⟨(some 8), none, .mv (.con (.val (.bool false))), 0, false⟩])
  (.seq (.seq (.regN [1, 2, 3, 4] [
    ⟨(some 9), none, .mv (.con (.val (.int .i64 0))), 0, false⟩])
  (.block 0
    (.loop [1, 2, 3, 4, 9] t14L1)))
  (.seq (.regN [] [
    ⟨(some 8), none, .mv (.con (.val (.bool true))), 0, false⟩])
  .ret)))
def t14 : AFn := ⟨4, t14B,
  [.tmp 8], true⟩
/-- viewport/gram.Productive  -/
def t16B : AC := (.seq (.regN [0] [
    ⟨(some 1), none, .boxR 4 (.tmp 0), 0, false⟩,
    ⟨(some 2), none, .mv (.con .e0), 0, false⟩])
  (.seq (.regN [1] [
    ⟨(some 3), none, .ldA (some 1) 4 (.tmp 1), 0, false⟩,
    ⟨(some 4), none, .call 37 [(.tmp 3), (.con (.val (.bool true)))], 0, false⟩,
    ⟨(some 2), none, .mv (.tmp 4), 0, false⟩])
  .ret))
def t16 : AFn := ⟨1, t16B,
  [.tmp 2], true⟩
/-- viewport/gram.Reachable  -/
def t17B : AC := (.seq (.regN [0] [
    ⟨(some 1), none, .boxH 4 (.tmp 0), 0, false⟩,
    ⟨(some 2), none, .mv (.con .e0), 0, false⟩])
  (.seq (.seq (.regN [1] [
    ⟨(some 4), none, .ldA none 4 (.tmp 1), 0, false⟩,
    ⟨(some 5), none, .call 11 [(.tmp 4)], 0, false⟩,
    ⟨(some 6), none, .bini .neq (.tmp 5) (.con (.val (.int .i64 0))), 0, false⟩])
  (.cond (.tmp 6)
    (.seq (.regN [] [
      ⟨(some 2), none, .mv (.con .e0), 0, false⟩])
    .ret)
    .skip))
  (.seq (.regN [1] [
    ⟨(some 7), none, .fldA 1 (.tmp 1), 0, false⟩,
    ⟨(some 8), none, .ld1 none (.tmp 7), 0, false⟩,
    ⟨(some 9), none, .mks 1 1 [(.val (.bool false))] (.tmp 8), 0, false⟩,
    ⟨(some 3), none, .allocH [.e0], 0, false⟩,
    ⟨none, none, .st none 1 (.tmp 3) (.tmp 9), 0, false⟩])
  (.seq (.regN [1, 3] [
    ⟨(some 10), none, .ld1 none (.tmp 3), 0, false⟩,
    ⟨(some 11), none, .ixA 1 (.tmp 10) (.con (.val (.int .i64 0))), 0, false⟩,
    ⟨none, none, .st none 1 (.tmp 11) (.con (.val (.bool true))), 0, false⟩])
  (.seq (.regN [1, 3] [
    ⟨(some 12), none, .fldA 3 (.tmp 1), 0, false⟩,
    ⟨(some 13), none, .ld1 none (.tmp 12), 0, false⟩,
    ⟨(some 14), none, .mkf 41 [(.tmp 3), (.tmp 1)], 0, false⟩,
    ⟨(some 15), none, .call 38 [(.tmp 13), (.tmp 14)], 0, false⟩])
  (.seq (.regN [3] [
    ⟨(some 16), none, .ld1 none (.tmp 3), 0, false⟩,
    ⟨(some 2), none, .mv (.tmp 16), 0, false⟩])
  .ret))))))
def t17 : AFn := ⟨1, t17B,
  [.tmp 2], true⟩
/-- viewport/gram.Reachable$1  -/
def t41L1 : AC := (.seq (.regN [1, 2, 4, 14, 15, 16] [
        ⟨(some 17), none, .bini .lss (.tmp 16) (.tmp 15), 0, false⟩])
      (.seq (.cond (.tmp 17)
        .skip
        (.exit 0))
      (.seq (.block 1
        (.seq (.regN [1, 2, 4, 14, 15, 16] [
          ⟨(some 18), none, .ixA 1 (.tmp 14) (.tmp 16), 0, false⟩,
          ⟨(some 19), none, .ld1 none (.tmp 18), 0, false⟩,
          ⟨(some 6), none, .mv (.tmp 19), 0, false⟩])
        (.seq (.seq (.regN [1, 2, 4, 6, 14, 15, 16] [
          ⟨(some 20), none, .mv (.tmp 6), 0, false⟩,
          ⟨(some 21), none, .fldA 0 (.tmp 2), 0, false⟩,
          ⟨(some 22), none, .ld1 none (.tmp 21), 0, false⟩,
          ⟨(some 23), none, .bini .lss (.tmp 20) (.tmp 22), 0, false⟩,
          ⟨(some 24), none, .mv (.tmp 23), 0, false⟩,
          ⟨(some 25), (some (24, false)), .ld1 none (.tmp 1), 0, false⟩,
          ⟨(some 26), (some (24, false)), .mv (.tmp 6), 0, false⟩,
          ⟨(some 27), (some (24, false)), .fldA 0 (.tmp 2), 0, false⟩,
          ⟨(some 28), (some (24, false)), .ld1 none (.tmp 27), 0, false⟩,
          ⟨(some 29), (some (24, false)), .bini .sub (.tmp 26) (.tmp 28), 0, false⟩,
          ⟨(some 30), (some (24, false)), .ixA 1 (.tmp 25) (.tmp 29), 0, false⟩,
          ⟨(some 31), (some (24, false)), .ld1 none (.tmp 30), 0, false⟩,
          ⟨(some 32), none, .pick (.tmp 24) (.con (.val (.bool true))) (.tmp 31), 0, false⟩])
        (.cond (.tmp 32)
          (.exit 1)
          .skip))
        (.regN [1, 2, 6, 14, 15, 16] [
          ⟨(some 33), none, .ld1 none (.tmp 1), 0, false⟩,
          ⟨(some 34), none, .mv (.tmp 6), 0, false⟩,
          ⟨(some 35), none, .fldA 0 (.tmp 2), 0, false⟩,
          ⟨(some 36), none, .ld1 none (.tmp 35), 0, false⟩,
          ⟨(some 37), none, .bini .sub (.tmp 34) (.tmp 36), 0, false⟩,
          ⟨(some 38), none, .ixA 1 (.tmp 33) (.tmp 37), 0, false⟩,
          ⟨none, none, .st none 1 (.tmp 38) (.con (.val (.bool true))), 0, false⟩,
          ⟨(some 4), none, .mv (.con (.val (.bool true))), 0, false⟩]))))
      (.regN [1, 2, 4, 14, 15, 16] [
        ⟨(some 39), none, .bini .add (.tmp 16) (.con (.val (.int .i64 1))), 0, false⟩,
        ⟨(some 16), none, .mv (.tmp 39), 0, false⟩]))))
def t41B : AC := (.seq (.regN [0, 1, 2] [
    ⟨(some 3), none, .boxR 2 (.tmp 0), 0, false⟩,
    ⟨(some 4), none, .mv (.con (.val (.bool false))), 0, false⟩])
  (.seq (.seq (.regN [1, 2, 3, 4] [
    ⟨(some 7), none, .ld1 none (.tmp 1), 0, false⟩,
    ⟨(some 8), none, .fldA 0 (.tmp 3), 0, false⟩,
    ⟨(some 9), none, .ld1 (some 3) (.tmp 8), 0, false⟩,
    ⟨(some 10), none, .ixA 1 (.tmp 7) (.tmp 9), 0, false⟩,
    ⟨(some 11), none, .ld1 none (.tmp 10), 0, false⟩,
    ⟨(some 12), none, .not (.tmp 11), 0, false⟩])
  (.cond (.tmp 12)
    (.seq (.regN [] [
      ⟨(some 4), none, .mv (.con (.val (.bool false))), 0, false⟩])
    .ret)
    .skip))
  (.seq .skip
  (.seq (.seq (.regN [1, 2, 3, 4] [
    ⟨(some 13), none, .fldA 1 (.tmp 3), 0, false⟩,
    ⟨(some 14), none, .ld1 (some 3) (.tmp 13), 0, false⟩,
    ⟨(some 15), none, .len false (.tmp 14), 0, false⟩,
    ⟨(some 16), none, .mv (.con (.val (.int .i64 0))), 0, false⟩])
  (.block 0
    (.loop [1, 2, 4, 14, 15, 16] t41L1)))
  (.seq (.regN [4] [
    ⟨(some 40), none, .mv (.tmp 4), 0, false⟩,
    ⟨(some 4), none, .mv (.tmp 40), 0, false⟩])
  .ret)))))
def t41 : AFn := ⟨3, t41B,
  [.tmp 4], true⟩
/-- viewport/viewportlaw11.GramClosed  -/
def t5L1 : AC := (.seq (.seq (.regN [1, 3, 4, 5, 6, 7, 8, 9, 10, 11, 12] [
                    ⟨(some 96), none, .mv (.tmp 12), 0, false⟩,
                    ⟨(some 97), none, .mv (.tmp 11), 0, false⟩,
                    ⟨(some 98), none, .len false (.tmp 97), 0, false⟩,
                    ⟨(some 99), none, .bini .lss (.tmp 96) (.tmp 98), 0, false⟩])
                  (.cond (.tmp 99)
                    .skip
                    (.exit 4)))
                  (.seq (.block 5
                    (.seq (.regD [1, 3, 4, 5, 6, 7, 8, 9, 10, 11, 12] 0 [
                      ⟨(some 102), none, .mv (.tmp 5), 0, false⟩,
                      ⟨(some 103), none, .mv (.tmp 6), 0, false⟩,
                      ⟨(some 104), none, .ixA 1 (.tmp 102) (.tmp 103), 0, false⟩,
                      ⟨(some 105), none, .ld1 none (.tmp 104), 0, false⟩,
                      ⟨(some 106), none, .mv (.tmp 105), 0, false⟩,
                      ⟨(some 107), (some (106, true)), .mv (.tmp 11), 0, false⟩,
                      ⟨(some 108), (some (106, true)), .mv (.tmp 12), 0, false⟩,
                      ⟨(some 109), (some (106, true)), .ixA 1 (.tmp 107) (.tmp 108), 0, false⟩,
                      ⟨(some 110), (some (106, true)), .ld1 none (.tmp 109), 0, false⟩,
                      ⟨(some 111), (some (106, true)), .fldA 0 (.tmp 1), 0, false⟩,
                      ⟨(some 112), (some (106, true)), .ld1 (some 1) (.tmp 111), 0, false⟩,
                      ⟨(some 113), (some (106, true)), .bini .geq (.tmp 110) (.tmp 112), 0, false⟩,
                      ⟨(some 114), none, .pick (.tmp 106) (.tmp 113) (.con (.val (.bool false))), 0, false⟩,
                      ⟨(some 115), none, .mv (.tmp 114), 0, false⟩,
                      ⟨(some 116), (some (115, true)), .mv (.tmp 5), 0, false⟩,
                      ⟨(some 117), (some (115, true)), .mv (.tmp 11), 0, false⟩,
                      ⟨(some 118), (some (115, true)), .mv (.tmp 12), 0, false⟩,
                      ⟨(some 119), (some (115, true)), .ixA 1 (.tmp 117) (.tmp 118), 0, false⟩,
                      ⟨(some 120), (some (115, true)), .ld1 none (.tmp 119), 0, false⟩,
                      ⟨(some 121), (some (115, true)), .fldA 0 (.tmp 1), 0, false⟩,
                      ⟨(some 122), (some (115, true)), .ld1 (some 1) (.tmp 121), 0, false⟩,
                      ⟨(some 123), (some (115, true)), .bini .sub (.tmp 120) (.tmp 122), 0, false⟩,
                      ⟨(some 124), (some (115, true)), .ixA 1 (.tmp 116) (.tmp 123), 0, false⟩,
                      ⟨(some 125), (some (115, true)), .ld1 none (.tmp 124), 0, false⟩,
                      ⟨(some 126), (some (115, true)), .not (.tmp 125), 0, false⟩,
                      ⟨(some 127), none, .pick (.tmp 115) (.tmp 126) (.con (.val (.bool false))), 0, false⟩])
                    (.cond (.tmp 127)
                      (.seq (.regN [] [
                        ⟨(some 2), none, .mv (.con (.val (.bool false))), 0, false⟩])
                      .ret)
                      .skip)))
                  (.regN [1, 3, 4, 5, 6, 7, 8, 9, 10, 11, 12] [
                    ⟨(some 100), none, .mv (.tmp 12), 0, false⟩,
                    ⟨(some 101), none, .bini .add (.tmp 100) (.con (.val (.int .i64 1))), 0, false⟩,
                    ⟨(some 12), none, .mv (.tmp 101), 0, false⟩])))
def t5L2 : AC := (.seq (.seq (.regN [1, 3, 4, 5, 6, 7, 8, 9, 10] [
              ⟨(some 67), none, .mv (.tmp 10), 0, false⟩,
              ⟨(some 68), none, .mv (.tmp 9), 0, false⟩,
              ⟨(some 69), none, .len false (.tmp 68), 0, false⟩,
              ⟨(some 70), none, .bini .lss (.tmp 67) (.tmp 69), 0, false⟩])
            (.cond (.tmp 70)
              .skip
              (.exit 2)))
            (.seq (.block 3
              (.seq (.regD [1, 3, 4, 5, 6, 7, 8, 9, 10] 0 [
                ⟨(some 73), none, .fldA 3 (.tmp 1), 0, false⟩,
                ⟨(some 74), none, .ld1 (some 1) (.tmp 73), 0, false⟩,
                ⟨(some 75), none, .mv (.tmp 9), 0, false⟩,
                ⟨(some 76), none, .mv (.tmp 10), 0, false⟩,
                ⟨(some 77), none, .ixA 1 (.tmp 75) (.tmp 76), 0, false⟩,
                ⟨(some 78), none, .ld1 none (.tmp 77), 0, false⟩,
                ⟨(some 79), none, .ixA 2 (.tmp 74) (.tmp 78), 0, false⟩,
                ⟨(some 80), none, .fldA 1 (.tmp 79), 0, false⟩,
                ⟨(some 81), none, .ld1 none (.tmp 80), 0, false⟩,
                ⟨(some 11), none, .mv (.tmp 81), 0, false⟩])
              (.seq (.regN [1, 3, 4, 5, 6, 7, 8, 9, 10, 11] [
                ⟨(some 82), none, .mv (.tmp 7), 0, false⟩,
                ⟨(some 83), none, .mv (.tmp 82), 0, false⟩,
                ⟨(some 84), (some (83, false)), .ldA (some 1) 4 (.tmp 1), 0, false⟩,
                ⟨(some 85), (some (83, false)), .mv (.tmp 11), 0, false⟩,
                ⟨(some 86), (some (83, false)), .mv (.tmp 3), 0, false⟩,
                ⟨(some 87), (some (83, false)), .call 14 [(.tmp 84), (.tmp 85), (.con (.val (.bool false))), (.tmp 86)], 0, false⟩,
                ⟨(some 88), none, .pick (.tmp 83) (.con (.val (.bool true))) (.tmp 87), 0, false⟩,
                ⟨(some 89), none, .mv (.tmp 8), 0, false⟩,
                ⟨(some 90), none, .mv (.tmp 89), 0, false⟩,
                ⟨(some 91), (some (90, false)), .ldA (some 1) 4 (.tmp 1), 0, false⟩,
                ⟨(some 92), (some (90, false)), .mv (.tmp 11), 0, false⟩,
                ⟨(some 93), (some (90, false)), .mv (.tmp 4), 0, false⟩,
                ⟨(some 94), (some (90, false)), .call 14 [(.tmp 91), (.tmp 92), (.con (.val (.bool true))), (.tmp 93)], 0, false⟩,
                ⟨(some 95), none, .pick (.tmp 90) (.con (.val (.bool true))) (.tmp 94), 0, false⟩,
                ⟨(some 7), none, .mv (.tmp 88), 0, false⟩,
                ⟨(some 8), none, .mv (.tmp 95), 0, false⟩])
              (.seq (.regN [1, 3, 4, 5, 6, 7, 8, 9, 10, 11] [
                ⟨(some 12), none, .mv (.con (.val (.int .i64 0))), 0, false⟩])
              (.block 4
                (.loop [1, 3, 4, 5, 6, 7, 8, 9, 10, 11, 12] t5L1))))))
            (.regN [1, 3, 4, 5, 6, 7, 8, 9, 10] [
              ⟨(some 71), none, .mv (.tmp 10), 0, false⟩,
              ⟨(some 72), none, .bini .add (.tmp 71) (.con (.val (.int .i64 1))), 0, false⟩,
              ⟨(some 10), none, .mv (.tmp 72), 0, false⟩])))
def t5L3 : AC := (.seq (.seq (.regN [1, 3, 4, 5, 6] [
        ⟨(some 58), none, .mv (.tmp 6), 0, false⟩,
        ⟨(some 59), none, .fldA 1 (.tmp 1), 0, false⟩,
        ⟨(some 60), none, .ld1 (some 1) (.tmp 59), 0, false⟩,
        ⟨(some 61), none, .bini .lss (.tmp 58) (.tmp 60), 0, false⟩])
      (.cond (.tmp 61)
        .skip
        (.exit 0)))
      (.seq (.block 1
        (.seq (.regN [1, 3, 4, 5, 6] [
          ⟨(some 7), none, .mv (.con (.val (.bool false))), 0, false⟩,
          ⟨(some 8), none, .mv (.con (.val (.bool false))), 0, false⟩])
        (.seq (.regN [1, 3, 4, 5, 6, 7, 8] [
          ⟨(some 64), none, .ldA (some 1) 4 (.tmp 1), 0, false⟩,
          ⟨(some 65), none, .mv (.tmp 6), 0, false⟩,
          ⟨(some 66), none, .call 18 [(.tmp 64), (.tmp 65)], 0, false⟩,
          ⟨(some 9), none, .mv (.tmp 66), 0, false⟩])
        (.seq (.seq (.regN [1, 3, 4, 5, 6, 7, 8, 9] [
          ⟨(some 10), none, .mv (.con (.val (.int .i64 0))), 0, false⟩])
        (.block 2
          (.loop [1, 3, 4, 5, 6, 7, 8, 9, 10] t5L2)))
        (.seq (.regN [1, 3, 4, 5, 6, 7, 8] [
          ⟨(some 128), none, .mv (.tmp 7), 0, false⟩,
          ⟨(some 129), none, .mv (.tmp 3), 0, false⟩,
          ⟨(some 130), none, .mv (.tmp 6), 0, false⟩,
          ⟨(some 131), none, .ixA 1 (.tmp 129) (.tmp 130), 0, false⟩,
          ⟨(some 132), none, .ld1 none (.tmp 131), 0, false⟩,
          ⟨(some 133), none, .eqb true (.tmp 128) (.tmp 132), 0, false⟩,
          ⟨(some 134), none, .mv (.tmp 133), 0, false⟩,
          ⟨(some 135), (some (134, false)), .mv (.tmp 8), 0, false⟩,
          ⟨(some 136), (some (134, false)), .mv (.tmp 4), 0, false⟩,
          ⟨(some 137), (some (134, false)), .mv (.tmp 6), 0, false⟩,
          ⟨(some 138), (some (134, false)), .ixA 1 (.tmp 136) (.tmp 137), 0, false⟩,
          ⟨(some 139), (some (134, false)), .ld1 none (.tmp 138), 0, false⟩,
          ⟨(some 140), (some (134, false)), .eqb true (.tmp 135) (.tmp 139), 0, false⟩,
          ⟨(some 141), none, .pick (.tmp 134) (.con (.val (.bool true))) (.tmp 140), 0, false⟩,
          ⟨(some 142), none, .mv (.tmp 141), 0, false⟩,
          ⟨(some 143), (some (142, false)), .mv (.tmp 3), 0, false⟩,
          ⟨(some 144), (some (142, false)), .mv (.tmp 6), 0, false⟩,
          ⟨(some 145), (some (142, false)), .ixA 1 (.tmp 143) (.tmp 144), 0, false⟩,
          ⟨(some 146), (some (142, false)), .ld1 none (.tmp 145), 0, false⟩,
          ⟨(some 147), (some (142, false)), .mv (.tmp 146), 0, false⟩,
          ⟨(some 148), (some (147, true)), .mv (.tmp 4), 0, false⟩,
          ⟨(some 149), (some (147, true)), .mv (.tmp 6), 0, false⟩,
          ⟨(some 150), (some (147, true)), .ixA 1 (.tmp 148) (.tmp 149), 0, false⟩,
          ⟨(some 151), (some (147, true)), .ld1 none (.tmp 150), 0, false⟩,
          ⟨(some 152), (some (147, true)), .not (.tmp 151), 0, false⟩,
          ⟨(some 153), (some (142, false)), .pick (.tmp 147) (.tmp 152) (.con (.val (.bool false))), 0, false⟩,
          ⟨(some 154), none, .pick (.tmp 142) (.con (.val (.bool true))) (.tmp 153), 0, false⟩])
        (.cond (.tmp 154)
          (.seq (.regN [] [
            ⟨(some 2), none, .mv (.con (.val (.bool false))), 0, false⟩])
          .ret)
          .skip))))))
      (.regN [1, 3, 4, 5, 6] [
        ⟨(some 62), none, .mv (.tmp 6), 0, false⟩,
        ⟨(some 63), none, .bini .add (.tmp 62) (.con (.val (.int .i64 1))), 0, false⟩,
        ⟨(some 6), none, .mv (.tmp 63), 0, false⟩])))
def t5L4 : AC := (.seq (.seq (.regN [1, 4, 5, 13, 14, 15] [
        ⟨(some 160), none, .mv (.tmp 15), 0, false⟩,
        ⟨(some 161), none, .fldA 1 (.tmp 1), 0, false⟩,
        ⟨(some 162), none, .ld1 (some 1) (.tmp 161), 0, false⟩,
        ⟨(some 163), none, .bini .lss (.tmp 160) (.tmp 162), 0, false⟩])
      (.cond (.tmp 163)
        .skip
        (.exit 6)))
      (.seq (.block 7
        (.seq (.regN [1, 4, 5, 13, 14, 15] [
          ⟨(some 166), none, .mv (.tmp 4), 0, false⟩,
          ⟨(some 167), none, .mv (.tmp 15), 0, false⟩,
          ⟨(some 168), none, .ixA 1 (.tmp 166) (.tmp 167), 0, false⟩,
          ⟨(some 169), none, .ld1 none (.tmp 168), 0, false⟩,
          ⟨(some 170), none, .mv (.tmp 169), 0, false⟩,
          ⟨(some 171), (some (170, true)), .mv (.tmp 5), 0, false⟩,
          ⟨(some 172), (some (170, true)), .mv (.tmp 15), 0, false⟩,
          ⟨(some 173), (some (170, true)), .ixA 1 (.tmp 171) (.tmp 172), 0, false⟩,
          ⟨(some 174), (some (170, true)), .ld1 none (.tmp 173), 0, false⟩,
          ⟨(some 175), none, .pick (.tmp 170) (.tmp 174) (.con (.val (.bool false))), 0, false⟩,
          ⟨(some 16), none, .mv (.tmp 175), 0, false⟩])
        (.seq (.regN [1, 4, 5, 13, 14, 15, 16] [
          ⟨(some 176), none, .mv (.tmp 16), 0, false⟩,
          ⟨(some 177), none, .not (.tmp 176), 0, false⟩])
        (.cond (.tmp 177)
          (.seq (.regN [13, 14, 15] [
            ⟨(some 178), none, .mv (.tmp 14), 0, false⟩,
            ⟨(some 179), none, .not (.tmp 178), 0, false⟩,
            ⟨(some 180), none, .mv (.tmp 179), 0, false⟩,
            ⟨(some 181), (some (180, true)), .mv (.tmp 13), 0, false⟩,
            ⟨(some 182), (some (180, true)), .mv (.tmp 15), 0, false⟩,
            ⟨(some 183), (some (180, true)), .bini .eql (.tmp 181) (.tmp 182), 0, false⟩,
            ⟨(some 184), none, .pick (.tmp 180) (.tmp 183) (.con (.val (.bool false))), 0, false⟩,
            ⟨(some 2), none, .mv (.tmp 184), 0, false⟩])
          .ret)
          .skip))))
      (.regN [1, 4, 5, 13, 14, 15] [
        ⟨(some 164), none, .mv (.tmp 15), 0, false⟩,
        ⟨(some 165), none, .bini .add (.tmp 164) (.con (.val (.int .i64 1))), 0, false⟩,
        ⟨(some 15), none, .mv (.tmp 165), 0, false⟩])))
def t5B : AC := (.seq (.regN [0] [
    ⟨(some 1), none, .boxR 4 (.tmp 0), 0, false⟩,
    ⟨(some 2), none, .mv (.con (.val (.bool false))), 0, false⟩])
  (.seq (.seq (.regN [1] [
    ⟨(some 17), none, .call 9 [], 0, false⟩,
    ⟨(some 18), none, .not (.tmp 17), 0, false⟩])
  (.cond (.tmp 18)
    (.seq (.regN [] [
      ⟨(some 2), none, .mv (.con (.val (.bool false))), 0, false⟩])
    .ret)
    .skip))
  (.seq (.seq (.regN [1] [
    ⟨(some 19), none, .ldA (some 1) 4 (.tmp 1), 0, false⟩,
    ⟨(some 20), none, .call 10 [(.tmp 19)], 0, false⟩,
    ⟨(some 21), none, .not (.tmp 20), 0, false⟩,
    ⟨(some 22), none, .mv (.tmp 21), 0, false⟩,
    ⟨(some 23), (some (22, false)), .ldA (some 1) 4 (.tmp 1), 0, false⟩,
    ⟨(some 24), (some (22, false)), .call 11 [(.tmp 23)], 0, false⟩,
    ⟨(some 25), (some (22, false)), .bini .neq (.tmp 24) (.con (.val (.int .i64 0))), 0, false⟩,
    ⟨(some 26), none, .pick (.tmp 22) (.con (.val (.bool true))) (.tmp 25), 0, false⟩])
  (.cond (.tmp 26)
    (.seq (.regN [] [
      ⟨(some 2), none, .mv (.con (.val (.bool true))), 0, false⟩])
    .ret)
    .skip))
  (.seq (.regD [1] 0 [
    ⟨(some 27), none, .ldA (some 1) 4 (.tmp 1), 0, false⟩,
    ⟨(some 28), none, .call 12 [(.tmp 27)], 0, true⟩,
    ⟨(some 29), none, .ldA (some 1) 4 (.tmp 1), 0, false⟩,
    ⟨(some 30), none, .call 16 [(.tmp 29)], 0, true⟩,
    ⟨(some 31), none, .ldA (some 1) 4 (.tmp 1), 0, false⟩,
    ⟨(some 32), none, .call 17 [(.tmp 31)], 0, true⟩,
    ⟨(some 3), none, .mv (.tmp 28), 0, false⟩,
    ⟨(some 4), none, .mv (.tmp 30), 0, false⟩,
    ⟨(some 5), none, .mv (.tmp 32), 0, false⟩])
  (.seq (.seq (.regN [1, 3, 4, 5] [
    ⟨(some 33), none, .mv (.tmp 3), 0, false⟩,
    ⟨(some 34), none, .len false (.tmp 33), 0, false⟩,
    ⟨(some 35), none, .fldA 1 (.tmp 1), 0, false⟩,
    ⟨(some 36), none, .ld1 (some 1) (.tmp 35), 0, false⟩,
    ⟨(some 37), none, .bini .neq (.tmp 34) (.tmp 36), 0, false⟩,
    ⟨(some 38), none, .mv (.tmp 37), 0, false⟩,
    ⟨(some 39), (some (38, false)), .mv (.tmp 4), 0, false⟩,
    ⟨(some 40), (some (38, false)), .len false (.tmp 39), 0, false⟩,
    ⟨(some 41), (some (38, false)), .fldA 1 (.tmp 1), 0, false⟩,
    ⟨(some 42), (some (38, false)), .ld1 (some 1) (.tmp 41), 0, false⟩,
    ⟨(some 43), (some (38, false)), .bini .neq (.tmp 40) (.tmp 42), 0, false⟩,
    ⟨(some 44), none, .pick (.tmp 38) (.con (.val (.bool true))) (.tmp 43), 0, false⟩,
    ⟨(some 45), none, .mv (.tmp 44), 0, false⟩,
    ⟨(some 46), (some (45, false)), .mv (.tmp 5), 0, false⟩,
    ⟨(some 47), (some (45, false)), .len false (.tmp 46), 0, false⟩,
    ⟨(some 48), (some (45, false)), .fldA 1 (.tmp 1), 0, false⟩,
    ⟨(some 49), (some (45, false)), .ld1 (some 1) (.tmp 48), 0, false⟩,
    ⟨(some 50), (some (45, false)), .bini .neq (.tmp 47) (.tmp 49), 0, false⟩,
    ⟨(some 51), none, .pick (.tmp 45) (.con (.val (.bool true))) (.tmp 50), 0, false⟩,
    ⟨(some 52), none, .mv (.tmp 51), 0, false⟩,
    ⟨(some 53), (some (52, false)), .mv (.tmp 5), 0, false⟩,
    ⟨(some 54), (some (52, false)), .ixA 1 (.tmp 53) (.con (.val (.int .i64 0))), 0, false⟩,
    ⟨(some 55), (some (52, false)), .ld1 none (.tmp 54), 0, false⟩,
    ⟨(some 56), (some (52, false)), .not (.tmp 55), 0, false⟩,
    ⟨(some 57), none, .pick (.tmp 52) (.con (.val (.bool true))) (.tmp 56), 0, false⟩])
  (.cond (.tmp 57)
    (.seq (.regN [] [
      ⟨(some 2), none, .mv (.con (.val (.bool false))), 0, false⟩])
    .ret)
    .skip))
  (.seq (.seq (.regN [1, 3, 4, 5] [
    ⟨(some 6), none, .mv (.con (.val (.int .i64 0))), 0, false⟩])
  (.block 0
    (.loop [1, 3, 4, 5, 6] t5L3)))
  (.seq (.regN [1, 4, 5] [
    ⟨(some 156), none, .ldA (some 1) 4 (.tmp 1), 0, false⟩,
    ⟨(some 157), none, .call 19 [(.tmp 156)], 0, false⟩,
    ⟨(some 155), none, .mv (.tmp 157), 0, false⟩,
    ⟨(some 158), none, .ext (.tmp 155) 0, 0, false⟩,
    ⟨(some 159), none, .ext (.tmp 155) 1, 0, false⟩,
    ⟨(some 13), none, .mv (.tmp 158), 0, false⟩,
    ⟨(some 14), none, .mv (.tmp 159), 0, false⟩])
  (.seq (.seq (.regN [1, 4, 5, 13, 14] [
    ⟨(some 15), none, .mv (.con (.val (.int .i64 0))), 0, false⟩])
  (.block 6
    (.loop [1, 4, 5, 13, 14, 15] t5L4)))
  (.seq (.regN [13, 14] [
    ⟨(some 185), none, .mv (.tmp 14), 0, false⟩,
    ⟨(some 186), none, .mv (.tmp 185), 0, false⟩,
    ⟨(some 187), (some (186, true)), .mv (.tmp 13), 0, false⟩,
    ⟨(some 188), (some (186, true)), .bini .eql (.tmp 187) (.con (.val (.int .i64 0))), 0, false⟩,
    ⟨(some 189), none, .pick (.tmp 186) (.tmp 188) (.con (.val (.bool false))), 0, false⟩,
    ⟨(some 2), none, .mv (.tmp 189), 0, false⟩])
  .ret)))))))))
def t5 : AFn := ⟨1, t5B,
  [.tmp 2], true⟩
/-- viewport/gram.Of  -/
def t18L1 : AC := (.seq (.regN [1, 4, 11, 12, 13] [
        ⟨(some 14), none, .bini .lss (.tmp 13) (.tmp 12), 0, false⟩])
      (.seq (.cond (.tmp 14)
        .skip
        (.exit 0))
      (.seq (.block 1
        (.seq (.regN [1, 4, 11, 12, 13] [
          ⟨(some 15), none, .mv (.tmp 13), 0, false⟩,
          ⟨(some 16), none, .ixA 2 (.tmp 11) (.tmp 13), 0, false⟩,
          ⟨(some 17), none, .ldA none 2 (.tmp 16), 0, false⟩,
          ⟨(some 6), none, .allocR [(.val (.int .i64 0)), .e0], 0, false⟩,
          ⟨(some 5), none, .mv (.tmp 15), 0, false⟩,
          ⟨none, none, .st (some 6) 2 (.tmp 6) (.tmp 17), 0, false⟩])
        (.seq (.regN [1, 4, 5, 6, 11, 12, 13] [
          ⟨(some 18), none, .fldA 0 (.tmp 6), 0, false⟩,
          ⟨(some 19), none, .ld1 (some 6) (.tmp 18), 0, false⟩,
          ⟨(some 20), none, .mv (.tmp 1), 0, false⟩,
          ⟨(some 21), none, .bini .eql (.tmp 19) (.tmp 20), 0, false⟩])
        (.cond (.tmp 21)
          (.regN [1, 4, 5, 11, 12, 13] [
            ⟨(some 22), none, .mv (.tmp 4), 0, false⟩,
            ⟨(some 23), none, .mv (.tmp 5), 0, false⟩,
            ⟨(some 24), none, .buildS 1 [(.val (.int .i64 0))] [(0, 1, (.tmp 23))], 0, false⟩,
            ⟨(some 25), none, .app 1 8 (.tmp 22) (.tmp 24), 0, false⟩,
            ⟨(some 4), none, .mv (.tmp 25), 0, false⟩])
          .skip))))
      (.regN [1, 4, 11, 12, 13] [
        ⟨(some 26), none, .bini .add (.tmp 13) (.con (.val (.int .i64 1))), 0, false⟩,
        ⟨(some 13), none, .mv (.tmp 26), 0, false⟩]))))
def t18B : AC := (.seq (.regN [0, 1] [
    ⟨(some 2), none, .boxR 4 (.tmp 0), 0, false⟩,
    ⟨(some 4), none, .mv (.con .e0), 0, false⟩])
  (.seq (.seq (.regN [1, 2, 4] [
    ⟨(some 7), none, .ldA (some 2) 4 (.tmp 2), 0, false⟩,
    ⟨(some 8), none, .call 11 [(.tmp 7)], 0, false⟩,
    ⟨(some 9), none, .bini .neq (.tmp 8) (.con (.val (.int .i64 0))), 0, false⟩])
  (.cond (.tmp 9)
    (.seq (.regN [] [
      ⟨(some 4), none, .mv (.con .e0), 0, false⟩])
    .ret)
    .skip))
  (.seq (.seq (.regN [1, 2, 4] [
    ⟨(some 10), none, .fldA 3 (.tmp 2), 0, false⟩,
    ⟨(some 11), none, .ld1 (some 2) (.tmp 10), 0, false⟩,
    ⟨(some 12), none, .len false (.tmp 11), 0, false⟩,
    ⟨(some 13), none, .mv (.con (.val (.int .i64 0))), 0, false⟩])
  (.block 0
    (.loop [1, 4, 11, 12, 13] t18L1)))
  (.seq (.regN [4] [
    ⟨(some 27), none, .mv (.tmp 4), 0, false⟩,
    ⟨(some 4), none, .mv (.tmp 27), 0, false⟩])
  .ret))))
def t18 : AFn := ⟨2, t18B,
  [.tmp 4], true⟩
/-- viewport/gram.Reduced  -/
def t19L1 : AC := (.seq (.regN [4, 5, 15, 16] [
        ⟨(some 17), none, .bini .lss (.tmp 16) (.tmp 15), 0, false⟩])
      (.seq (.cond (.tmp 17)
        .skip
        (.exit 0))
      (.seq (.block 1
        (.seq (.regN [4, 5, 15, 16] [
          ⟨(some 18), none, .mv (.tmp 16), 0, false⟩,
          ⟨(some 6), none, .mv (.tmp 18), 0, false⟩])
        (.seq (.regN [4, 5, 6, 15, 16] [
          ⟨(some 19), none, .mv (.tmp 4), 0, false⟩,
          ⟨(some 20), none, .mv (.tmp 6), 0, false⟩,
          ⟨(some 21), none, .ixA 1 (.tmp 19) (.tmp 20), 0, false⟩,
          ⟨(some 22), none, .ld1 none (.tmp 21), 0, false⟩,
          ⟨(some 23), none, .not (.tmp 22), 0, false⟩,
          ⟨(some 24), none, .mv (.tmp 23), 0, false⟩,
          ⟨(some 25), (some (24, false)), .mv (.tmp 5), 0, false⟩,
          ⟨(some 26), (some (24, false)), .mv (.tmp 6), 0, false⟩,
          ⟨(some 27), (some (24, false)), .ixA 1 (.tmp 25) (.tmp 26), 0, false⟩,
          ⟨(some 28), (some (24, false)), .ld1 none (.tmp 27), 0, false⟩,
          ⟨(some 29), (some (24, false)), .not (.tmp 28), 0, false⟩,
          ⟨(some 30), none, .pick (.tmp 24) (.con (.val (.bool true))) (.tmp 29), 0, false⟩])
        (.cond (.tmp 30)
          (.seq (.regN [6] [
            ⟨(some 31), none, .mv (.tmp 6), 0, false⟩,
            ⟨(some 2), none, .mv (.tmp 31), 0, false⟩,
            ⟨(some 3), none, .mv (.con (.val (.bool false))), 0, false⟩])
          .ret)
          .skip))))
      (.regN [4, 5, 15, 16] [
        ⟨(some 32), none, .bini .add (.tmp 16) (.con (.val (.int .i64 1))), 0, false⟩,
        ⟨(some 16), none, .mv (.tmp 32), 0, false⟩]))))
def t19B : AC := (.seq (.regN [0] [
    ⟨(some 1), none, .boxR 4 (.tmp 0), 0, false⟩,
    ⟨(some 2), none, .mv (.con (.val (.int .i64 0))), 0, false⟩,
    ⟨(some 3), none, .mv (.con (.val (.bool false))), 0, false⟩])
  (.seq (.seq (.regN [1] [
    ⟨(some 7), none, .ldA (some 1) 4 (.tmp 1), 0, false⟩,
    ⟨(some 8), none, .call 11 [(.tmp 7)], 0, false⟩,
    ⟨(some 9), none, .bini .neq (.tmp 8) (.con (.val (.int .i64 0))), 0, false⟩])
  (.cond (.tmp 9)
    (.seq (.regN [] [
      ⟨(some 2), none, .mv (.con (.val (.int .i64 0))), 0, false⟩,
      ⟨(some 3), none, .mv (.con (.val (.bool false))), 0, false⟩])
    .ret)
    .skip))
  (.seq (.regD [1] 0 [
    ⟨(some 10), none, .ldA (some 1) 4 (.tmp 1), 0, false⟩,
    ⟨(some 11), none, .call 16 [(.tmp 10)], 0, true⟩,
    ⟨(some 12), none, .ldA (some 1) 4 (.tmp 1), 0, false⟩,
    ⟨(some 13), none, .call 17 [(.tmp 12)], 0, true⟩,
    ⟨(some 4), none, .mv (.tmp 11), 0, false⟩,
    ⟨(some 5), none, .mv (.tmp 13), 0, false⟩])
  (.seq (.seq (.regN [1, 4, 5] [
    ⟨(some 14), none, .fldA 1 (.tmp 1), 0, false⟩,
    ⟨(some 15), none, .ld1 (some 1) (.tmp 14), 0, false⟩,
    ⟨(some 16), none, .mv (.con (.val (.int .i64 0))), 0, false⟩])
  (.block 0
    (.loop [4, 5, 15, 16] t19L1)))
  (.seq (.regN [] [
    ⟨(some 2), none, .mv (.con (.val (.int .i64 0))), 0, false⟩,
    ⟨(some 3), none, .mv (.con (.val (.bool true))), 0, false⟩])
  .ret)))))
def t19 : AFn := ⟨1, t19B,
  [.tmp 2, .tmp 3], true⟩
/-- viewport/viewportlaw11.GramParts  -/
def t6L1 : AC := (.seq (.seq (.regN [1, 3, 4, 5, 6] [
              ⟨(some 35), none, .mv (.tmp 6), 0, false⟩,
              ⟨(some 36), none, .mv (.tmp 5), 0, false⟩,
              ⟨(some 37), none, .len false (.tmp 36), 0, false⟩,
              ⟨(some 38), none, .bini .lss (.tmp 35) (.tmp 37), 0, false⟩])
            (.cond (.tmp 38)
              .skip
              (.exit 2)))
            (.seq (.block 3
              (.seq (.seq (.regD [1, 3, 4, 5, 6] 0 [
                ⟨(some 41), none, .mv (.tmp 5), 0, false⟩,
                ⟨(some 42), none, .mv (.tmp 6), 0, false⟩,
                ⟨(some 43), none, .ixA 1 (.tmp 41) (.tmp 42), 0, false⟩,
                ⟨(some 44), none, .ld1 none (.tmp 43), 0, false⟩,
                ⟨(some 45), none, .bini .lss (.tmp 44) (.con (.val (.int .i64 0))), 0, false⟩,
                ⟨(some 46), none, .mv (.tmp 45), 0, false⟩,
                ⟨(some 47), (some (46, false)), .mv (.tmp 5), 0, false⟩,
                ⟨(some 48), (some (46, false)), .mv (.tmp 6), 0, false⟩,
                ⟨(some 49), (some (46, false)), .ixA 1 (.tmp 47) (.tmp 48), 0, false⟩,
                ⟨(some 50), (some (46, false)), .ld1 none (.tmp 49), 0, false⟩,
                ⟨(some 51), (some (46, false)), .mv (.tmp 3), 0, false⟩,
                ⟨(some 52), (some (46, false)), .len false (.tmp 51), 0, false⟩,
                ⟨(some 53), (some (46, false)), .bini .geq (.tmp 50) (.tmp 52), 0, false⟩,
                ⟨(some 54), none, .pick (.tmp 46) (.con (.val (.bool true))) (.tmp 53), 0, false⟩,
                ⟨(some 55), none, .mv (.tmp 54), 0, false⟩,
                ⟨(some 56), (some (55, false)), .mv (.tmp 6), 0, false⟩,
                ⟨(some 57), (some (55, false)), .bini .gtr (.tmp 56) (.con (.val (.int .i64 0))), 0, false⟩,
                ⟨(some 58), (some (55, false)), .mv (.tmp 57), 0, false⟩,
                ⟨(some 59), (some (58, true)), .mv (.tmp 5), 0, false⟩,
                ⟨(some 60), (some (58, true)), .mv (.tmp 6), 0, false⟩,
                ⟨(some 61), (some (58, true)), .bini .sub (.tmp 60) (.con (.val (.int .i64 1))), 0, false⟩,
                ⟨(some 62), (some (58, true)), .ixA 1 (.tmp 59) (.tmp 61), 0, false⟩,
                ⟨(some 63), (some (58, true)), .ld1 none (.tmp 62), 0, false⟩,
                ⟨(some 64), (some (58, true)), .mv (.tmp 5), 0, false⟩,
                ⟨(some 65), (some (58, true)), .mv (.tmp 6), 0, false⟩,
                ⟨(some 66), (some (58, true)), .ixA 1 (.tmp 64) (.tmp 65), 0, false⟩,
                ⟨(some 67), (some (58, true)), .ld1 none (.tmp 66), 0, false⟩,
                ⟨(some 68), (some (58, true)), .bini .geq (.tmp 63) (.tmp 67), 0, false⟩,
                ⟨(some 69), (some (55, false)), .pick (.tmp 58) (.tmp 68) (.con (.val (.bool false))), 0, false⟩,
                ⟨(some 70), none, .pick (.tmp 55) (.con (.val (.bool true))) (.tmp 69), 0, false⟩,
                ⟨(some 71), none, .mv (.tmp 70), 0, false⟩,
                ⟨(some 72), (some (71, false)), .fldA 3 (.tmp 1), 0, false⟩,
                ⟨(some 73), (some (71, false)), .ld1 (some 1) (.tmp 72), 0, false⟩,
                ⟨(some 74), (some (71, false)), .mv (.tmp 5), 0, false⟩,
                ⟨(some 75), (some (71, false)), .mv (.tmp 6), 0, false⟩,
                ⟨(some 76), (some (71, false)), .ixA 1 (.tmp 74) (.tmp 75), 0, false⟩,
                ⟨(some 77), (some (71, false)), .ld1 none (.tmp 76), 0, false⟩,
                ⟨(some 78), (some (71, false)), .ixA 2 (.tmp 73) (.tmp 77), 0, false⟩,
                ⟨(some 79), (some (71, false)), .fldA 0 (.tmp 78), 0, false⟩,
                ⟨(some 80), (some (71, false)), .ld1 none (.tmp 79), 0, false⟩,
                ⟨(some 81), (some (71, false)), .mv (.tmp 4), 0, false⟩,
                ⟨(some 82), (some (71, false)), .bini .neq (.tmp 80) (.tmp 81), 0, false⟩,
                ⟨(some 83), none, .pick (.tmp 71) (.con (.val (.bool true))) (.tmp 82), 0, false⟩])
              (.cond (.tmp 83)
                (.seq (.regN [] [
                  ⟨(some 2), none, .mv (.con (.val (.bool false))), 0, false⟩])
                .ret)
                .skip))
              (.regN [1, 3, 4, 5, 6] [
                ⟨(some 84), none, .mv (.tmp 3), 0, false⟩,
                ⟨(some 85), none, .mv (.tmp 5), 0, false⟩,
                ⟨(some 86), none, .mv (.tmp 6), 0, false⟩,
                ⟨(some 87), none, .ixA 1 (.tmp 85) (.tmp 86), 0, false⟩,
                ⟨(some 88), none, .ld1 none (.tmp 87), 0, false⟩,
                ⟨(some 89), none, .ixA 1 (.tmp 84) (.tmp 88), 0, false⟩,
                ⟨(some 90), none, .ld1 none (.tmp 89), 0, false⟩,
                ⟨(some 91), none, .bini .add (.tmp 90) (.con (.val (.int .i64 1))), 0, false⟩,
                ⟨(some 92), none, .ixA 1 (.tmp 84) (.tmp 88), 0, false⟩,
                ⟨none, none, .st none 1 (.tmp 92) (.tmp 91), 0, false⟩])))
            (.regN [1, 3, 4, 5, 6] [
              ⟨(some 39), none, .mv (.tmp 6), 0, false⟩,
              ⟨(some 40), none, .bini .add (.tmp 39) (.con (.val (.int .i64 1))), 0, false⟩,
              ⟨(some 6), none, .mv (.tmp 40), 0, false⟩])))
def t6L2 : AC := (.seq (.seq (.regN [1, 3, 4] [
        ⟨(some 26), none, .mv (.tmp 4), 0, false⟩,
        ⟨(some 27), none, .fldA 1 (.tmp 1), 0, false⟩,
        ⟨(some 28), none, .ld1 (some 1) (.tmp 27), 0, false⟩,
        ⟨(some 29), none, .bini .lss (.tmp 26) (.tmp 28), 0, false⟩])
      (.cond (.tmp 29)
        .skip
        (.exit 0)))
      (.seq (.block 1
        (.seq (.regN [1, 3, 4] [
          ⟨(some 32), none, .ldA (some 1) 4 (.tmp 1), 0, false⟩,
          ⟨(some 33), none, .mv (.tmp 4), 0, false⟩,
          ⟨(some 34), none, .call 18 [(.tmp 32), (.tmp 33)], 0, false⟩,
          ⟨(some 5), none, .mv (.tmp 34), 0, false⟩])
        (.seq (.regN [1, 3, 4, 5] [
          ⟨(some 6), none, .mv (.con (.val (.int .i64 0))), 0, false⟩])
        (.block 2
          (.loop [1, 3, 4, 5, 6] t6L1)))))
      (.regN [1, 3, 4] [
        ⟨(some 30), none, .mv (.tmp 4), 0, false⟩,
        ⟨(some 31), none, .bini .add (.tmp 30) (.con (.val (.int .i64 1))), 0, false⟩,
        ⟨(some 4), none, .mv (.tmp 31), 0, false⟩])))
def t6L3 : AC := (.seq (.seq (.regN [1, 3, 7] [
        ⟨(some 93), none, .mv (.tmp 7), 0, false⟩,
        ⟨(some 94), none, .mv (.tmp 3), 0, false⟩,
        ⟨(some 95), none, .len false (.tmp 94), 0, false⟩,
        ⟨(some 96), none, .bini .lss (.tmp 93) (.tmp 95), 0, false⟩])
      (.cond (.tmp 96)
        .skip
        (.exit 4)))
      (.seq (.block 5
        (.seq (.regN [1, 3, 7] [
          ⟨(some 99), none, .mv (.tmp 3), 0, false⟩,
          ⟨(some 100), none, .mv (.tmp 7), 0, false⟩,
          ⟨(some 101), none, .ixA 1 (.tmp 99) (.tmp 100), 0, false⟩,
          ⟨(some 102), none, .ld1 none (.tmp 101), 0, false⟩,
          ⟨(some 103), none, .bini .neq (.tmp 102) (.con (.val (.int .i64 1))), 0, false⟩])
        (.cond (.tmp 103)
          (.seq (.regN [] [
            ⟨(some 2), none, .mv (.con (.val (.bool false))), 0, false⟩])
          .ret)
          .skip)))
      (.regN [1, 3, 7] [
        ⟨(some 97), none, .mv (.tmp 7), 0, false⟩,
        ⟨(some 98), none, .bini .add (.tmp 97) (.con (.val (.int .i64 1))), 0, false⟩,
        ⟨(some 7), none, .mv (.tmp 98), 0, false⟩])))
def t6L4 : AC := (.seq (.seq (.regN [1, 8, 9, 10, 11] [
              ⟨(some 128), none, .mv (.tmp 11), 0, false⟩,
              ⟨(some 129), none, .fldA 3 (.tmp 9), 0, false⟩,
              ⟨(some 130), none, .ld1 (some 9) (.tmp 129), 0, false⟩,
              ⟨(some 131), none, .mv (.tmp 10), 0, false⟩,
              ⟨(some 132), none, .ixA 2 (.tmp 130) (.tmp 131), 0, false⟩,
              ⟨(some 133), none, .fldA 1 (.tmp 132), 0, false⟩,
              ⟨(some 134), none, .ld1 none (.tmp 133), 0, false⟩,
              ⟨(some 135), none, .len false (.tmp 134), 0, false⟩,
              ⟨(some 136), none, .bini .lss (.tmp 128) (.tmp 135), 0, false⟩])
            (.cond (.tmp 136)
              .skip
              (.exit 8)))
            (.seq (.block 9
              (.regN [1, 8, 9, 10, 11] [
                ⟨(some 139), none, .fldA 3 (.tmp 9), 0, false⟩,
                ⟨(some 140), none, .ld1 (some 9) (.tmp 139), 0, false⟩,
                ⟨(some 141), none, .mv (.tmp 10), 0, false⟩,
                ⟨(some 142), none, .ixA 2 (.tmp 140) (.tmp 141), 0, false⟩,
                ⟨(some 143), none, .fldA 1 (.tmp 142), 0, false⟩,
                ⟨(some 144), none, .ld1 none (.tmp 143), 0, false⟩,
                ⟨(some 145), none, .mv (.tmp 11), 0, false⟩,
                ⟨(some 146), none, .ixA 1 (.tmp 144) (.tmp 145), 0, false⟩,
                ⟨(some 147), none, .ld1 none (.tmp 146), 0, false⟩,
                ⟨(some 148), none, .bini .add (.tmp 147) (.con (.val (.int .i64 1))), 0, false⟩,
                ⟨(some 149), none, .ixA 1 (.tmp 144) (.tmp 145), 0, false⟩,
                ⟨none, none, .st none 1 (.tmp 149) (.tmp 148), 0, false⟩]))
            (.regN [1, 8, 9, 10, 11] [
              ⟨(some 137), none, .mv (.tmp 11), 0, false⟩,
              ⟨(some 138), none, .bini .add (.tmp 137) (.con (.val (.int .i64 1))), 0, false⟩,
              ⟨(some 11), none, .mv (.tmp 138), 0, false⟩])))
def t6L5 : AC := (.seq (.seq (.regN [1, 8, 9, 10] [
        ⟨(some 112), none, .mv (.tmp 10), 0, false⟩,
        ⟨(some 113), none, .fldA 3 (.tmp 9), 0, false⟩,
        ⟨(some 114), none, .ld1 (some 9) (.tmp 113), 0, false⟩,
        ⟨(some 115), none, .len false (.tmp 114), 0, false⟩,
        ⟨(some 116), none, .bini .lss (.tmp 112) (.tmp 115), 0, false⟩])
      (.cond (.tmp 116)
        .skip
        (.exit 6)))
      (.seq (.block 7
        (.seq (.regN [1, 8, 9, 10] [
          ⟨(some 119), none, .fldA 3 (.tmp 9), 0, false⟩,
          ⟨(some 120), none, .ld1 (some 9) (.tmp 119), 0, false⟩,
          ⟨(some 121), none, .mv (.tmp 10), 0, false⟩,
          ⟨(some 122), none, .ixA 2 (.tmp 120) (.tmp 121), 0, false⟩,
          ⟨(some 123), none, .fldA 0 (.tmp 122), 0, false⟩,
          ⟨(some 124), none, .ld1 none (.tmp 123), 0, false⟩,
          ⟨(some 125), none, .bini .add (.tmp 124) (.con (.val (.int .i64 1))), 0, false⟩,
          ⟨(some 126), none, .ixA 2 (.tmp 120) (.tmp 121), 0, false⟩,
          ⟨(some 127), none, .fldA 0 (.tmp 126), 0, false⟩,
          ⟨none, none, .st none 1 (.tmp 127) (.tmp 125), 0, false⟩])
        (.seq (.regN [1, 8, 9, 10] [
          ⟨(some 11), none, .mv (.con (.val (.int .i64 0))), 0, false⟩])
        (.block 8
          (.loop [1, 8, 9, 10, 11] t6L4)))))
      (.regN [1, 8, 9, 10] [
        ⟨(some 117), none, .mv (.tmp 10), 0, false⟩,
        ⟨(some 118), none, .bini .add (.tmp 117) (.con (.val (.int .i64 1))), 0, false⟩,
        ⟨(some 10), none, .mv (.tmp 118), 0, false⟩])))
def t6B : AC := (.seq (.regN [0] [
    ⟨(some 1), none, .boxR 4 (.tmp 0), 0, false⟩,
    ⟨(some 2), none, .mv (.con (.val (.bool false))), 0, false⟩])
  (.seq (.seq (.regN [1] [
    ⟨(some 12), none, .call 9 [], 0, false⟩,
    ⟨(some 13), none, .not (.tmp 12), 0, false⟩])
  (.cond (.tmp 13)
    (.seq (.regN [] [
      ⟨(some 2), none, .mv (.con (.val (.bool false))), 0, false⟩])
    .ret)
    .skip))
  (.seq (.seq (.regN [1] [
    ⟨(some 14), none, .ldA (some 1) 4 (.tmp 1), 0, false⟩,
    ⟨(some 15), none, .call 10 [(.tmp 14)], 0, false⟩,
    ⟨(some 16), none, .not (.tmp 15), 0, false⟩,
    ⟨(some 17), none, .mv (.tmp 16), 0, false⟩,
    ⟨(some 18), (some (17, false)), .ldA (some 1) 4 (.tmp 1), 0, false⟩,
    ⟨(some 19), (some (17, false)), .call 11 [(.tmp 18)], 0, false⟩,
    ⟨(some 20), (some (17, false)), .bini .neq (.tmp 19) (.con (.val (.int .i64 0))), 0, false⟩,
    ⟨(some 21), none, .pick (.tmp 17) (.con (.val (.bool true))) (.tmp 20), 0, false⟩])
  (.cond (.tmp 21)
    (.seq (.regN [] [
      ⟨(some 2), none, .mv (.con (.val (.bool true))), 0, false⟩])
    .ret)
    .skip))
  (.seq (.regN [1] [
    ⟨(some 22), none, .fldA 3 (.tmp 1), 0, false⟩,
    ⟨(some 23), none, .ld1 (some 1) (.tmp 22), 0, false⟩,
    ⟨(some 24), none, .len false (.tmp 23), 0, false⟩,
    ⟨(some 25), none, .mks 1 8 [(.val (.int .i64 0))] (.tmp 24), 0, false⟩,
    ⟨(some 3), none, .mv (.tmp 25), 0, false⟩])
  (.seq (.seq (.regN [1, 3] [
    ⟨(some 4), none, .mv (.con (.val (.int .i64 0))), 0, false⟩])
  (.block 0
    (.loop [1, 3, 4] t6L2)))
  (.seq (.seq (.regN [1, 3] [
    ⟨(some 7), none, .mv (.con (.val (.int .i64 0))), 0, false⟩])
  (.block 4
    (.loop [1, 3, 7] t6L3)))
  (.seq (.regN [1] [
    ⟨(some 104), none, .ldA (some 1) 4 (.tmp 1), 0, false⟩,
    ⟨(some 105), none, .call 20 [(.tmp 104)], 0, false⟩,
    ⟨(some 8), none, .allocR [(.val (.int .i64 0)), (.val (.int .i64 0)), (.val (.int .i64 0)), .e0], 0, false⟩,
    ⟨none, none, .st (some 8) 4 (.tmp 8) (.tmp 105), 0, false⟩])
  (.seq (.regN [1, 8] [
    ⟨(some 106), none, .ldA (some 1) 4 (.tmp 1), 0, false⟩,
    ⟨(some 107), none, .call 21 [(.tmp 106)], 0, false⟩,
    ⟨(some 9), none, .allocR [(.val (.int .i64 0)), (.val (.int .i64 0)), (.val (.int .i64 0)), .e0], 0, false⟩,
    ⟨none, none, .st (some 9) 4 (.tmp 9) (.tmp 107), 0, false⟩])
  (.seq (.seq (.regN [1, 8, 9] [
    ⟨(some 108), none, .ldA (some 9) 4 (.tmp 9), 0, false⟩,
    ⟨(some 109), none, .ldA (some 1) 4 (.tmp 1), 0, false⟩,
    ⟨(some 110), none, .call 22 [(.tmp 108), (.tmp 109)], 0, false⟩,
    ⟨(some 111), none, .not (.tmp 110), 0, false⟩])
  (.cond (.tmp 111)
    (.seq (.regN [] [
      ⟨(some 2), none, .mv (.con (.val (.bool false))), 0, false⟩])
    .ret)
    .skip))
  (.seq (.seq (.regN [1, 8, 9] [
    ⟨(some 10), none, .mv (.con (.val (.int .i64 0))), 0, false⟩])
  (.block 6
    (.loop [1, 8, 9, 10] t6L5)))
  (.seq (.regN [1, 8, 9] [
    ⟨(some 150), none, .ldA (some 1) 4 (.tmp 1), 0, false⟩,
    ⟨(some 151), none, .ldA (some 8) 4 (.tmp 8), 0, false⟩,
    ⟨(some 152), none, .call 22 [(.tmp 150), (.tmp 151)], 0, false⟩,
    ⟨(some 153), none, .mv (.tmp 152), 0, false⟩,
    ⟨(some 154), (some (153, true)), .ldA (some 9) 4 (.tmp 9), 0, false⟩,
    ⟨(some 155), (some (153, true)), .ldA (some 1) 4 (.tmp 1), 0, false⟩,
    ⟨(some 156), (some (153, true)), .call 22 [(.tmp 154), (.tmp 155)], 0, false⟩,
    ⟨(some 157), (some (153, true)), .not (.tmp 156), 0, false⟩,
    ⟨(some 158), none, .pick (.tmp 153) (.tmp 157) (.con (.val (.bool false))), 0, false⟩,
    ⟨(some 2), none, .mv (.tmp 158), 0, false⟩])
  .ret)))))))))))
def t6 : AFn := ⟨1, t6B,
  [.tmp 2], true⟩
/-- viewport/viewportkit.OwnGrammar  -/
def t20L1 : AC := (.seq (.seq (.regN [1, 2, 3] [
        ⟨(some 8), none, .mv (.tmp 3), 0, false⟩,
        ⟨(some 9), none, .fldA 3 (.tmp 1), 0, false⟩,
        ⟨(some 10), none, .ld1 (some 1) (.tmp 9), 0, false⟩,
        ⟨(some 11), none, .len false (.tmp 10), 0, false⟩,
        ⟨(some 12), none, .bini .lss (.tmp 8) (.tmp 11), 0, false⟩])
      (.cond (.tmp 12)
        .skip
        (.exit 0)))
      (.seq (.block 1
        (.regD [1, 2, 3] 0 [
          ⟨(some 15), none, .fldA 3 (.tmp 1), 0, false⟩,
          ⟨(some 16), none, .ld1 (some 1) (.tmp 15), 0, false⟩,
          ⟨(some 17), none, .mv (.tmp 3), 0, false⟩,
          ⟨(some 18), none, .fldA 3 (.tmp 1), 0, false⟩,
          ⟨(some 19), none, .ld1 (some 1) (.tmp 18), 0, false⟩,
          ⟨(some 20), none, .mv (.tmp 3), 0, false⟩,
          ⟨(some 21), none, .ixA 2 (.tmp 19) (.tmp 20), 0, false⟩,
          ⟨(some 22), none, .fldA 1 (.tmp 21), 0, false⟩,
          ⟨(some 23), none, .ld1 none (.tmp 22), 0, false⟩,
          ⟨(some 24), none, .call 43 [(.tmp 23)], 0, true⟩,
          ⟨(some 25), none, .ixA 2 (.tmp 16) (.tmp 17), 0, false⟩,
          ⟨(some 26), none, .fldA 1 (.tmp 25), 0, false⟩,
          ⟨none, none, .st none 1 (.tmp 26) (.tmp 24), 0, false⟩]))
      (.regN [1, 2, 3] [
        ⟨(some 13), none, .mv (.tmp 3), 0, false⟩,
        ⟨(some 14), none, .bini .add (.tmp 13) (.con (.val (.int .i64 1))), 0, false⟩,
        ⟨(some 3), none, .mv (.tmp 14), 0, false⟩])))
def t20B : AC := (.seq (.regN [0] [
    ⟨(some 1), none, .boxR 4 (.tmp 0), 0, false⟩,
    ⟨(some 2), none, .allocR [(.val (.int .i64 0)), (.val (.int .i64 0)), (.val (.int .i64 0)), .e0], 0, false⟩])
  (.seq (.regN [1, 2] [
    ⟨(some 4), none, .fldA 3 (.tmp 1), 0, false⟩,
    ⟨(some 5), none, .ld1 (some 1) (.tmp 4), 0, false⟩,
    ⟨(some 6), none, .call 42 [(.tmp 5)], 0, false⟩,
    ⟨(some 7), none, .fldA 3 (.tmp 1), 0, false⟩,
    ⟨none, none, .st (some 1) 1 (.tmp 7) (.tmp 6), 0, false⟩])
  (.seq (.seq (.regN [1, 2] [
    ⟨(some 3), none, .mv (.con (.val (.int .i64 0))), 0, false⟩])
  (.block 0
    (.loop [1, 2, 3] t20L1)))
  (.seq (.regN [1, 2] [
    ⟨(some 27), none, .ldA (some 1) 4 (.tmp 1), 0, false⟩,
    ⟨none, none, .st (some 2) 4 (.tmp 2) (.tmp 27), 0, false⟩])
  .ret))))
def t20 : AFn := ⟨1, t20B,
  [.cell 2 4 true], true⟩
/-- viewport/viewportkit.Own[viewport/api.Prod]  -/
def t42B : AC := (.seq (.regN [0] [
    ⟨(some 2), none, .mv (.con .e0), 0, false⟩])
  (.seq (.regN [0] [
    ⟨(some 3), none, .buildS 0 [] [], 0, false⟩,
    ⟨(some 4), none, .mv (.tmp 0), 0, false⟩,
    ⟨(some 5), none, .app 2 32 (.tmp 3) (.tmp 4), 0, false⟩,
    ⟨(some 2), none, .mv (.tmp 5), 0, false⟩])
  .ret))
def t42 : AFn := ⟨1, t42B,
  [.tmp 2], false⟩
/-- viewport/viewportkit.Own[int]  -/
def t43B : AC := (.seq (.regN [0] [
    ⟨(some 2), none, .mv (.con .e0), 0, false⟩])
  (.seq (.regN [0] [
    ⟨(some 3), none, .buildS 0 [] [], 0, false⟩,
    ⟨(some 4), none, .mv (.tmp 0), 0, false⟩,
    ⟨(some 5), none, .app 1 8 (.tmp 3) (.tmp 4), 0, false⟩,
    ⟨(some 2), none, .mv (.tmp 5), 0, false⟩])
  .ret))
def t43 : AFn := ⟨1, t43B,
  [.tmp 2], true⟩
/-- viewport/gram.Copy  -/
def t21L1 : AC := (.seq (.regN [1, 2, 10, 11] [
        ⟨(some 12), none, .bini .lss (.tmp 11) (.tmp 10), 0, false⟩])
      (.seq (.cond (.tmp 12)
        .skip
        (.exit 0))
      (.seq (.block 1
        (.seq (.regN [1, 2, 10, 11] [
          ⟨(some 13), none, .mv (.tmp 11), 0, false⟩,
          ⟨(some 3), none, .mv (.tmp 13), 0, false⟩])
        (.regD [1, 2, 3, 10, 11] 0 [
          ⟨(some 14), none, .fldA 3 (.tmp 1), 0, false⟩,
          ⟨(some 15), none, .ld1 (some 1) (.tmp 14), 0, false⟩,
          ⟨(some 16), none, .mv (.tmp 3), 0, false⟩,
          ⟨(some 17), none, .fldA 3 (.tmp 1), 0, false⟩,
          ⟨(some 18), none, .ld1 (some 1) (.tmp 17), 0, false⟩,
          ⟨(some 19), none, .mv (.tmp 3), 0, false⟩,
          ⟨(some 20), none, .ixA 2 (.tmp 18) (.tmp 19), 0, false⟩,
          ⟨(some 21), none, .fldA 1 (.tmp 20), 0, false⟩,
          ⟨(some 22), none, .ld1 none (.tmp 21), 0, false⟩,
          ⟨(some 23), none, .call 45 [(.tmp 22)], 0, true⟩,
          ⟨(some 24), none, .ixA 2 (.tmp 15) (.tmp 16), 0, false⟩,
          ⟨(some 25), none, .fldA 1 (.tmp 24), 0, false⟩,
          ⟨none, none, .st none 1 (.tmp 25) (.tmp 23), 0, false⟩])))
      (.regN [1, 2, 10, 11] [
        ⟨(some 26), none, .bini .add (.tmp 11) (.con (.val (.int .i64 1))), 0, false⟩,
        ⟨(some 11), none, .mv (.tmp 26), 0, false⟩]))))
def t21B : AC := (.seq (.regN [0] [
    ⟨(some 1), none, .boxR 4 (.tmp 0), 0, false⟩,
    ⟨(some 2), none, .allocR [(.val (.int .i64 0)), (.val (.int .i64 0)), (.val (.int .i64 0)), .e0], 0, false⟩])
  (.seq (.regN [1, 2] [
    ⟨(some 4), none, .fldA 3 (.tmp 1), 0, false⟩,
    ⟨(some 5), none, .ld1 (some 1) (.tmp 4), 0, false⟩,
    ⟨(some 6), none, .call 44 [(.tmp 5)], 0, false⟩,
    ⟨(some 7), none, .fldA 3 (.tmp 1), 0, false⟩,
    ⟨none, none, .st (some 1) 1 (.tmp 7) (.tmp 6), 0, false⟩])
  (.seq (.seq (.regN [1, 2] [
    ⟨(some 8), none, .fldA 3 (.tmp 1), 0, false⟩,
    ⟨(some 9), none, .ld1 (some 1) (.tmp 8), 0, false⟩,
    ⟨(some 10), none, .len false (.tmp 9), 0, false⟩,
    ⟨(some 11), none, .mv (.con (.val (.int .i64 0))), 0, false⟩])
  (.block 0
    (.loop [1, 2, 10, 11] t21L1)))
  (.seq (.regN [1, 2] [
    ⟨(some 27), none, .ldA (some 1) 4 (.tmp 1), 0, false⟩,
    ⟨none, none, .st (some 2) 4 (.tmp 2) (.tmp 27), 0, false⟩])
  .ret))))
def t21 : AFn := ⟨1, t21B,
  [.cell 2 4 true], false⟩
/-- viewport/gram.Same  -/
def t22B : AC := (.seq (.regN [0, 1] [
    ⟨(some 2), none, .boxR 4 (.tmp 0), 0, false⟩,
    ⟨(some 3), none, .boxR 4 (.tmp 1), 0, false⟩,
    ⟨(some 4), none, .mv (.con (.val (.bool false))), 0, false⟩])
  (.seq (.regN [2, 3] [
    ⟨(some 5), none, .fldA 0 (.tmp 2), 0, false⟩,
    ⟨(some 6), none, .ld1 (some 2) (.tmp 5), 0, false⟩,
    ⟨(some 7), none, .fldA 0 (.tmp 3), 0, false⟩,
    ⟨(some 8), none, .ld1 (some 3) (.tmp 7), 0, false⟩,
    ⟨(some 9), none, .bini .eql (.tmp 6) (.tmp 8), 0, false⟩,
    ⟨(some 10), none, .mv (.tmp 9), 0, false⟩,
    ⟨(some 11), (some (10, true)), .fldA 1 (.tmp 2), 0, false⟩,
    ⟨(some 12), (some (10, true)), .ld1 (some 2) (.tmp 11), 0, false⟩,
    ⟨(some 13), (some (10, true)), .fldA 1 (.tmp 3), 0, false⟩,
    ⟨(some 14), (some (10, true)), .ld1 (some 3) (.tmp 13), 0, false⟩,
    ⟨(some 15), (some (10, true)), .bini .eql (.tmp 12) (.tmp 14), 0, false⟩,
    ⟨(some 16), none, .pick (.tmp 10) (.tmp 15) (.con (.val (.bool false))), 0, false⟩,
    ⟨(some 17), none, .mv (.tmp 16), 0, false⟩,
    ⟨(some 18), (some (17, true)), .fldA 2 (.tmp 2), 0, false⟩,
    ⟨(some 19), (some (17, true)), .ld1 (some 2) (.tmp 18), 0, false⟩,
    ⟨(some 20), (some (17, true)), .fldA 2 (.tmp 3), 0, false⟩,
    ⟨(some 21), (some (17, true)), .ld1 (some 3) (.tmp 20), 0, false⟩,
    ⟨(some 22), (some (17, true)), .bini .eql (.tmp 19) (.tmp 21), 0, false⟩,
    ⟨(some 23), none, .pick (.tmp 17) (.tmp 22) (.con (.val (.bool false))), 0, false⟩,
    ⟨(some 24), none, .mv (.tmp 23), 0, false⟩,
    ⟨(some 25), (some (24, true)), .fldA 3 (.tmp 2), 0, false⟩,
    ⟨(some 26), (some (24, true)), .ld1 (some 2) (.tmp 25), 0, false⟩,
    ⟨(some 27), (some (24, true)), .fldA 3 (.tmp 3), 0, false⟩,
    ⟨(some 28), (some (24, true)), .ld1 (some 3) (.tmp 27), 0, false⟩,
    ⟨(some 29), (some (24, true)), .call 46 [(.tmp 26), (.tmp 28), (.con (.fn 47 []))], 0, false⟩,
    ⟨(some 30), none, .pick (.tmp 24) (.tmp 29) (.con (.val (.bool false))), 0, false⟩,
    ⟨(some 4), none, .mv (.tmp 30), 0, false⟩])
  .ret))
def t22 : AFn := ⟨2, t22B,
  [.tmp 4], true⟩
/-- slices.EqualFunc[[]viewport/api.Prod,[]viewport/api.Prod,viewport/api.Prod,viewport/api.Prod]  -/
def t46L1 : AC := (.seq (.regN [1, 2, 15, 16, 17] [
        ⟨(some 18), none, .bini .lss (.tmp 17) (.tmp 16), 0, false⟩])
      (.seq (.cond (.tmp 18)
        .skip
        (.exit 0))
      (.seq (.block 1
        (.seq (.regN [1, 2, 15, 16, 17] [
          ⟨(some 19), none, .mv (.tmp 17), 0, false⟩,
          ⟨(some 20), none, .ixA 2 (.tmp 15) (.tmp 17), 0, false⟩,
          ⟨(some 21), none, .ldA none 2 (.tmp 20), 0, false⟩,
          ⟨(some 8), none, .allocR [(.val (.int .i64 0)), .e0], 0, false⟩,
          ⟨(some 7), none, .mv (.tmp 19), 0, false⟩,
          ⟨none, none, .st (some 8) 2 (.tmp 8) (.tmp 21), 0, false⟩])
        (.seq (.regN [1, 2, 7, 8, 15, 16, 17] [
          ⟨(some 22), none, .mv (.tmp 1), 0, false⟩,
          ⟨(some 23), none, .mv (.tmp 7), 0, false⟩,
          ⟨(some 24), none, .ixA 2 (.tmp 22) (.tmp 23), 0, false⟩,
          ⟨(some 25), none, .ldA none 2 (.tmp 24), 0, false⟩,
          ⟨(some 9), none, .allocR [(.val (.int .i64 0)), .e0], 0, false⟩,
          ⟨none, none, .st (some 9) 2 (.tmp 9) (.tmp 25), 0, false⟩])
        (.seq (.regN [1, 2, 8, 9, 15, 16, 17] [
          ⟨(some 26), none, .mv (.tmp 2), 0, false⟩,
          ⟨(some 27), none, .ldA (some 8) 2 (.tmp 8), 0, false⟩,
          ⟨(some 28), none, .ldA (some 9) 2 (.tmp 9), 0, false⟩,
          ⟨(some 29), none, .callv (.tmp 26) [(.tmp 27), (.tmp 28)], 0, false⟩,
          ⟨(some 30), none, .not (.tmp 29), 0, false⟩])
        (.cond (.tmp 30)
          (.seq (.regN [] [
            ⟨(some 6), none, .mv (.con (.val (.bool false))), 0, false⟩])
          .ret)
          .skip)))))
      (.regN [1, 2, 15, 16, 17] [
        ⟨(some 31), none, .bini .add (.tmp 17) (.con (.val (.int .i64 1))), 0, false⟩,
        ⟨(some 17), none, .mv (.tmp 31), 0, false⟩]))))
def t46B : AC := (.seq (.regN [0, 1, 2] [
    ⟨(some 6), none, .mv (.con (.val (.bool false))), 0, false⟩])
  (.seq (.seq (.regN [0, 1, 2] [
    ⟨(some 10), none, .mv (.tmp 0), 0, false⟩,
    ⟨(some 11), none, .len false (.tmp 10), 0, false⟩,
    ⟨(some 12), none, .mv (.tmp 1), 0, false⟩,
    ⟨(some 13), none, .len false (.tmp 12), 0, false⟩,
    ⟨(some 14), none, .bini .neq (.tmp 11) (.tmp 13), 0, false⟩])
  (.cond (.tmp 14)
    (.seq (.regN [] [
      ⟨(some 6), none, .mv (.con (.val (.bool false))), 0, false⟩])
    .ret)
    .skip))
  (.seq (.seq (.regN [0, 1, 2] [
    ⟨(some 15), none, .mv (.tmp 0), 0, false⟩,
    ⟨(some 16), none, .len false (.tmp 15), 0, false⟩,
    ⟨(some 17), none, .mv (.con (.val (.int .i64 0))), 0, false⟩])
  (.block 0
    (.loop [1, 2, 15, 16, 17] t46L1)))
  (.seq (.regN [] [
    ⟨(some 6), none, .mv (.con (.val (.bool true))), 0, false⟩])
  .ret))))
def t46 : AFn := ⟨3, t46B,
  [.tmp 6], true⟩
/-- viewport/gram.Same$1  -/
def t47B : AC := (.seq (.regN [0, 1] [
    ⟨(some 2), none, .boxR 2 (.tmp 0), 0, false⟩,
    ⟨(some 3), none, .boxR 2 (.tmp 1), 0, false⟩,
    ⟨(some 4), none, .mv (.con (.val (.bool false))), 0, false⟩])
  (.seq (.regN [2, 3] [
    ⟨(some 5), none, .fldA 0 (.tmp 2), 0, false⟩,
    ⟨(some 6), none, .ld1 (some 2) (.tmp 5), 0, false⟩,
    ⟨(some 7), none, .fldA 0 (.tmp 3), 0, false⟩,
    ⟨(some 8), none, .ld1 (some 3) (.tmp 7), 0, false⟩,
    ⟨(some 9), none, .bini .eql (.tmp 6) (.tmp 8), 0, false⟩,
    ⟨(some 10), none, .mv (.tmp 9), 0, false⟩,
    ⟨(some 11), (some (10, true)), .fldA 1 (.tmp 2), 0, false⟩,
    ⟨(some 12), (some (10, true)), .ld1 (some 2) (.tmp 11), 0, false⟩,
    ⟨(some 13), (some (10, true)), .fldA 1 (.tmp 3), 0, false⟩,
    ⟨(some 14), (some (10, true)), .ld1 (some 3) (.tmp 13), 0, false⟩,
    ⟨(some 15), (some (10, true)), .call 48 [(.tmp 12), (.tmp 14)], 0, false⟩,
    ⟨(some 16), none, .pick (.tmp 10) (.tmp 15) (.con (.val (.bool false))), 0, false⟩,
    ⟨(some 4), none, .mv (.tmp 16), 0, false⟩])
  .ret))
def t47 : AFn := ⟨2, t47B,
  [.tmp 4], true⟩
/-- slices.Equal[[]int,int]  -/
def t48L1 : AC := (.seq (.regN [0, 1, 12, 13] [
        ⟨(some 14), none, .bini .lss (.tmp 13) (.tmp 12), 0, false⟩])
      (.seq (.cond (.tmp 14)
        .skip
        (.exit 0))
      (.seq (.block 1
        (.seq (.regN [0, 1, 12, 13] [
          ⟨(some 15), none, .mv (.tmp 13), 0, false⟩,
          ⟨(some 5), none, .mv (.tmp 15), 0, false⟩])
        (.seq (.regD [0, 1, 5, 12, 13] 0 [
          ⟨(some 16), none, .mv (.tmp 0), 0, false⟩,
          ⟨(some 17), none, .mv (.tmp 5), 0, false⟩,
          ⟨(some 18), none, .ixA 1 (.tmp 16) (.tmp 17), 0, false⟩,
          ⟨(some 19), none, .ld1 none (.tmp 18), 0, false⟩,
          ⟨(some 20), none, .mv (.tmp 1), 0, false⟩,
          ⟨(some 21), none, .mv (.tmp 5), 0, false⟩,
          ⟨(some 22), none, .ixA 1 (.tmp 20) (.tmp 21), 0, false⟩,
          ⟨(some 23), none, .ld1 none (.tmp 22), 0, false⟩,
          ⟨(some 24), none, .bini .neq (.tmp 19) (.tmp 23), 0, false⟩])
        (.cond (.tmp 24)
          (.seq (.regN [] [
            ⟨(some 4), none, .mv (.con (.val (.bool false))), 0, false⟩])
          .ret)
          .skip))))
      (.regN [0, 1, 12, 13] [
        ⟨(some 25), none, .bini .add (.tmp 13) (.con (.val (.int .i64 1))), 0, false⟩,
        ⟨(some 13), none, .mv (.tmp 25), 0, false⟩]))))
def t48B : AC := (.seq (.regN [0, 1] [
    ⟨(some 4), none, .mv (.con (.val (.bool false))), 0, false⟩])
  (.seq (.seq (.regN [0, 1] [
    ⟨(some 6), none, .mv (.tmp 0), 0, false⟩,
    ⟨(some 7), none, .len false (.tmp 6), 0, false⟩,
    ⟨(some 8), none, .mv (.tmp 1), 0, false⟩,
    ⟨(some 9), none, .len false (.tmp 8), 0, false⟩,
    ⟨(some 10), none, .bini .neq (.tmp 7) (.tmp 9), 0, false⟩])
  (.cond (.tmp 10)
    (.seq (.regN [] [
      ⟨(some 4), none, .mv (.con (.val (.bool false))), 0, false⟩])
    .ret)
    .skip))
  (.seq (.seq (.regN [0, 1] [
    ⟨(some 11), none, .mv (.tmp 0), 0, false⟩,
    ⟨(some 12), none, .len false (.tmp 11), 0, false⟩,
    ⟨(some 13), none, .mv (.con (.val (.int .i64 0))), 0, false⟩])
  (.block 0
    (.loop [0, 1, 12, 13] t48L1)))
  (.seq (.regN [] [
    ⟨(some 4), none, .mv (.con (.val (.bool true))), 0, false⟩])
  .ret))))
def t48 : AFn := ⟨2, t48B,
  [.tmp 4], true⟩
/-- viewport/viewportlaw11.GramCalls  -/
def t8B : AC := (.seq (.regN [0, 1, 2] [
    ⟨(some 3), none, .boxR 4 (.tmp 0), 0, false⟩,
    ⟨(some 4), none, .boxR 4 (.tmp 1), 0, false⟩,
    ⟨(some 6), none, .mv (.con (.val (.bool false))), 0, false⟩])
  (.seq (.seq (.regN [2, 3, 4] [
    ⟨(some 15), none, .call 9 [], 0, false⟩,
    ⟨(some 16), none, .not (.tmp 15), 0, false⟩])
  (.cond (.tmp 16)
    (.seq (.regN [] [
      ⟨(some 6), none, .mv (.con (.val (.bool false))), 0, false⟩])
    .ret)
    .skip))
  (.seq (.seq (.regN [2, 3, 4] [
    ⟨(some 17), none, .ldA (some 3) 4 (.tmp 3), 0, false⟩,
    ⟨(some 18), none, .call 10 [(.tmp 17)], 0, false⟩,
    ⟨(some 19), none, .not (.tmp 18), 0, false⟩,
    ⟨(some 20), none, .mv (.tmp 19), 0, false⟩,
    ⟨(some 21), (some (20, false)), .ldA (some 4) 4 (.tmp 4), 0, false⟩,
    ⟨(some 22), (some (20, false)), .call 10 [(.tmp 21)], 0, false⟩,
    ⟨(some 23), (some (20, false)), .not (.tmp 22), 0, false⟩,
    ⟨(some 24), none, .pick (.tmp 20) (.con (.val (.bool true))) (.tmp 23), 0, false⟩])
  (.cond (.tmp 24)
    (.seq (.regN [] [
      ⟨(some 6), none, .mv (.con (.val (.bool true))), 0, false⟩])
    .ret)
    .skip))
  (.seq (.regN [2, 3, 4] [
    ⟨(some 26), none, .ldA (some 3) 4 (.tmp 3), 0, false⟩,
    ⟨(some 27), none, .call 19 [(.tmp 26)], 0, false⟩,
    ⟨(some 25), none, .mv (.tmp 27), 0, false⟩,
    ⟨(some 28), none, .ext (.tmp 25) 0, 0, false⟩,
    ⟨(some 29), none, .ext (.tmp 25) 1, 0, false⟩,
    ⟨(some 7), none, .mv (.tmp 28), 0, false⟩,
    ⟨(some 8), none, .mv (.tmp 29), 0, false⟩])
  (.seq (.regN [2, 3, 4, 7, 8] [
    ⟨(some 31), none, .ldA (some 3) 4 (.tmp 3), 0, false⟩,
    ⟨(some 32), none, .call 25 [(.tmp 31)], 0, false⟩,
    ⟨(some 30), none, .mv (.tmp 32), 0, false⟩,
    ⟨(some 33), none, .ext (.tmp 30) 0, 0, false⟩,
    ⟨(some 34), none, .ext (.tmp 30) 1, 0, false⟩,
    ⟨(some 9), none, .mv (.tmp 33), 0, false⟩,
    ⟨(some 10), none, .mv (.tmp 34), 0, false⟩])
  (.seq (.regN [2, 3, 4, 7, 8, 9, 10] [
    ⟨(some 36), none, .ldA (some 3) 4 (.tmp 3), 0, false⟩,
    ⟨(some 37), none, .call 13 [(.tmp 36)], 0, false⟩,
    ⟨(some 35), none, .mv (.tmp 37), 0, false⟩,
    ⟨(some 38), none, .ext (.tmp 35) 0, 0, false⟩,
    ⟨(some 39), none, .ext (.tmp 35) 1, 0, false⟩,
    ⟨(some 11), none, .mv (.tmp 38), 0, false⟩,
    ⟨(some 12), none, .mv (.tmp 39), 0, false⟩])
  (.seq (.regN [2, 3, 4, 7, 8, 9, 10, 11, 12] [
    ⟨(some 41), none, .ldA (some 3) 4 (.tmp 3), 0, false⟩,
    ⟨(some 42), none, .call 26 [(.tmp 41)], 0, false⟩,
    ⟨(some 40), none, .mv (.tmp 42), 0, false⟩,
    ⟨(some 43), none, .ext (.tmp 40) 0, 0, false⟩,
    ⟨(some 44), none, .ext (.tmp 40) 1, 0, false⟩,
    ⟨(some 13), none, .mv (.tmp 43), 0, false⟩,
    ⟨(some 14), none, .mv (.tmp 44), 0, false⟩])
  (.seq (.regD [2, 3, 4, 7, 8, 9, 10, 11, 12, 13, 14] 0 [
    ⟨(some 45), none, .mv (.tmp 7), 0, false⟩,
    ⟨(some 46), none, .mv (.tmp 9), 0, false⟩,
    ⟨(some 47), none, .bini .eql (.tmp 45) (.tmp 46), 0, false⟩,
    ⟨(some 48), none, .mv (.tmp 47), 0, false⟩,
    ⟨(some 49), (some (48, true)), .mv (.tmp 8), 0, false⟩,
    ⟨(some 50), (some (48, true)), .mv (.tmp 10), 0, false⟩,
    ⟨(some 51), (some (48, true)), .eqb false (.tmp 49) (.tmp 50), 0, false⟩,
    ⟨(some 52), none, .pick (.tmp 48) (.tmp 51) (.con (.val (.bool false))), 0, false⟩,
    ⟨(some 53), none, .mv (.tmp 52), 0, false⟩,
    ⟨(some 54), (some (53, true)), .mv (.tmp 11), 0, false⟩,
    ⟨(some 55), (some (53, true)), .mv (.tmp 13), 0, false⟩,
    ⟨(some 56), (some (53, true)), .bini .eql (.tmp 54) (.tmp 55), 0, false⟩,
    ⟨(some 57), none, .pick (.tmp 53) (.tmp 56) (.con (.val (.bool false))), 0, false⟩,
    ⟨(some 58), none, .mv (.tmp 57), 0, false⟩,
    ⟨(some 59), (some (58, true)), .mv (.tmp 12), 0, false⟩,
    ⟨(some 60), (some (58, true)), .mv (.tmp 14), 0, false⟩,
    ⟨(some 61), (some (58, true)), .eqb false (.tmp 59) (.tmp 60), 0, false⟩,
    ⟨(some 62), none, .pick (.tmp 58) (.tmp 61) (.con (.val (.bool false))), 0, false⟩,
    ⟨(some 63), none, .mv (.tmp 62), 0, false⟩,
    ⟨(some 64), (some (63, true)), .ldA (some 3) 4 (.tmp 3), 0, false⟩,
    ⟨(some 65), (some (63, true)), .call 11 [(.tmp 64)], 0, true⟩,
    ⟨(some 66), (some (63, true)), .ldA (some 3) 4 (.tmp 3), 0, false⟩,
    ⟨(some 67), (some (63, true)), .call 27 [(.tmp 66)], 0, true⟩,
    ⟨(some 68), (some (63, true)), .bini .eql (.tmp 65) (.tmp 67), 0, false⟩,
    ⟨(some 69), none, .pick (.tmp 63) (.tmp 68) (.con (.val (.bool false))), 0, false⟩,
    ⟨(some 70), none, .mv (.tmp 69), 0, false⟩,
    ⟨(some 71), (some (70, true)), .ldA (some 3) 4 (.tmp 3), 0, false⟩,
    ⟨(some 72), (some (70, true)), .mv (.tmp 2), 0, false⟩,
    ⟨(some 73), (some (70, true)), .call 18 [(.tmp 71), (.tmp 72)], 0, true⟩,
    ⟨(some 74), (some (70, true)), .ldA (some 3) 4 (.tmp 3), 0, false⟩,
    ⟨(some 75), (some (70, true)), .mv (.tmp 2), 0, false⟩,
    ⟨(some 76), (some (70, true)), .call 28 [(.tmp 74), (.tmp 75)], 0, true⟩,
    ⟨(some 77), (some (70, true)), .call 24 [(.tmp 73), (.tmp 76)], 0, true⟩,
    ⟨(some 78), none, .pick (.tmp 70) (.tmp 77) (.con (.val (.bool false))), 0, false⟩,
    ⟨(some 79), none, .mv (.tmp 78), 0, false⟩,
    ⟨(some 80), (some (79, true)), .ldA (some 3) 4 (.tmp 3), 0, false⟩,
    ⟨(some 81), (some (79, true)), .call 12 [(.tmp 80)], 0, true⟩,
    ⟨(some 82), (some (79, true)), .ldA (some 3) 4 (.tmp 3), 0, false⟩,
    ⟨(some 83), (some (79, true)), .call 29 [(.tmp 82)], 0, true⟩,
    ⟨(some 84), (some (79, true)), .call 15 [(.tmp 81), (.tmp 83)], 0, true⟩,
    ⟨(some 85), none, .pick (.tmp 79) (.tmp 84) (.con (.val (.bool false))), 0, false⟩,
    ⟨(some 86), none, .mv (.tmp 85), 0, false⟩,
    ⟨(some 87), (some (86, true)), .ldA (some 3) 4 (.tmp 3), 0, false⟩,
    ⟨(some 88), (some (86, true)), .call 16 [(.tmp 87)], 0, true⟩,
    ⟨(some 89), (some (86, true)), .ldA (some 3) 4 (.tmp 3), 0, false⟩,
    ⟨(some 90), (some (86, true)), .call 30 [(.tmp 89)], 0, true⟩,
    ⟨(some 91), (some (86, true)), .call 15 [(.tmp 88), (.tmp 90)], 0, true⟩,
    ⟨(some 92), none, .pick (.tmp 86) (.tmp 91) (.con (.val (.bool false))), 0, false⟩,
    ⟨(some 93), none, .mv (.tmp 92), 0, false⟩,
    ⟨(some 94), (some (93, true)), .ldA (some 3) 4 (.tmp 3), 0, false⟩,
    ⟨(some 95), (some (93, true)), .call 17 [(.tmp 94)], 0, true⟩,
    ⟨(some 96), (some (93, true)), .ldA (some 3) 4 (.tmp 3), 0, false⟩,
    ⟨(some 97), (some (93, true)), .call 31 [(.tmp 96)], 0, true⟩,
    ⟨(some 98), (some (93, true)), .call 15 [(.tmp 95), (.tmp 97)], 0, true⟩,
    ⟨(some 99), none, .pick (.tmp 93) (.tmp 98) (.con (.val (.bool false))), 0, false⟩,
    ⟨(some 100), none, .mv (.tmp 99), 0, false⟩,
    ⟨(some 101), (some (100, true)), .ldA (some 3) 4 (.tmp 3), 0, false⟩,
    ⟨(some 102), (some (100, true)), .ldA (some 4) 4 (.tmp 4), 0, false⟩,
    ⟨(some 103), (some (100, true)), .call 22 [(.tmp 101), (.tmp 102)], 0, true⟩,
    ⟨(some 104), (some (100, true)), .ldA (some 3) 4 (.tmp 3), 0, false⟩,
    ⟨(some 105), (some (100, true)), .ldA (some 4) 4 (.tmp 4), 0, false⟩,
    ⟨(some 106), (some (100, true)), .call 32 [(.tmp 104), (.tmp 105)], 0, true⟩,
    ⟨(some 107), (some (100, true)), .eqb false (.tmp 103) (.tmp 106), 0, false⟩,
    ⟨(some 108), none, .pick (.tmp 100) (.tmp 107) (.con (.val (.bool false))), 0, false⟩,
    ⟨(some 109), none, .mv (.tmp 108), 0, false⟩,
    ⟨(some 110), (some (109, true)), .ldA (some 3) 4 (.tmp 3), 0, false⟩,
    ⟨(some 111), (some (109, true)), .call 21 [(.tmp 110)], 0, true⟩,
    ⟨(some 112), (some (109, true)), .ldA (some 3) 4 (.tmp 3), 0, false⟩,
    ⟨(some 113), (some (109, true)), .call 32 [(.tmp 111), (.tmp 112)], 0, true⟩,
    ⟨(some 114), none, .pick (.tmp 109) (.tmp 113) (.con (.val (.bool false))), 0, false⟩,
    ⟨(some 6), none, .mv (.tmp 114), 0, false⟩])
  .ret))))))))
def t8 : AFn := ⟨3, t8B,
  [.tmp 6], true⟩
/-- viewport/viewportref11.Reduced  -/
def t25L1 : AC := (.seq (.seq (.regN [1, 4, 5, 6] [
        ⟨(some 14), none, .mv (.tmp 6), 0, false⟩,
        ⟨(some 15), none, .fldA 1 (.tmp 1), 0, false⟩,
        ⟨(some 16), none, .ld1 (some 1) (.tmp 15), 0, false⟩,
        ⟨(some 17), none, .bini .lss (.tmp 14) (.tmp 16), 0, false⟩])
      (.cond (.tmp 17)
        .skip
        (.exit 0)))
      (.seq (.block 1
        (.seq (.regN [1, 4, 5, 6] [
          ⟨(some 20), none, .mv (.tmp 4), 0, false⟩,
          ⟨(some 21), none, .mv (.tmp 6), 0, false⟩,
          ⟨(some 22), none, .ixA 1 (.tmp 20) (.tmp 21), 0, false⟩,
          ⟨(some 23), none, .ld1 none (.tmp 22), 0, false⟩,
          ⟨(some 24), none, .not (.tmp 23), 0, false⟩,
          ⟨(some 25), none, .mv (.tmp 24), 0, false⟩,
          ⟨(some 26), (some (25, false)), .mv (.tmp 5), 0, false⟩,
          ⟨(some 27), (some (25, false)), .mv (.tmp 6), 0, false⟩,
          ⟨(some 28), (some (25, false)), .ixA 1 (.tmp 26) (.tmp 27), 0, false⟩,
          ⟨(some 29), (some (25, false)), .ld1 none (.tmp 28), 0, false⟩,
          ⟨(some 30), (some (25, false)), .not (.tmp 29), 0, false⟩,
          ⟨(some 31), none, .pick (.tmp 25) (.con (.val (.bool true))) (.tmp 30), 0, false⟩])
        (.cond (.tmp 31)
          (.seq (.regN [6] [
            ⟨(some 32), none, .mv (.tmp 6), 0, false⟩,
            ⟨(some 2), none, .mv (.tmp 32), 0, false⟩,
            ⟨(some 3), none, .mv (.con (.val (.bool false))), 0, false⟩])
          .ret)
          .skip)))
      (.regN [1, 4, 5, 6] [
        ⟨(some 18), none, .mv (.tmp 6), 0, false⟩,
        ⟨(some 19), none, .bini .add (.tmp 18) (.con (.val (.int .i64 1))), 0, false⟩,
        ⟨(some 6), none, .mv (.tmp 19), 0, false⟩])))
def t25B : AC := (.seq (.regN [0] [
    ⟨(some 1), none, .boxR 4 (.tmp 0), 0, false⟩,
    ⟨(some 2), none, .mv (.con (.val (.int .i64 0))), 0, false⟩,
    ⟨(some 3), none, .mv (.con (.val (.bool false))), 0, false⟩])
  (.seq (.seq (.regN [1] [
    ⟨(some 7), none, .ldA (some 1) 4 (.tmp 1), 0, false⟩,
    ⟨(some 8), none, .call 27 [(.tmp 7)], 0, false⟩,
    ⟨(some 9), none, .bini .neq (.tmp 8) (.con (.val (.int .i64 0))), 0, false⟩])
  (.cond (.tmp 9)
    (.seq (.regN [] [
      ⟨(some 2), none, .mv (.con (.val (.int .i64 0))), 0, false⟩,
      ⟨(some 3), none, .mv (.con (.val (.bool false))), 0, false⟩])
    .ret)
    .skip))
  (.seq (.regD [1] 0 [
    ⟨(some 10), none, .ldA (some 1) 4 (.tmp 1), 0, false⟩,
    ⟨(some 11), none, .call 30 [(.tmp 10)], 0, true⟩,
    ⟨(some 12), none, .ldA (some 1) 4 (.tmp 1), 0, false⟩,
    ⟨(some 13), none, .call 31 [(.tmp 12)], 0, true⟩,
    ⟨(some 4), none, .mv (.tmp 11), 0, false⟩,
    ⟨(some 5), none, .mv (.tmp 13), 0, false⟩])
  (.seq (.seq (.regN [1, 4, 5] [
    ⟨(some 6), none, .mv (.con (.val (.int .i64 0))), 0, false⟩])
  (.block 0
    (.loop [1, 4, 5, 6] t25L1)))
  (.seq (.regN [] [
    ⟨(some 2), none, .mv (.con (.val (.int .i64 0))), 0, false⟩,
    ⟨(some 3), none, .mv (.con (.val (.bool true))), 0, false⟩])
  .ret)))))
def t25 : AFn := ⟨1, t25B,
  [.tmp 2, .tmp 3], true⟩
end Go.Proofs.Ytikedgpcgacgoaa
