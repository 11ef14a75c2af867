/- The functions of a program, compiled: printed by wip/hm/tools/Gen.lean. -/
import Derived.Test.YtikedgpcgacgoaaHmTop
import Derived.Test.YtikedgpcgacgoaaHmClone
import Derived.Test.YtikedgpcgacgoaaRows
namespace Go.Proofs.Ytikedgpcgacgoaa
open Go Go.Hm
/-- viewport/viewportlaw11.GramLeft  -/
def t3 : AFn := ⟨1, (.seq (.regN [0] [
    ⟨(some 1), none, .boxR 4 (.tmp 0), 0⟩,
    ⟨(some 2), none, .mv (.con (.val (.bool false))), 0⟩])
  (.seq (.seq (.regN [1] [
    ⟨(some 15), none, .call 9 [], 0⟩,
    ⟨(some 16), none, .not (.tmp 15), 0⟩])
  (.cond (.tmp 16)
    (.seq (.regN [] [
      ⟨(some 2), none, .mv (.con (.val (.bool false))), 0⟩])
    .ret)
    .skip))
  (.seq (.seq (.regN [1] [
    ⟨(some 17), none, .ldA (some 1) 4 (.tmp 1), 0⟩,
    ⟨(some 18), none, .call 10 [(.tmp 17)], 0⟩,
    ⟨(some 19), none, .not (.tmp 18), 0⟩,
    ⟨(some 20), none, .mv (.tmp 19), 0⟩,
    ⟨(some 21), (some (20, false)), .ldA (some 1) 4 (.tmp 1), 0⟩,
    ⟨(some 22), (some (20, false)), .call 11 [(.tmp 21)], 0⟩,
    ⟨(some 23), (some (20, false)), .bini .neq (.tmp 22) (.con (.val (.int .i64 0))), 0⟩,
    ⟨(some 24), none, .pick (.tmp 20) (.con (.val (.bool true))) (.tmp 23), 0⟩])
  (.cond (.tmp 24)
    (.seq (.regN [] [
      ⟨(some 2), none, .mv (.con (.val (.bool true))), 0⟩])
    .ret)
    .skip))
  (.seq (.regN [1] [
    ⟨(some 25), none, .ldA (some 1) 4 (.tmp 1), 0⟩,
    ⟨(some 26), none, .call 12 [(.tmp 25)], 0⟩,
    ⟨(some 3), none, .mv (.tmp 26), 0⟩])
  (.seq (.seq (.regN [1, 3] [
    ⟨(some 27), none, .mv (.tmp 3), 0⟩,
    ⟨(some 28), none, .len false (.tmp 27), 0⟩,
    ⟨(some 29), none, .fldA 1 (.tmp 1), 0⟩,
    ⟨(some 30), none, .ld1 (some 1) (.tmp 29), 0⟩,
    ⟨(some 31), none, .bini .neq (.tmp 28) (.tmp 30), 0⟩])
  (.cond (.tmp 31)
    (.seq (.regN [] [
      ⟨(some 2), none, .mv (.con (.val (.bool false))), 0⟩])
    .ret)
    .skip))
  (.seq (.regN [1, 3] [
    ⟨(some 32), none, .fldA 1 (.tmp 1), 0⟩,
    ⟨(some 33), none, .ld1 (some 1) (.tmp 32), 0⟩,
    ⟨(some 34), none, .mks 1 24 [.e0] (.tmp 33), 0⟩,
    ⟨(some 4), none, .mv (.tmp 34), 0⟩])
  (.seq (.seq (.regN [1, 3, 4] [
    ⟨(some 5), none, .mv (.con (.val (.int .i64 0))), 0⟩])
  (.block 0
    (.loop [1, 3, 4, 5]
      (.seq (.seq (.regN [1, 3, 4, 5] [
        ⟨(some 35), none, .mv (.tmp 5), 0⟩,
        ⟨(some 36), none, .fldA 1 (.tmp 1), 0⟩,
        ⟨(some 37), none, .ld1 (some 1) (.tmp 36), 0⟩,
        ⟨(some 38), none, .bini .lss (.tmp 35) (.tmp 37), 0⟩])
      (.cond (.tmp 38)
        .skip
        (.exit 0)))
      (.seq (.block 1
        (.regN [1, 3, 4, 5] [
          ⟨(some 41), none, .mv (.tmp 4), 0⟩,
          ⟨(some 42), none, .mv (.tmp 5), 0⟩,
          ⟨(some 43), none, .fldA 1 (.tmp 1), 0⟩,
          ⟨(some 44), none, .ld1 (some 1) (.tmp 43), 0⟩,
          ⟨(some 45), none, .mks 1 1 [(.val (.bool false))] (.tmp 44), 0⟩,
          ⟨(some 46), none, .ixA 1 (.tmp 41) (.tmp 42), 0⟩,
          ⟨none, none, .st none 1 (.tmp 46) (.tmp 45), 0⟩]))
      (.regN [1, 3, 4, 5] [
        ⟨(some 39), none, .mv (.tmp 5), 0⟩,
        ⟨(some 40), none, .bini .add (.tmp 39) (.con (.val (.int .i64 1))), 0⟩,
        ⟨(some 5), none, .mv (.tmp 40), 0⟩]))))))
  (.seq (.seq (.regN [1, 3, 4] [
    ⟨(some 6), none, .mv (.con (.val (.int .i64 0))), 0⟩])
  (.block 2
    (.loop [1, 3, 4, 6]
      (.seq (.seq (.regN [1, 3, 4, 6] [
        ⟨(some 47), none, .mv (.tmp 6), 0⟩,
        ⟨(some 48), none, .fldA 1 (.tmp 1), 0⟩,
        ⟨(some 49), none, .ld1 (some 1) (.tmp 48), 0⟩,
        ⟨(some 50), none, .bini .leq (.tmp 47) (.tmp 49), 0⟩])
      (.cond (.tmp 50)
        .skip
        (.exit 2)))
      (.seq (.block 3
        (.seq (.regN [1, 3, 4, 6] [
          ⟨(some 7), none, .mv (.con (.val (.int .i64 0))), 0⟩])
        (.block 4
          (.loop [1, 3, 4, 6, 7]
            (.seq (.seq (.regN [1, 3, 4, 6, 7] [
              ⟨(some 53), none, .mv (.tmp 7), 0⟩,
              ⟨(some 54), none, .fldA 3 (.tmp 1), 0⟩,
              ⟨(some 55), none, .ld1 (some 1) (.tmp 54), 0⟩,
              ⟨(some 56), none, .len false (.tmp 55), 0⟩,
              ⟨(some 57), none, .bini .lss (.tmp 53) (.tmp 56), 0⟩])
            (.cond (.tmp 57)
              .skip
              (.exit 4)))
            (.seq (.block 5
              (.seq (.regN [1, 3, 4, 6, 7] [
                ⟨(some 60), none, .fldA 3 (.tmp 1), 0⟩,
                ⟨(some 61), none, .ld1 (some 1) (.tmp 60), 0⟩,
                ⟨(some 62), none, .mv (.tmp 7), 0⟩,
                ⟨(some 63), none, .ixA 2 (.tmp 61) (.tmp 62), 0⟩,
                ⟨(some 64), none, .ldA none 2 (.tmp 63), 0⟩,
                ⟨(some 8), none, .allocR [(.val (.int .i64 0)), .e0], 0⟩,
                ⟨none, none, .st (some 8) 2 (.tmp 8) (.tmp 64), 0⟩])
              (.seq (.regN [1, 3, 4, 6, 7, 8] [
                ⟨(some 9), none, .mv (.con (.val (.int .i64 0))), 0⟩])
              (.block 6
                (.loop [1, 3, 4, 6, 7, 8, 9]
                  (.seq (.seq (.regN [1, 3, 4, 6, 7, 8, 9] [
                    ⟨(some 65), none, .mv (.tmp 9), 0⟩,
                    ⟨(some 66), none, .fldA 1 (.tmp 8), 0⟩,
                    ⟨(some 67), none, .ld1 (some 8) (.tmp 66), 0⟩,
                    ⟨(some 68), none, .len false (.tmp 67), 0⟩,
                    ⟨(some 69), none, .bini .lss (.tmp 65) (.tmp 68), 0⟩])
                  (.cond (.tmp 69)
                    .skip
                    (.exit 6)))
                  (.seq (.block 7
                    (.seq (.regD [1, 3, 4, 6, 7, 8, 9] 0 [
                      ⟨(some 72), none, .fldA 1 (.tmp 8), 0⟩,
                      ⟨(some 73), none, .ld1 (some 8) (.tmp 72), 0⟩,
                      ⟨(some 74), none, .mv (.tmp 9), 0⟩,
                      ⟨(some 75), none, .ixA 1 (.tmp 73) (.tmp 74), 0⟩,
                      ⟨(some 76), none, .ld1 none (.tmp 75), 0⟩,
                      ⟨(some 77), none, .fldA 0 (.tmp 1), 0⟩,
                      ⟨(some 78), none, .ld1 (some 1) (.tmp 77), 0⟩,
                      ⟨(some 79), none, .bini .sub (.tmp 76) (.tmp 78), 0⟩,
                      ⟨(some 10), none, .mv (.tmp 79), 0⟩])
                    (.seq (.seq (.regD [1, 3, 4, 6, 7, 8, 9, 10] 0 [
                      ⟨(some 80), none, .mv (.tmp 10), 0⟩,
                      ⟨(some 81), none, .bini .lss (.tmp 80) (.con (.val (.int .i64 0))), 0⟩,
                      ⟨(some 82), none, .mv (.tmp 81), 0⟩,
                      ⟨(some 83), (some (82, false)), .mv (.tmp 9), 0⟩,
                      ⟨(some 84), (some (82, false)), .bini .gtr (.tmp 83) (.con (.val (.int .i64 0))), 0⟩,
                      ⟨(some 85), (some (82, false)), .mv (.tmp 84), 0⟩,
                      ⟨(some 86), (some (85, true)), .mv (.tmp 3), 0⟩,
                      ⟨(some 87), (some (85, true)), .fldA 1 (.tmp 8), 0⟩,
                      ⟨(some 88), (some (85, true)), .ld1 (some 8) (.tmp 87), 0⟩,
                      ⟨(some 89), (some (85, true)), .mv (.tmp 9), 0⟩,
                      ⟨(some 90), (some (85, true)), .bini .sub (.tmp 89) (.con (.val (.int .i64 1))), 0⟩,
                      ⟨(some 91), (some (85, true)), .ixA 1 (.tmp 88) (.tmp 90), 0⟩,
                      ⟨(some 92), (some (85, true)), .ld1 none (.tmp 91), 0⟩,
                      ⟨(some 93), (some (85, true)), .fldA 0 (.tmp 1), 0⟩,
                      ⟨(some 94), (some (85, true)), .ld1 (some 1) (.tmp 93), 0⟩,
                      ⟨(some 95), (some (85, true)), .bini .sub (.tmp 92) (.tmp 94), 0⟩,
                      ⟨(some 96), (some (85, true)), .ixA 1 (.tmp 86) (.tmp 95), 0⟩,
                      ⟨(some 97), (some (85, true)), .ld1 none (.tmp 96), 0⟩,
                      ⟨(some 98), (some (85, true)), .not (.tmp 97), 0⟩,
                      ⟨(some 99), (some (82, false)), .pick (.tmp 85) (.tmp 98) (.con (.val (.bool false))), 0⟩,
                      ⟨(some 100), none, .pick (.tmp 82) (.con (.val (.bool true))) (.tmp 99), 0⟩])
                    (.cond (.tmp 100)
                      (.exit 6)
                      .skip))
                    (.seq (.regN [1, 3, 4, 6, 7, 8, 9, 10] [
                      ⟨(some 101), none, .mv (.tmp 4), 0⟩,
                      ⟨(some 102), none, .fldA 0 (.tmp 8), 0⟩,
                      ⟨(some 103), none, .ld1 (some 8) (.tmp 102), 0⟩,
                      ⟨(some 104), none, .ixA 1 (.tmp 101) (.tmp 103), 0⟩,
                      ⟨(some 105), none, .ld1 none (.tmp 104), 0⟩,
                      ⟨(some 106), none, .mv (.tmp 10), 0⟩,
                      ⟨(some 107), none, .ixA 1 (.tmp 105) (.tmp 106), 0⟩,
                      ⟨none, none, .st none 1 (.tmp 107) (.con (.val (.bool true))), 0⟩])
                    (.seq (.regN [1, 3, 4, 6, 7, 8, 9, 10] [
                      ⟨(some 11), none, .mv (.con (.val (.int .i64 0))), 0⟩])
                    (.block 8
                      (.loop [1, 3, 4, 6, 7, 8, 9, 10, 11]
                        (.seq (.seq (.regN [1, 3, 4, 6, 7, 8, 9, 10, 11] [
                          ⟨(some 108), none, .mv (.tmp 11), 0⟩,
                          ⟨(some 109), none, .fldA 1 (.tmp 1), 0⟩,
                          ⟨(some 110), none, .ld1 (some 1) (.tmp 109), 0⟩,
                          ⟨(some 111), none, .bini .lss (.tmp 108) (.tmp 110), 0⟩])
                        (.cond (.tmp 111)
                          .skip
                          (.exit 8)))
                        (.seq (.block 9
                          (.regD [1, 3, 4, 6, 7, 8, 9, 10, 11] 0 [
                            ⟨(some 114), none, .mv (.tmp 4), 0⟩,
                            ⟨(some 115), none, .fldA 0 (.tmp 8), 0⟩,
                            ⟨(some 116), none, .ld1 (some 8) (.tmp 115), 0⟩,
                            ⟨(some 117), none, .ixA 1 (.tmp 114) (.tmp 116), 0⟩,
                            ⟨(some 118), none, .ld1 none (.tmp 117), 0⟩,
                            ⟨(some 119), none, .mv (.tmp 11), 0⟩,
                            ⟨(some 120), none, .mv (.tmp 4), 0⟩,
                            ⟨(some 121), none, .fldA 0 (.tmp 8), 0⟩,
                            ⟨(some 122), none, .ld1 (some 8) (.tmp 121), 0⟩,
                            ⟨(some 123), none, .ixA 1 (.tmp 120) (.tmp 122), 0⟩,
                            ⟨(some 124), none, .ld1 none (.tmp 123), 0⟩,
                            ⟨(some 125), none, .mv (.tmp 11), 0⟩,
                            ⟨(some 126), none, .ixA 1 (.tmp 124) (.tmp 125), 0⟩,
                            ⟨(some 127), none, .ld1 none (.tmp 126), 0⟩,
                            ⟨(some 128), none, .mv (.tmp 127), 0⟩,
                            ⟨(some 129), (some (128, false)), .mv (.tmp 4), 0⟩,
                            ⟨(some 130), (some (128, false)), .mv (.tmp 10), 0⟩,
                            ⟨(some 131), (some (128, false)), .ixA 1 (.tmp 129) (.tmp 130), 0⟩,
                            ⟨(some 132), (some (128, false)), .ld1 none (.tmp 131), 0⟩,
                            ⟨(some 133), (some (128, false)), .mv (.tmp 11), 0⟩,
                            ⟨(some 134), (some (128, false)), .ixA 1 (.tmp 132) (.tmp 133), 0⟩,
                            ⟨(some 135), (some (128, false)), .ld1 none (.tmp 134), 0⟩,
                            ⟨(some 136), none, .pick (.tmp 128) (.con (.val (.bool true))) (.tmp 135), 0⟩,
                            ⟨(some 137), none, .ixA 1 (.tmp 118) (.tmp 119), 0⟩,
                            ⟨none, none, .st none 1 (.tmp 137) (.tmp 136), 0⟩]))
                        (.regN [1, 3, 4, 6, 7, 8, 9, 10, 11] [
                          ⟨(some 112), none, .mv (.tmp 11), 0⟩,
                          ⟨(some 113), none, .bini .add (.tmp 112) (.con (.val (.int .i64 1))), 0⟩,
                          ⟨(some 11), none, .mv (.tmp 113), 0⟩]))))))))))
                  (.regN [1, 3, 4, 6, 7, 8, 9] [
                    ⟨(some 70), none, .mv (.tmp 9), 0⟩,
                    ⟨(some 71), none, .bini .add (.tmp 70) (.con (.val (.int .i64 1))), 0⟩,
                    ⟨(some 9), none, .mv (.tmp 71), 0⟩]))))))))
            (.regN [1, 3, 4, 6, 7] [
              ⟨(some 58), none, .mv (.tmp 7), 0⟩,
              ⟨(some 59), none, .bini .add (.tmp 58) (.con (.val (.int .i64 1))), 0⟩,
              ⟨(some 7), none, .mv (.tmp 59), 0⟩])))))))
      (.regN [1, 3, 4, 6] [
        ⟨(some 51), none, .mv (.tmp 6), 0⟩,
        ⟨(some 52), none, .bini .add (.tmp 51) (.con (.val (.int .i64 1))), 0⟩,
        ⟨(some 6), none, .mv (.tmp 52), 0⟩]))))))
  (.seq (.regN [1, 4] [
    ⟨(some 139), none, .ldA (some 1) 4 (.tmp 1), 0⟩,
    ⟨(some 140), none, .call 13 [(.tmp 139)], 0⟩,
    ⟨(some 138), none, .mv (.tmp 140), 0⟩,
    ⟨(some 141), none, .ext (.tmp 138) 0, 0⟩,
    ⟨(some 142), none, .ext (.tmp 138) 1, 0⟩,
    ⟨(some 12), none, .mv (.tmp 141), 0⟩,
    ⟨(some 13), none, .mv (.tmp 142), 0⟩])
  (.seq (.seq (.regN [1, 4, 12, 13] [
    ⟨(some 14), none, .mv (.con (.val (.int .i64 0))), 0⟩])
  (.block 10
    (.loop [1, 4, 12, 13, 14]
      (.seq (.seq (.regN [1, 4, 12, 13, 14] [
        ⟨(some 143), none, .mv (.tmp 14), 0⟩,
        ⟨(some 144), none, .fldA 1 (.tmp 1), 0⟩,
        ⟨(some 145), none, .ld1 (some 1) (.tmp 144), 0⟩,
        ⟨(some 146), none, .bini .lss (.tmp 143) (.tmp 145), 0⟩])
      (.cond (.tmp 146)
        .skip
        (.exit 10)))
      (.seq (.block 11
        (.seq (.regN [1, 4, 12, 13, 14] [
          ⟨(some 149), none, .mv (.tmp 4), 0⟩,
          ⟨(some 150), none, .mv (.tmp 14), 0⟩,
          ⟨(some 151), none, .ixA 1 (.tmp 149) (.tmp 150), 0⟩,
          ⟨(some 152), none, .ld1 none (.tmp 151), 0⟩,
          ⟨(some 153), none, .mv (.tmp 14), 0⟩,
          ⟨(some 154), none, .ixA 1 (.tmp 152) (.tmp 153), 0⟩,
          ⟨(some 155), none, .ld1 none (.tmp 154), 0⟩])
        (.cond (.tmp 155)
          (.seq (.regN [12, 13, 14] [
            ⟨(some 156), none, .mv (.tmp 13), 0⟩,
            ⟨(some 157), none, .mv (.tmp 156), 0⟩,
            ⟨(some 158), (some (157, true)), .mv (.tmp 12), 0⟩,
            ⟨(some 159), (some (157, true)), .mv (.tmp 14), 0⟩,
            ⟨(some 160), (some (157, true)), .bini .eql (.tmp 158) (.tmp 159), 0⟩,
            ⟨(some 161), none, .pick (.tmp 157) (.tmp 160) (.con (.val (.bool false))), 0⟩,
            ⟨(some 2), none, .mv (.tmp 161), 0⟩])
          .ret)
          .skip)))
      (.regN [1, 4, 12, 13, 14] [
        ⟨(some 147), none, .mv (.tmp 14), 0⟩,
        ⟨(some 148), none, .bini .add (.tmp 147) (.con (.val (.int .i64 1))), 0⟩,
        ⟨(some 14), none, .mv (.tmp 148), 0⟩]))))))
  (.seq (.regN [12, 13] [
    ⟨(some 162), none, .mv (.tmp 13), 0⟩,
    ⟨(some 163), none, .not (.tmp 162), 0⟩,
    ⟨(some 164), none, .mv (.tmp 163), 0⟩,
    ⟨(some 165), (some (164, true)), .mv (.tmp 12), 0⟩,
    ⟨(some 166), (some (164, true)), .bini .eql (.tmp 165) (.con (.val (.int .i64 0))), 0⟩,
    ⟨(some 167), none, .pick (.tmp 164) (.tmp 166) (.con (.val (.bool false))), 0⟩,
    ⟨(some 2), none, .mv (.tmp 167), 0⟩])
  .ret))))))))))),
  [.tmp 2], true⟩
/-- viewport/viewportlaw11.lives  -/
def t9 : AFn := ⟨0, (.seq (.regN [] [
    ⟨(some 0), none, .mv (.con (.val (.bool false))), 0⟩])
  (.seq (.regN [] [
    ⟨(some 4), none, .call 23 [], 0⟩,
    ⟨(some 5), none, .call 13 [(.tmp 4)], 0⟩,
    ⟨(some 3), none, .mv (.tmp 5), 0⟩,
    ⟨(some 6), none, .ext (.tmp 3) 0, 0⟩,
    ⟨(some 7), none, .ext (.tmp 3) 1, 0⟩,
    ⟨(some 1), none, .mv (.tmp 6), 0⟩,
    ⟨(some 2), none, .mv (.tmp 7), 0⟩])
  (.seq (.regN [2] [
    ⟨(some 8), none, .call 23 [], 0⟩,
    ⟨(some 9), none, .call 12 [(.tmp 8)], 0⟩,
    ⟨(some 10), none, .buildS 2 [(.val (.bool false)), (.val (.bool false))] [(0, 1, (.con (.val (.bool false)))), (1, 1, (.con (.val (.bool true))))], 0⟩,
    ⟨(some 11), none, .call 15 [(.tmp 9), (.tmp 10)], 0⟩,
    ⟨(some 12), none, .mv (.tmp 11), 0⟩,
    ⟨(some 13), (some (12, true)), .mv (.tmp 2), 0⟩,
    ⟨(some 14), (some (12, true)), .not (.tmp 13), 0⟩,
    ⟨(some 15), none, .pick (.tmp 12) (.tmp 14) (.con (.val (.bool false))), 0⟩,
    ⟨(some 16), none, .mv (.tmp 15), 0⟩,
    ⟨(some 17), (some (16, true)), .call 23 [], 0⟩,
    ⟨(some 18), (some (16, true)), .call 11 [(.tmp 17)], 0⟩,
    ⟨(some 19), (some (16, true)), .bini .eql (.tmp 18) (.con (.val (.int .i64 0))), 0⟩,
    ⟨(some 20), none, .pick (.tmp 16) (.tmp 19) (.con (.val (.bool false))), 0⟩,
    ⟨(some 0), none, .mv (.tmp 20), 0⟩])
  .ret))),
  [.tmp 0], true⟩
/-- viewport/viewportlaw11.example  -/
def t23 : AFn := ⟨0, (.seq (.regN [] [
    ⟨(some 0), none, .allocR [(.val (.int .i64 0)), (.val (.int .i64 0)), (.val (.int .i64 0)), .e0], 0⟩])
  (.seq (.regN [0] [
    ⟨(some 1), none, .buildS 2 [(.val (.int .i64 0)), (.val (.int .i64 0))] [(0, 1, (.con (.val (.int .i64 3)))), (1, 1, (.con (.val (.int .i64 0))))], 0⟩,
    ⟨(some 2), none, .build [(.val (.int .i64 0)), .e0] [(0, 1, (.con (.val (.int .i64 0)))), (1, 1, (.tmp 1))], 0⟩,
    ⟨(some 3), none, .build [(.val (.int .i64 0)), .e0] [(0, 1, (.con (.val (.int .i64 1))))], 0⟩,
    ⟨(some 4), none, .buildS 2 [(.val (.int .i64 0)), (.val (.int .i64 0))] [(0, 1, (.con (.val (.int .i64 1)))), (1, 1, (.con (.val (.int .i64 3))))], 0⟩,
    ⟨(some 5), none, .build [(.val (.int .i64 0)), .e0] [(0, 1, (.con (.val (.int .i64 1)))), (1, 1, (.tmp 4))], 0⟩,
    ⟨(some 6), none, .buildS 3 [(.val (.int .i64 0)), .e0, (.val (.int .i64 0)), .e0, (.val (.int .i64 0)), .e0] [(0, 2, (.tmp 2)), (2, 2, (.tmp 3)), (4, 2, (.tmp 5))], 0⟩,
    ⟨(some 7), none, .build [(.val (.int .i64 0)), (.val (.int .i64 0)), (.val (.int .i64 0)), .e0] [(0, 1, (.con (.val (.int .i64 2)))), (1, 1, (.con (.val (.int .i64 2)))), (2, 1, (.con (.val (.int .i64 1)))), (3, 1, (.tmp 6))], 0⟩,
    ⟨none, none, .st (some 0) 4 (.tmp 0) (.tmp 7), 0⟩])
  .ret)),
  [.cell 0 4 true], true⟩
/-- viewport/gram.Left  -/
def t13 : AFn := ⟨1, (.seq (.regN [0] [
    ⟨(some 1), none, .boxH 4 (.tmp 0), 0⟩,
    ⟨(some 2), none, .mv (.con (.val (.int .i64 0))), 0⟩,
    ⟨(some 3), none, .mv (.con (.val (.bool false))), 0⟩])
  (.seq (.seq (.regN [1] [
    ⟨(some 8), none, .ldA none 4 (.tmp 1), 0⟩,
    ⟨(some 9), none, .call 11 [(.tmp 8)], 0⟩,
    ⟨(some 10), none, .bini .neq (.tmp 9) (.con (.val (.int .i64 0))), 0⟩])
  (.cond (.tmp 10)
    (.seq (.regN [] [
      ⟨(some 2), none, .mv (.con (.val (.int .i64 0))), 0⟩,
      ⟨(some 3), none, .mv (.con (.val (.bool false))), 0⟩])
    .ret)
    .skip))
  (.seq (.regN [1] [
    ⟨(some 11), none, .ldA none 4 (.tmp 1), 0⟩,
    ⟨(some 12), none, .call 12 [(.tmp 11)], 0⟩,
    ⟨(some 4), none, .allocH [.e0], 0⟩,
    ⟨none, none, .st none 1 (.tmp 4) (.tmp 12), 0⟩])
  (.seq (.regN [1, 4] [
    ⟨(some 13), none, .fldA 1 (.tmp 1), 0⟩,
    ⟨(some 14), none, .ld1 none (.tmp 13), 0⟩,
    ⟨(some 15), none, .mks 1 24 [.e0] (.tmp 14), 0⟩,
    ⟨(some 5), none, .allocH [.e0], 0⟩,
    ⟨none, none, .st none 1 (.tmp 5) (.tmp 15), 0⟩])
  (.seq (.seq (.regN [1, 4, 5] [
    ⟨(some 16), none, .ld1 none (.tmp 5), 0⟩,
    ⟨(some 17), none, .len false (.tmp 16), 0⟩,
    ⟨(some 18), none, .mv (.con (.val (.int .i64 0))), 0⟩])
  (.block 0
    (.loop [1, 4, 5, 17, 18]
      (.seq (.regN [1, 4, 5, 17, 18] [
        ⟨(some 19), none, .bini .lss (.tmp 18) (.tmp 17), 0⟩])
      (.seq (.cond (.tmp 19)
        .skip
        (.exit 0))
      (.seq (.block 1
        (.seq (.regN [1, 4, 5, 17, 18] [
          ⟨(some 20), none, .mv (.tmp 18), 0⟩,
          ⟨(some 6), none, .mv (.tmp 20), 0⟩])
        (.regD [1, 4, 5, 6, 17, 18] 1 [
          ⟨(some 21), none, .ld1 none (.tmp 5), 0⟩,
          ⟨(some 22), none, .mv (.tmp 6), 0⟩,
          ⟨(some 23), none, .fldA 1 (.tmp 1), 0⟩,
          ⟨(some 24), none, .ld1 none (.tmp 23), 0⟩,
          ⟨(some 25), none, .mks 1 1 [(.val (.bool false))] (.tmp 24), 0⟩,
          ⟨(some 26), none, .ixA 1 (.tmp 21) (.tmp 22), 0⟩,
          ⟨none, none, .st none 1 (.tmp 26) (.tmp 25), 0⟩])))
      (.regN [1, 4, 5, 17, 18] [
        ⟨(some 27), none, .bini .add (.tmp 18) (.con (.val (.int .i64 1))), 0⟩,
        ⟨(some 18), none, .mv (.tmp 27), 0⟩])))))))
  (.seq (.regN [1, 4, 5] [
    ⟨(some 28), none, .fldA 3 (.tmp 1), 0⟩,
    ⟨(some 29), none, .ld1 none (.tmp 28), 0⟩,
    ⟨(some 30), none, .mkf 39 [(.tmp 5), (.tmp 1), (.tmp 4)], 0⟩,
    ⟨(some 31), none, .call 38 [(.tmp 29), (.tmp 30)], 0⟩])
  (.seq (.seq (.regN [1, 5] [
    ⟨(some 32), none, .fldA 1 (.tmp 1), 0⟩,
    ⟨(some 33), none, .ld1 none (.tmp 32), 0⟩,
    ⟨(some 34), none, .mv (.con (.val (.int .i64 0))), 0⟩])
  (.block 2
    (.loop [5, 33, 34]
      (.seq (.regN [5, 33, 34] [
        ⟨(some 35), none, .bini .lss (.tmp 34) (.tmp 33), 0⟩])
      (.seq (.cond (.tmp 35)
        .skip
        (.exit 2))
      (.seq (.block 3
        (.seq (.regN [5, 33, 34] [
          ⟨(some 36), none, .mv (.tmp 34), 0⟩,
          ⟨(some 7), none, .mv (.tmp 36), 0⟩])
        (.seq (.regN [5, 7, 33, 34] [
          ⟨(some 37), none, .ld1 none (.tmp 5), 0⟩,
          ⟨(some 38), none, .mv (.tmp 7), 0⟩,
          ⟨(some 39), none, .ixA 1 (.tmp 37) (.tmp 38), 0⟩,
          ⟨(some 40), none, .ld1 none (.tmp 39), 0⟩,
          ⟨(some 41), none, .mv (.tmp 7), 0⟩,
          ⟨(some 42), none, .ixA 1 (.tmp 40) (.tmp 41), 0⟩,
          ⟨(some 43), none, .ld1 none (.tmp 42), 0⟩])
        (.cond (.tmp 43)
          (.seq (.regN [7] [
            ⟨(some 44), none, .mv (.tmp 7), 0⟩,
            ⟨(some 2), none, .mv (.tmp 44), 0⟩,
            ⟨(some 3), none, .mv (.con (.val (.bool true))), 0⟩])
          .ret)
          .skip))))
      (.regN [5, 33, 34] [
        ⟨(some 45), none, .bini .add (.tmp 34) (.con (.val (.int .i64 1))), 0⟩,
        ⟨(some 34), none, .mv (.tmp 45), 0⟩])))))))
  (.seq (.regN [] [
    ⟨(some 2), none, .mv (.con (.val (.int .i64 0))), 0⟩,
    ⟨(some 3), none, .mv (.con (.val (.bool false))), 0⟩])
  .ret)))))))),
  [.tmp 2, .tmp 3], true⟩
/-- viewport/gram.Check  -/
def t11 : AFn := ⟨1, (.seq (.regN [0] [
    ⟨(some 1), none, .boxH 4 (.tmp 0), 0⟩,
    ⟨(some 2), none, .mv (.con (.val (.int .i64 0))), 0⟩])
  (.seq (.seq (.regN [1] [
    ⟨(some 5), none, .fldA 0 (.tmp 1), 0⟩,
    ⟨(some 6), none, .ld1 none (.tmp 5), 0⟩,
    ⟨(some 7), none, .bini .gtr (.tmp 6) (.con (.val (.int .i64 8))), 0⟩,
    ⟨(some 8), none, .mv (.tmp 7), 0⟩,
    ⟨(some 9), (some (8, false)), .fldA 1 (.tmp 1), 0⟩,
    ⟨(some 10), (some (8, false)), .ld1 none (.tmp 9), 0⟩,
    ⟨(some 11), (some (8, false)), .bini .gtr (.tmp 10) (.con (.val (.int .i64 16))), 0⟩,
    ⟨(some 12), none, .pick (.tmp 8) (.con (.val (.bool true))) (.tmp 11), 0⟩,
    ⟨(some 13), none, .mv (.tmp 12), 0⟩,
    ⟨(some 14), (some (13, false)), .fldA 2 (.tmp 1), 0⟩,
    ⟨(some 15), (some (13, false)), .ld1 none (.tmp 14), 0⟩,
    ⟨(some 16), (some (13, false)), .bini .gtr (.tmp 15) (.con (.val (.int .i64 3))), 0⟩,
    ⟨(some 17), none, .pick (.tmp 13) (.con (.val (.bool true))) (.tmp 16), 0⟩,
    ⟨(some 18), none, .mv (.tmp 17), 0⟩,
    ⟨(some 19), (some (18, false)), .fldA 3 (.tmp 1), 0⟩,
    ⟨(some 20), (some (18, false)), .ld1 none (.tmp 19), 0⟩,
    ⟨(some 21), (some (18, false)), .len false (.tmp 20), 0⟩,
    ⟨(some 22), (some (18, false)), .bini .gtr (.tmp 21) (.con (.val (.int .i64 64))), 0⟩,
    ⟨(some 23), none, .pick (.tmp 18) (.con (.val (.bool true))) (.tmp 22), 0⟩])
  (.cond (.tmp 23)
    (.seq (.regN [] [
      ⟨(some 2), none, .mv (.con (.val (.int .i64 3))), 0⟩])
    .ret)
    .skip))
  (.seq (.seq (.regN [1] [
    ⟨(some 24), none, .fldA 3 (.tmp 1), 0⟩,
    ⟨(some 25), none, .ld1 none (.tmp 24), 0⟩,
    ⟨(some 26), none, .call 33 [(.tmp 25), (.con (.fn 34 []))], 0⟩])
  (.cond (.tmp 26)
    (.seq (.regN [] [
      ⟨(some 2), none, .mv (.con (.val (.int .i64 3))), 0⟩])
    .ret)
    .skip))
  (.seq (.seq (.regN [1] [
    ⟨(some 27), none, .fldA 0 (.tmp 1), 0⟩,
    ⟨(some 28), none, .ld1 none (.tmp 27), 0⟩,
    ⟨(some 29), none, .fldA 1 (.tmp 1), 0⟩,
    ⟨(some 30), none, .ld1 none (.tmp 29), 0⟩,
    ⟨(some 31), none, .fldA 2 (.tmp 1), 0⟩,
    ⟨(some 32), none, .ld1 none (.tmp 31), 0⟩,
    ⟨(some 33), none, .fldA 3 (.tmp 1), 0⟩,
    ⟨(some 34), none, .ld1 none (.tmp 33), 0⟩,
    ⟨(some 35), none, .len false (.tmp 34), 0⟩,
    ⟨(some 36), none, .mm false [(.tmp 28), (.tmp 30), (.tmp 32), (.tmp 35)], 0⟩,
    ⟨(some 37), none, .bini .lss (.tmp 36) (.con (.val (.int .i64 1))), 0⟩])
  (.cond (.tmp 37)
    (.seq (.regN [] [
      ⟨(some 2), none, .mv (.con (.val (.int .i64 2))), 0⟩])
    .ret)
    .skip))
  (.seq (.seq (.regN [1] [
    ⟨(some 38), none, .fldA 3 (.tmp 1), 0⟩,
    ⟨(some 39), none, .ld1 none (.tmp 38), 0⟩,
    ⟨(some 40), none, .len false (.tmp 39), 0⟩,
    ⟨(some 41), none, .mv (.con (.val (.int .i64 0))), 0⟩])
  (.block 0
    (.loop [1, 39, 40, 41]
      (.seq (.regN [1, 39, 40, 41] [
        ⟨(some 42), none, .bini .lss (.tmp 41) (.tmp 40), 0⟩])
      (.seq (.cond (.tmp 42)
        .skip
        (.exit 0))
      (.seq (.block 1
        (.seq (.regN [1, 39, 40, 41] [
          ⟨(some 43), none, .ixA 2 (.tmp 39) (.tmp 41), 0⟩,
          ⟨(some 44), none, .ldA none 2 (.tmp 43), 0⟩,
          ⟨(some 4), none, .allocR [(.val (.int .i64 0)), .e0], 0⟩,
          ⟨none, none, .st (some 4) 2 (.tmp 4) (.tmp 44), 0⟩])
        (.seq (.regN [1, 4, 39, 40, 41] [
          ⟨(some 45), none, .fldA 0 (.tmp 4), 0⟩,
          ⟨(some 46), none, .ld1 (some 4) (.tmp 45), 0⟩,
          ⟨(some 47), none, .bini .lss (.tmp 46) (.con (.val (.int .i64 0))), 0⟩,
          ⟨(some 48), none, .mv (.tmp 47), 0⟩,
          ⟨(some 49), (some (48, false)), .fldA 0 (.tmp 4), 0⟩,
          ⟨(some 50), (some (48, false)), .ld1 (some 4) (.tmp 49), 0⟩,
          ⟨(some 51), (some (48, false)), .fldA 1 (.tmp 1), 0⟩,
          ⟨(some 52), (some (48, false)), .ld1 none (.tmp 51), 0⟩,
          ⟨(some 53), (some (48, false)), .bini .geq (.tmp 50) (.tmp 52), 0⟩,
          ⟨(some 54), none, .pick (.tmp 48) (.con (.val (.bool true))) (.tmp 53), 0⟩,
          ⟨(some 55), none, .mv (.tmp 54), 0⟩,
          ⟨(some 56), (some (55, false)), .fldA 1 (.tmp 4), 0⟩,
          ⟨(some 57), (some (55, false)), .ld1 (some 4) (.tmp 56), 0⟩,
          ⟨(some 58), (some (55, false)), .mkf 36 [(.tmp 1)], 0⟩,
          ⟨(some 59), (some (55, false)), .call 35 [(.tmp 57), (.tmp 58)], 0⟩,
          ⟨(some 60), none, .pick (.tmp 55) (.con (.val (.bool true))) (.tmp 59), 0⟩])
        (.cond (.tmp 60)
          (.seq (.regN [] [
            ⟨(some 2), none, .mv (.con (.val (.int .i64 2))), 0⟩])
          .ret)
          .skip))))
      (.regN [1, 39, 40, 41] [
        ⟨(some 61), none, .bini .add (.tmp 41) (.con (.val (.int .i64 1))), 0⟩,
        ⟨(some 41), none, .mv (.tmp 61), 0⟩])))))))
  (.seq (.regN [] [
    ⟨(some 2), none, .mv (.con (.val (.int .i64 0))), 0⟩])
  .ret)))))),
  [.tmp 2], true⟩
/-- slices.ContainsFunc[[]viewport/api.Prod,viewport/api.Prod]  -/
def t33 : AFn := ⟨2, (.seq (.regN [0, 1] [
    ⟨(some 4), none, .mv (.con (.val (.bool false))), 0⟩])
  (.seq (.regN [0, 1] [
    ⟨(some 5), none, .mv (.tmp 0), 0⟩,
    ⟨(some 6), none, .mv (.tmp 1), 0⟩,
    ⟨(some 7), none, .call 50 [(.tmp 5), (.tmp 6)], 0⟩,
    ⟨(some 8), none, .bini .geq (.tmp 7) (.con (.val (.int .i64 0))), 0⟩,
    ⟨(some 4), none, .mv (.tmp 8), 0⟩])
  .ret)),
  [.tmp 4], true⟩
/-- slices.IndexFunc[[]viewport/api.Prod,viewport/api.Prod]  -/
def t50 : AFn := ⟨2, (.seq (.regN [0, 1] [
    ⟨(some 4), none, .mv (.con (.val (.int .i64 0))), 0⟩])
  (.seq (.seq (.regN [0, 1] [
    ⟨(some 6), none, .mv (.tmp 0), 0⟩,
    ⟨(some 7), none, .len false (.tmp 6), 0⟩,
    ⟨(some 8), none, .mv (.con (.val (.int .i64 0))), 0⟩])
  (.block 0
    (.loop [0, 1, 7, 8]
      (.seq (.regN [0, 1, 7, 8] [
        ⟨(some 9), none, .bini .lss (.tmp 8) (.tmp 7), 0⟩])
      (.seq (.cond (.tmp 9)
        .skip
        (.exit 0))
      (.seq (.block 1
        (.seq (.regN [0, 1, 7, 8] [
          ⟨(some 10), none, .mv (.tmp 8), 0⟩,
          ⟨(some 5), none, .mv (.tmp 10), 0⟩])
        (.seq (.regN [0, 1, 5, 7, 8] [
          ⟨(some 11), none, .mv (.tmp 1), 0⟩,
          ⟨(some 12), none, .mv (.tmp 0), 0⟩,
          ⟨(some 13), none, .mv (.tmp 5), 0⟩,
          ⟨(some 14), none, .ixA 2 (.tmp 12) (.tmp 13), 0⟩,
          ⟨(some 15), none, .ldA none 2 (.tmp 14), 0⟩,
          ⟨(some 16), none, .callv (.tmp 11) [(.tmp 15)], 0⟩])
        (.cond (.tmp 16)
          (.seq (.regN [5] [
            ⟨(some 17), none, .mv (.tmp 5), 0⟩,
            ⟨(some 4), none, .mv (.tmp 17), 0⟩])
          .ret)
          .skip))))
      (.regN [0, 1, 7, 8] [
        ⟨(some 18), none, .bini .add (.tmp 8) (.con (.val (.int .i64 1))), 0⟩,
        ⟨(some 8), none, .mv (.tmp 18), 0⟩])))))))
  (.seq (.regN [] [
    ⟨(some 4), none, .mv (.con (.val (.int .i64 (-1)))), 0⟩])
  .ret))),
  [.tmp 4], true⟩
/-- viewport/gram.Check$1  -/
def t34 : AFn := ⟨1, (.seq (.regN [0] [
    ⟨(some 1), none, .boxR 2 (.tmp 0), 0⟩,
    ⟨(some 2), none, .mv (.con (.val (.bool false))), 0⟩])
  (.seq (.regN [1] [
    ⟨(some 3), none, .fldA 1 (.tmp 1), 0⟩,
    ⟨(some 4), none, .ld1 (some 1) (.tmp 3), 0⟩,
    ⟨(some 5), none, .len false (.tmp 4), 0⟩,
    ⟨(some 6), none, .bini .gtr (.tmp 5) (.con (.val (.int .i64 8))), 0⟩,
    ⟨(some 2), none, .mv (.tmp 6), 0⟩])
  .ret)),
  [.tmp 2], true⟩
/-- viewport/gram.Check$2  -/
def t36 : AFn := ⟨2, (.seq (.regN [0, 1] [
    ⟨(some 3), none, .mv (.con (.val (.bool false))), 0⟩])
  (.seq (.regN [0, 1] [
    ⟨(some 4), none, .mv (.tmp 0), 0⟩,
    ⟨(some 5), none, .bini .lss (.tmp 4) (.con (.val (.int .i64 0))), 0⟩,
    ⟨(some 6), none, .mv (.tmp 5), 0⟩,
    ⟨(some 7), (some (6, false)), .mv (.tmp 0), 0⟩,
    ⟨(some 8), (some (6, false)), .fldA 0 (.tmp 1), 0⟩,
    ⟨(some 9), (some (6, false)), .ld1 none (.tmp 8), 0⟩,
    ⟨(some 10), (some (6, false)), .fldA 1 (.tmp 1), 0⟩,
    ⟨(some 11), (some (6, false)), .ld1 none (.tmp 10), 0⟩,
    ⟨(some 12), (some (6, false)), .bini .add (.tmp 9) (.tmp 11), 0⟩,
    ⟨(some 13), (some (6, false)), .bini .geq (.tmp 7) (.tmp 12), 0⟩,
    ⟨(some 14), none, .pick (.tmp 6) (.con (.val (.bool true))) (.tmp 13), 0⟩,
    ⟨(some 3), none, .mv (.tmp 14), 0⟩])
  .ret)),
  [.tmp 3], true⟩
/-- slices.ContainsFunc[[]int,int]  -/
def t35 : AFn := ⟨2, (.seq (.regN [0, 1] [
    ⟨(some 4), none, .mv (.con (.val (.bool false))), 0⟩])
  (.seq (.regN [0, 1] [
    ⟨(some 5), none, .mv (.tmp 0), 0⟩,
    ⟨(some 6), none, .mv (.tmp 1), 0⟩,
    ⟨(some 7), none, .call 51 [(.tmp 5), (.tmp 6)], 0⟩,
    ⟨(some 8), none, .bini .geq (.tmp 7) (.con (.val (.int .i64 0))), 0⟩,
    ⟨(some 4), none, .mv (.tmp 8), 0⟩])
  .ret)),
  [.tmp 4], true⟩
/-- slices.IndexFunc[[]int,int]  -/
def t51 : AFn := ⟨2, (.seq (.regN [0, 1] [
    ⟨(some 4), none, .mv (.con (.val (.int .i64 0))), 0⟩])
  (.seq (.seq (.regN [0, 1] [
    ⟨(some 6), none, .mv (.tmp 0), 0⟩,
    ⟨(some 7), none, .len false (.tmp 6), 0⟩,
    ⟨(some 8), none, .mv (.con (.val (.int .i64 0))), 0⟩])
  (.block 0
    (.loop [0, 1, 7, 8]
      (.seq (.regN [0, 1, 7, 8] [
        ⟨(some 9), none, .bini .lss (.tmp 8) (.tmp 7), 0⟩])
      (.seq (.cond (.tmp 9)
        .skip
        (.exit 0))
      (.seq (.block 1
        (.seq (.regN [0, 1, 7, 8] [
          ⟨(some 10), none, .mv (.tmp 8), 0⟩,
          ⟨(some 5), none, .mv (.tmp 10), 0⟩])
        (.seq (.regN [0, 1, 5, 7, 8] [
          ⟨(some 11), none, .mv (.tmp 1), 0⟩,
          ⟨(some 12), none, .mv (.tmp 0), 0⟩,
          ⟨(some 13), none, .mv (.tmp 5), 0⟩,
          ⟨(some 14), none, .ixA 1 (.tmp 12) (.tmp 13), 0⟩,
          ⟨(some 15), none, .ld1 none (.tmp 14), 0⟩,
          ⟨(some 16), none, .callv (.tmp 11) [(.tmp 15)], 0⟩])
        (.cond (.tmp 16)
          (.seq (.regN [5] [
            ⟨(some 17), none, .mv (.tmp 5), 0⟩,
            ⟨(some 4), none, .mv (.tmp 17), 0⟩])
          .ret)
          .skip))))
      (.regN [0, 1, 7, 8] [
        ⟨(some 18), none, .bini .add (.tmp 8) (.con (.val (.int .i64 1))), 0⟩,
        ⟨(some 8), none, .mv (.tmp 18), 0⟩])))))))
  (.seq (.regN [] [
    ⟨(some 4), none, .mv (.con (.val (.int .i64 (-1)))), 0⟩])
  .ret))),
  [.tmp 4], true⟩
/-- viewport/gram.Nullable  -/
def t12 : AFn := ⟨1, (.seq (.regN [0] [
    ⟨(some 1), none, .boxR 4 (.tmp 0), 0⟩,
    ⟨(some 2), none, .mv (.con .e0), 0⟩])
  (.seq (.regN [1] [
    ⟨(some 3), none, .ldA (some 1) 4 (.tmp 1), 0⟩,
    ⟨(some 4), none, .call 37 [(.tmp 3), (.con (.val (.bool false)))], 0⟩,
    ⟨(some 2), none, .mv (.tmp 4), 0⟩])
  .ret)),
  [.tmp 2], true⟩
/-- viewport/gram.derive  -/
def t37 : AFn := ⟨2, (.seq (.regN [0, 1] [
    ⟨(some 2), none, .boxH 4 (.tmp 0), 0⟩,
    ⟨(some 3), none, .boxH 1 (.tmp 1), 0⟩,
    ⟨(some 4), none, .mv (.con .e0), 0⟩])
  (.seq (.seq (.regN [2, 3] [
    ⟨(some 7), none, .ldA none 4 (.tmp 2), 0⟩,
    ⟨(some 8), none, .call 11 [(.tmp 7)], 0⟩,
    ⟨(some 9), none, .bini .neq (.tmp 8) (.con (.val (.int .i64 0))), 0⟩])
  (.cond (.tmp 9)
    (.seq (.regN [] [
      ⟨(some 4), none, .mv (.con .e0), 0⟩])
    .ret)
    .skip))
  (.seq (.regN [2, 3] [
    ⟨(some 10), none, .fldA 1 (.tmp 2), 0⟩,
    ⟨(some 11), none, .ld1 none (.tmp 10), 0⟩,
    ⟨(some 12), none, .mks 1 1 [(.val (.bool false))] (.tmp 11), 0⟩,
    ⟨(some 5), none, .allocH [.e0], 0⟩,
    ⟨none, none, .st none 1 (.tmp 5) (.tmp 12), 0⟩])
  (.seq (.regN [2, 3, 5] [
    ⟨(some 13), none, .mkf 52 [(.tmp 2), (.tmp 3), (.tmp 5)], 0⟩,
    ⟨(some 6), none, .allocH [(.val .nilFunc)], 0⟩,
    ⟨none, none, .st none 1 (.tmp 6) (.tmp 13), 0⟩])
  (.seq (.regN [2, 5, 6] [
    ⟨(some 14), none, .fldA 3 (.tmp 2), 0⟩,
    ⟨(some 15), none, .ld1 none (.tmp 14), 0⟩,
    ⟨(some 16), none, .mkf 53 [(.tmp 5), (.tmp 6)], 0⟩,
    ⟨(some 17), none, .call 38 [(.tmp 15), (.tmp 16)], 0⟩])
  (.seq (.regN [5] [
    ⟨(some 18), none, .ld1 none (.tmp 5), 0⟩,
    ⟨(some 4), none, .mv (.tmp 18), 0⟩])
  .ret)))))),
  [.tmp 4], true⟩
/-- viewport/gram.derive$1  -/
def t52 : AFn := ⟨4, (.seq (.regN [0, 1, 2, 3] [
    ⟨(some 5), none, .mv (.con (.val (.bool false))), 0⟩])
  (.seq (.regN [0, 1, 2, 3] [
    ⟨(some 6), none, .mv (.tmp 0), 0⟩,
    ⟨(some 7), none, .fldA 0 (.tmp 1), 0⟩,
    ⟨(some 8), none, .ld1 none (.tmp 7), 0⟩,
    ⟨(some 9), none, .bini .lss (.tmp 6) (.tmp 8), 0⟩,
    ⟨(some 10), none, .mv (.tmp 9), 0⟩,
    ⟨(some 11), (some (10, true)), .ld1 none (.tmp 2), 0⟩,
    ⟨(some 12), (some (10, true)), .not (.tmp 11), 0⟩,
    ⟨(some 13), none, .pick (.tmp 10) (.tmp 12) (.con (.val (.bool false))), 0⟩,
    ⟨(some 14), none, .mv (.tmp 13), 0⟩,
    ⟨(some 15), (some (14, false)), .mv (.tmp 0), 0⟩,
    ⟨(some 16), (some (14, false)), .fldA 0 (.tmp 1), 0⟩,
    ⟨(some 17), (some (14, false)), .ld1 none (.tmp 16), 0⟩,
    ⟨(some 18), (some (14, false)), .bini .geq (.tmp 15) (.tmp 17), 0⟩,
    ⟨(some 19), (some (14, false)), .mv (.tmp 18), 0⟩,
    ⟨(some 20), (some (19, true)), .ld1 none (.tmp 3), 0⟩,
    ⟨(some 21), (some (19, true)), .mv (.tmp 0), 0⟩,
    ⟨(some 22), (some (19, true)), .fldA 0 (.tmp 1), 0⟩,
    ⟨(some 23), (some (19, true)), .ld1 none (.tmp 22), 0⟩,
    ⟨(some 24), (some (19, true)), .bini .sub (.tmp 21) (.tmp 23), 0⟩,
    ⟨(some 25), (some (19, true)), .ixA 1 (.tmp 20) (.tmp 24), 0⟩,
    ⟨(some 26), (some (19, true)), .ld1 none (.tmp 25), 0⟩,
    ⟨(some 27), (some (19, true)), .not (.tmp 26), 0⟩,
    ⟨(some 28), (some (14, false)), .pick (.tmp 19) (.tmp 27) (.con (.val (.bool false))), 0⟩,
    ⟨(some 29), none, .pick (.tmp 14) (.con (.val (.bool true))) (.tmp 28), 0⟩,
    ⟨(some 5), none, .mv (.tmp 29), 0⟩])
  .ret)),
  [.tmp 5], true⟩
/-- viewport/gram.derive$2  -/
def t53 : AFn := ⟨3, (.seq (.regN [0, 1, 2] [
    ⟨(some 3), none, .boxR 2 (.tmp 0), 0⟩,
    ⟨(some 4), none, .mv (.con (.val (.bool false))), 0⟩])
  (.seq (.seq (.regN [1, 2, 3] [
    ⟨(some 5), none, .ld1 none (.tmp 1), 0⟩,
    ⟨(some 6), none, .fldA 0 (.tmp 3), 0⟩,
    ⟨(some 7), none, .ld1 (some 3) (.tmp 6), 0⟩,
    ⟨(some 8), none, .ixA 1 (.tmp 5) (.tmp 7), 0⟩,
    ⟨(some 9), none, .ld1 none (.tmp 8), 0⟩,
    ⟨(some 10), none, .mv (.tmp 9), 0⟩,
    ⟨(some 11), (some (10, false)), .fldA 1 (.tmp 3), 0⟩,
    ⟨(some 12), (some (10, false)), .ld1 (some 3) (.tmp 11), 0⟩,
    ⟨(some 13), (some (10, false)), .ld1 none (.tmp 2), 0⟩,
    ⟨(some 14), (some (10, false)), .call 35 [(.tmp 12), (.tmp 13)], 0⟩,
    ⟨(some 15), none, .pick (.tmp 10) (.con (.val (.bool true))) (.tmp 14), 0⟩])
  (.cond (.tmp 15)
    (.seq (.regN [] [
      ⟨(some 4), none, .mv (.con (.val (.bool false))), 0⟩])
    .ret)
    .skip))
  (.seq (.regN [1, 3] [
    ⟨(some 16), none, .ld1 none (.tmp 1), 0⟩,
    ⟨(some 17), none, .fldA 0 (.tmp 3), 0⟩,
    ⟨(some 18), none, .ld1 (some 3) (.tmp 17), 0⟩,
    ⟨(some 19), none, .ixA 1 (.tmp 16) (.tmp 18), 0⟩,
    ⟨none, none, .st none 1 (.tmp 19) (.con (.val (.bool true))), 0⟩])
  (.seq (.regN [] [
    ⟨(some 4), none, .mv (.con (.val (.bool true))), 0⟩])
  .ret)))),
  [.tmp 4], true⟩
/-- viewport/gram.grow[viewport/api.Prod]  -/
def t38 : AFn := ⟨2, (.seq (.regN [0, 1] [
    ⟨(some 4), none, .mv (.con (.val (.bool true))), 0⟩])
  (.block 0
    (.loop [0, 1, 4]
      (.seq (.seq (.regN [0, 1, 4] [
        ⟨(some 7), none, .mv (.tmp 4), 0⟩])
      (.cond (.tmp 7)
        .skip
        (.exit 0)))
      (.block 1
        (.seq (.regN [0, 1] [
          ⟨(some 4), none, .mv (.con (.val (.bool false))), 0⟩])
        (.seq (.regN [0, 1, 4] [
          ⟨(some 8), none, .mv (.tmp 0), 0⟩,
          ⟨(some 9), none, .len false (.tmp 8), 0⟩,
          ⟨(some 10), none, .mv (.con (.val (.int .i64 0))), 0⟩])
        (.block 2
          (.loop [0, 1, 4, 8, 9, 10]
            (.seq (.regN [0, 1, 4, 8, 9, 10] [
              ⟨(some 11), none, .bini .lss (.tmp 10) (.tmp 9), 0⟩])
            (.seq (.cond (.tmp 11)
              .skip
              (.exit 2))
            (.seq (.block 3
              (.seq (.regN [0, 1, 4, 8, 9, 10] [
                ⟨(some 12), none, .ixA 2 (.tmp 8) (.tmp 10), 0⟩,
                ⟨(some 13), none, .ldA none 2 (.tmp 12), 0⟩,
                ⟨(some 6), none, .allocR [(.val (.int .i64 0)), .e0], 0⟩,
                ⟨none, none, .st (some 6) 2 (.tmp 6) (.tmp 13), 0⟩])
              (.regN [0, 1, 4, 6, 8, 9, 10] [
                ⟨(some 14), none, .mv (.tmp 1), 0⟩,
                ⟨(some 15), none, .ldA (some 6) 2 (.tmp 6), 0⟩,
                ⟨(some 16), none, .callv (.tmp 14) [(.tmp 15)], 0⟩,
                ⟨(some 17), none, .mv (.tmp 16), 0⟩,
                ⟨(some 18), (some (17, false)), .mv (.tmp 4), 0⟩,
                ⟨(some 19), none, .pick (.tmp 17) (.con (.val (.bool true))) (.tmp 18), 0⟩,
                ⟨(some 4), none, .mv (.tmp 19), 0⟩])))
            (.regN [0, 1, 4, 8, 9, 10] [
              ⟨(some 20), none, .bini .add (.tmp 10) (.con (.val (.int .i64 1))), 0⟩,
              ⟨(some 10), none, .mv (.tmp 20), 0⟩]))))))))))))),
  [], true⟩
/-- viewport/gram.Left$1  -/
def t39 : AFn := ⟨4, (.seq (.regN [0, 1, 2, 3] [
    ⟨(some 4), none, .boxR 2 (.tmp 0), 0⟩,
    ⟨(some 5), none, .mv (.con (.val (.bool false))), 0⟩])
  (.seq (.regN [1, 2, 3, 4, 5] [
    ⟨(some 11), none, .ld1 none (.tmp 1), 0⟩,
    ⟨(some 12), none, .fldA 0 (.tmp 4), 0⟩,
    ⟨(some 13), none, .ld1 (some 4) (.tmp 12), 0⟩,
    ⟨(some 14), none, .ixA 1 (.tmp 11) (.tmp 13), 0⟩,
    ⟨(some 15), none, .ld1 none (.tmp 14), 0⟩,
    ⟨(some 6), none, .mv (.tmp 15), 0⟩])
  (.seq (.seq (.regN [1, 2, 3, 4, 5, 6] [
    ⟨(some 16), none, .ldA none 4 (.tmp 2), 0⟩,
    ⟨(some 17), none, .ld1 none (.tmp 3), 0⟩,
    ⟨(some 18), none, .fldA 1 (.tmp 4), 0⟩,
    ⟨(some 19), none, .ld1 (some 4) (.tmp 18), 0⟩,
    ⟨(some 20), none, .call 40 [(.tmp 16), (.tmp 17), (.tmp 19)], 0⟩,
    ⟨(some 21), none, .len false (.tmp 20), 0⟩,
    ⟨(some 22), none, .mv (.con (.val (.int .i64 0))), 0⟩])
  (.block 0
    (.loop [1, 5, 6, 20, 21, 22]
      (.seq (.regN [1, 5, 6, 20, 21, 22] [
        ⟨(some 23), none, .bini .lss (.tmp 22) (.tmp 21), 0⟩])
      (.seq (.cond (.tmp 23)
        .skip
        (.exit 0))
      (.seq (.block 1
        (.seq (.regN [1, 5, 6, 20, 21, 22] [
          ⟨(some 24), none, .ixA 1 (.tmp 20) (.tmp 22), 0⟩,
          ⟨(some 25), none, .ld1 none (.tmp 24), 0⟩,
          ⟨(some 8), none, .mv (.tmp 25), 0⟩])
        (.seq (.regN [1, 5, 6, 8, 20, 21, 22] [
          ⟨(some 26), none, .ld1 none (.tmp 1), 0⟩,
          ⟨(some 27), none, .mv (.tmp 8), 0⟩,
          ⟨(some 28), none, .ixA 1 (.tmp 26) (.tmp 27), 0⟩,
          ⟨(some 29), none, .ld1 none (.tmp 28), 0⟩,
          ⟨(some 30), none, .len false (.tmp 29), 0⟩,
          ⟨(some 31), none, .mv (.con (.val (.int .i64 0))), 0⟩])
        (.block 2
          (.loop [1, 5, 6, 8, 20, 21, 22, 29, 30, 31]
            (.seq (.regN [1, 5, 6, 8, 20, 21, 22, 29, 30, 31] [
              ⟨(some 32), none, .bini .lss (.tmp 31) (.tmp 30), 0⟩])
            (.seq (.cond (.tmp 32)
              .skip
              (.exit 2))
            (.seq (.block 3
              (.seq (.regN [1, 5, 6, 8, 20, 21, 22, 29, 30, 31] [
                ⟨(some 33), none, .mv (.tmp 31), 0⟩,
                ⟨(some 34), none, .ixA 1 (.tmp 29) (.tmp 31), 0⟩,
                ⟨(some 35), none, .ld1 none (.tmp 34), 0⟩,
                ⟨(some 9), none, .mv (.tmp 33), 0⟩,
                ⟨(some 10), none, .mv (.tmp 35), 0⟩])
              (.seq (.regN [1, 5, 6, 8, 9, 10, 20, 21, 22, 29, 30, 31] [
                ⟨(some 36), none, .mv (.tmp 10), 0⟩,
                ⟨(some 37), none, .mv (.tmp 36), 0⟩,
                ⟨(some 38), (some (37, false)), .mv (.tmp 9), 0⟩,
                ⟨(some 39), (some (37, false)), .mv (.tmp 8), 0⟩,
                ⟨(some 40), (some (37, false)), .bini .eql (.tmp 38) (.tmp 39), 0⟩,
                ⟨(some 41), none, .pick (.tmp 37) (.con (.val (.bool true))) (.tmp 40), 0⟩,
                ⟨(some 42), none, .mv (.tmp 41), 0⟩,
                ⟨(some 43), (some (42, true)), .mv (.tmp 6), 0⟩,
                ⟨(some 44), (some (42, true)), .mv (.tmp 9), 0⟩,
                ⟨(some 45), (some (42, true)), .ixA 1 (.tmp 43) (.tmp 44), 0⟩,
                ⟨(some 46), (some (42, true)), .ld1 none (.tmp 45), 0⟩,
                ⟨(some 47), (some (42, true)), .not (.tmp 46), 0⟩,
                ⟨(some 48), none, .pick (.tmp 42) (.tmp 47) (.con (.val (.bool false))), 0⟩])
              (.cond (.tmp 48)
                (.regN [1, 6, 8, 9, 20, 21, 22, 29, 30, 31] [
                  ⟨(some 49), none, .mv (.tmp 6), 0⟩,
                  ⟨(some 50), none, .mv (.tmp 9), 0⟩,
                  ⟨(some 51), none, .ixA 1 (.tmp 49) (.tmp 50), 0⟩,
                  ⟨none, none, .st none 1 (.tmp 51) (.con (.val (.bool true))), 0⟩,
                  ⟨(some 5), none, .mv (.con (.val (.bool true))), 0⟩])
                .skip))))
            (.regN [1, 5, 6, 8, 20, 21, 22, 29, 30, 31] [
              ⟨(some 52), none, .bini .add (.tmp 31) (.con (.val (.int .i64 1))), 0⟩,
              ⟨(some 31), none, .mv (.tmp 52), 0⟩])))))))))
      (.regN [1, 5, 6, 20, 21, 22] [
        ⟨(some 53), none, .bini .add (.tmp 22) (.con (.val (.int .i64 1))), 0⟩,
        ⟨(some 22), none, .mv (.tmp 53), 0⟩])))))))
  (.seq (.regN [5] [
    ⟨(some 54), none, .mv (.tmp 5), 0⟩,
    ⟨(some 5), none, .mv (.tmp 54), 0⟩])
  .ret)))),
  [.tmp 5], true⟩
/-- viewport/gram.begins  -/
def t40 : AFn := ⟨3, (.seq (.regN [0, 1, 2] [
    ⟨(some 3), none, .boxR 4 (.tmp 0), 0⟩,
    ⟨(some 6), none, .mv (.con .e0), 0⟩])
  (.seq (.seq (.regN [1, 2, 3, 6] [
    ⟨(some 9), none, .mv (.tmp 2), 0⟩,
    ⟨(some 10), none, .len false (.tmp 9), 0⟩,
    ⟨(some 11), none, .mv (.con (.val (.int .i64 0))), 0⟩])
  (.block 0
    (.loop [1, 3, 6, 9, 10, 11]
      (.seq (.regN [1, 3, 6, 9, 10, 11] [
        ⟨(some 12), none, .bini .lss (.tmp 11) (.tmp 10), 0⟩])
      (.seq (.cond (.tmp 12)
        .skip
        (.exit 0))
      (.seq (.block 1
        (.seq (.regN [1, 3, 6, 9, 10, 11] [
          ⟨(some 13), none, .ixA 1 (.tmp 9) (.tmp 11), 0⟩,
          ⟨(some 14), none, .ld1 none (.tmp 13), 0⟩,
          ⟨(some 8), none, .mv (.tmp 14), 0⟩])
        (.seq (.seq (.regN [1, 3, 6, 8, 9, 10, 11] [
          ⟨(some 15), none, .mv (.tmp 8), 0⟩,
          ⟨(some 16), none, .fldA 0 (.tmp 3), 0⟩,
          ⟨(some 17), none, .ld1 (some 3) (.tmp 16), 0⟩,
          ⟨(some 18), none, .bini .lss (.tmp 15) (.tmp 17), 0⟩])
        (.cond (.tmp 18)
          (.exit 0)
          .skip))
        (.seq (.regN [1, 3, 6, 8, 9, 10, 11] [
          ⟨(some 19), none, .mv (.tmp 6), 0⟩,
          ⟨(some 20), none, .mv (.tmp 8), 0⟩,
          ⟨(some 21), none, .fldA 0 (.tmp 3), 0⟩,
          ⟨(some 22), none, .ld1 (some 3) (.tmp 21), 0⟩,
          ⟨(some 23), none, .bini .sub (.tmp 20) (.tmp 22), 0⟩,
          ⟨(some 24), none, .buildS 1 [(.val (.int .i64 0))] [(0, 1, (.tmp 23))], 0⟩,
          ⟨(some 25), none, .app 1 8 (.tmp 19) (.tmp 24), 0⟩,
          ⟨(some 6), none, .mv (.tmp 25), 0⟩])
        (.seq (.regN [1, 3, 6, 8, 9, 10, 11] [
          ⟨(some 26), none, .mv (.tmp 1), 0⟩,
          ⟨(some 27), none, .mv (.tmp 8), 0⟩,
          ⟨(some 28), none, .fldA 0 (.tmp 3), 0⟩,
          ⟨(some 29), none, .ld1 (some 3) (.tmp 28), 0⟩,
          ⟨(some 30), none, .bini .sub (.tmp 27) (.tmp 29), 0⟩,
          ⟨(some 31), none, .ixA 1 (.tmp 26) (.tmp 30), 0⟩,
          ⟨(some 32), none, .ld1 none (.tmp 31), 0⟩,
          ⟨(some 33), none, .not (.tmp 32), 0⟩])
        (.cond (.tmp 33)
          (.exit 0)
          .skip))))))
      (.regN [1, 3, 6, 9, 10, 11] [
        ⟨(some 34), none, .bini .add (.tmp 11) (.con (.val (.int .i64 1))), 0⟩,
        ⟨(some 11), none, .mv (.tmp 34), 0⟩])))))))
  (.seq (.regN [6] [
    ⟨(some 35), none, .mv (.tmp 6), 0⟩,
    ⟨(some 6), none, .mv (.tmp 35), 0⟩])
  .ret))),
  [.tmp 6], true⟩
/-- viewport/viewportkit.Same[bool]  -/
def t15 : AFn := ⟨2, (.seq (.regN [0, 1] [
    ⟨(some 4), none, .mv (.con (.val (.bool false))), 0⟩])
  (.seq (.seq (.regN [0, 1] [
    ⟨(some 6), none, .mv (.tmp 0), 0⟩,
    ⟨(some 7), none, .len false (.tmp 6), 0⟩,
    ⟨(some 8), none, .mv (.tmp 1), 0⟩,
    ⟨(some 9), none, .len false (.tmp 8), 0⟩,
    ⟨(some 10), none, .bini .neq (.tmp 7) (.tmp 9), 0⟩])
  (.cond (.tmp 10)
    (.seq (.regN [] [
      ⟨(some 4), none, .mv (.con (.val (.bool false))), 0⟩])
    .ret)
    .skip))
  (.seq (.seq (.regN [0, 1] [
    ⟨(some 5), none, .mv (.con (.val (.int .i64 0))), 0⟩])
  (.block 0
    (.loop [0, 1, 5]
      (.seq (.seq (.regN [0, 1, 5] [
        ⟨(some 11), none, .mv (.tmp 5), 0⟩,
        ⟨(some 12), none, .mv (.tmp 0), 0⟩,
        ⟨(some 13), none, .len false (.tmp 12), 0⟩,
        ⟨(some 14), none, .bini .lss (.tmp 11) (.tmp 13), 0⟩])
      (.cond (.tmp 14)
        .skip
        (.exit 0)))
      (.seq (.block 1
        (.seq (.regD [0, 1, 5] 0 [
          ⟨(some 17), none, .mv (.tmp 0), 0⟩,
          ⟨(some 18), none, .mv (.tmp 5), 0⟩,
          ⟨(some 19), none, .ixA 1 (.tmp 17) (.tmp 18), 0⟩,
          ⟨(some 20), none, .ld1 none (.tmp 19), 0⟩,
          ⟨(some 21), none, .mv (.tmp 1), 0⟩,
          ⟨(some 22), none, .mv (.tmp 5), 0⟩,
          ⟨(some 23), none, .ixA 1 (.tmp 21) (.tmp 22), 0⟩,
          ⟨(some 24), none, .ld1 none (.tmp 23), 0⟩,
          ⟨(some 25), none, .eqb true (.tmp 20) (.tmp 24), 0⟩])
        (.cond (.tmp 25)
          (.seq (.regN [] [
            ⟨(some 4), none, .mv (.con (.val (.bool false))), 0⟩])
          .ret)
          .skip)))
      (.regN [0, 1, 5] [
        ⟨(some 15), none, .mv (.tmp 5), 0⟩,
        ⟨(some 16), none, .bini .add (.tmp 15) (.con (.val (.int .i64 1))), 0⟩,
        ⟨(some 5), none, .mv (.tmp 16), 0⟩]))))))
  (.seq (.regN [] [
    ⟨(some 4), none, .mv (.con (.val (.bool true))), 0⟩])
  .ret)))),
  [.tmp 4], true⟩
/-- viewport/viewportkit.LightGrammar  -/
def t10 : AFn := ⟨1, (.seq (.regN [0] [
    ⟨(some 1), none, .boxR 4 (.tmp 0), 0⟩,
    ⟨(some 2), none, .mv (.con (.val (.bool false))), 0⟩])
  (.seq (.seq (.regN [1] [
    ⟨(some 4), none, .fldA 3 (.tmp 1), 0⟩,
    ⟨(some 5), none, .ld1 (some 1) (.tmp 4), 0⟩,
    ⟨(some 6), none, .len false (.tmp 5), 0⟩,
    ⟨(some 7), none, .bini .gtr (.tmp 6) (.con (.val (.int .i64 100))), 0⟩])
  (.cond (.tmp 7)
    (.seq (.regN [] [
      ⟨(some 2), none, .mv (.con (.val (.bool false))), 0⟩])
    .ret)
    .skip))
  (.seq (.seq (.regN [1] [
    ⟨(some 3), none, .mv (.con (.val (.int .i64 0))), 0⟩])
  (.block 0
    (.loop [1, 3]
      (.seq (.seq (.regN [1, 3] [
        ⟨(some 8), none, .mv (.tmp 3), 0⟩,
        ⟨(some 9), none, .fldA 3 (.tmp 1), 0⟩,
        ⟨(some 10), none, .ld1 (some 1) (.tmp 9), 0⟩,
        ⟨(some 11), none, .len false (.tmp 10), 0⟩,
        ⟨(some 12), none, .bini .lss (.tmp 8) (.tmp 11), 0⟩])
      (.cond (.tmp 12)
        .skip
        (.exit 0)))
      (.seq (.block 1
        (.seq (.regN [1, 3] [
          ⟨(some 15), none, .fldA 3 (.tmp 1), 0⟩,
          ⟨(some 16), none, .ld1 (some 1) (.tmp 15), 0⟩,
          ⟨(some 17), none, .mv (.tmp 3), 0⟩,
          ⟨(some 18), none, .ixA 2 (.tmp 16) (.tmp 17), 0⟩,
          ⟨(some 19), none, .fldA 1 (.tmp 18), 0⟩,
          ⟨(some 20), none, .ld1 none (.tmp 19), 0⟩,
          ⟨(some 21), none, .len false (.tmp 20), 0⟩,
          ⟨(some 22), none, .bini .gtr (.tmp 21) (.con (.val (.int .i64 5))), 0⟩,
          ⟨(some 23), none, .mv (.tmp 22), 0⟩,
          ⟨(some 24), (some (23, true)), .fldA 3 (.tmp 1), 0⟩,
          ⟨(some 25), (some (23, true)), .ld1 (some 1) (.tmp 24), 0⟩,
          ⟨(some 26), (some (23, true)), .mv (.tmp 3), 0⟩,
          ⟨(some 27), (some (23, true)), .ixA 2 (.tmp 25) (.tmp 26), 0⟩,
          ⟨(some 28), (some (23, true)), .fldA 1 (.tmp 27), 0⟩,
          ⟨(some 29), (some (23, true)), .ld1 none (.tmp 28), 0⟩,
          ⟨(some 30), (some (23, true)), .len false (.tmp 29), 0⟩,
          ⟨(some 31), (some (23, true)), .bini .leq (.tmp 30) (.con (.val (.int .i64 8))), 0⟩,
          ⟨(some 32), none, .pick (.tmp 23) (.tmp 31) (.con (.val (.bool false))), 0⟩,
          ⟨(some 33), none, .mv (.tmp 32), 0⟩,
          ⟨(some 34), (some (33, false)), .fldA 3 (.tmp 1), 0⟩,
          ⟨(some 35), (some (33, false)), .ld1 (some 1) (.tmp 34), 0⟩,
          ⟨(some 36), (some (33, false)), .mv (.tmp 3), 0⟩,
          ⟨(some 37), (some (33, false)), .ixA 2 (.tmp 35) (.tmp 36), 0⟩,
          ⟨(some 38), (some (33, false)), .fldA 1 (.tmp 37), 0⟩,
          ⟨(some 39), (some (33, false)), .ld1 none (.tmp 38), 0⟩,
          ⟨(some 40), (some (33, false)), .len false (.tmp 39), 0⟩,
          ⟨(some 41), (some (33, false)), .bini .gtr (.tmp 40) (.con (.val (.int .i64 100))), 0⟩,
          ⟨(some 42), none, .pick (.tmp 33) (.con (.val (.bool true))) (.tmp 41), 0⟩])
        (.cond (.tmp 42)
          (.seq (.regN [] [
            ⟨(some 2), none, .mv (.con (.val (.bool false))), 0⟩])
          .ret)
          .skip)))
      (.regN [1, 3] [
        ⟨(some 13), none, .mv (.tmp 3), 0⟩,
        ⟨(some 14), none, .bini .add (.tmp 13) (.con (.val (.int .i64 1))), 0⟩,
        ⟨(some 3), none, .mv (.tmp 14), 0⟩]))))))
  (.seq (.seq (.regN [1] [
    ⟨(some 43), none, .fldA 0 (.tmp 1), 0⟩,
    ⟨(some 44), none, .ld1 (some 1) (.tmp 43), 0⟩,
    ⟨(some 45), none, .bini .gtr (.tmp 44) (.con (.val (.int .i64 8))), 0⟩,
    ⟨(some 46), none, .mv (.tmp 45), 0⟩,
    ⟨(some 47), (some (46, false)), .fldA 1 (.tmp 1), 0⟩,
    ⟨(some 48), (some (46, false)), .ld1 (some 1) (.tmp 47), 0⟩,
    ⟨(some 49), (some (46, false)), .bini .gtr (.tmp 48) (.con (.val (.int .i64 16))), 0⟩,
    ⟨(some 50), none, .pick (.tmp 46) (.con (.val (.bool true))) (.tmp 49), 0⟩,
    ⟨(some 51), none, .mv (.tmp 50), 0⟩,
    ⟨(some 52), (some (51, false)), .fldA 2 (.tmp 1), 0⟩,
    ⟨(some 53), (some (51, false)), .ld1 (some 1) (.tmp 52), 0⟩,
    ⟨(some 54), (some (51, false)), .bini .gtr (.tmp 53) (.con (.val (.int .i64 3))), 0⟩,
    ⟨(some 55), none, .pick (.tmp 51) (.con (.val (.bool true))) (.tmp 54), 0⟩,
    ⟨(some 56), none, .mv (.tmp 55), 0⟩,
    ⟨(some 57), (some (56, false)), .fldA 3 (.tmp 1), 0⟩,
    ⟨(some 58), (some (56, false)), .ld1 (some 1) (.tmp 57), 0⟩,
    ⟨(some 59), (some (56, false)), .len false (.tmp 58), 0⟩,
    ⟨(some 60), (some (56, false)), .bini .gtr (.tmp 59) (.con (.val (.int .i64 64))), 0⟩,
    ⟨(some 61), none, .pick (.tmp 56) (.con (.val (.bool true))) (.tmp 60), 0⟩])
  (.cond (.tmp 61)
    (.seq (.regN [] [
      ⟨(some 2), none, .mv (.con (.val (.bool true))), 0⟩])
    .ret)
    .skip))
  (.seq (.regN [1] [
    ⟨(some 62), none, .fldA 0 (.tmp 1), 0⟩,
    ⟨(some 63), none, .ld1 (some 1) (.tmp 62), 0⟩,
    ⟨(some 64), none, .bini .leq (.tmp 63) (.con (.val (.int .i64 4))), 0⟩,
    ⟨(some 65), none, .mv (.tmp 64), 0⟩,
    ⟨(some 66), (some (65, true)), .fldA 1 (.tmp 1), 0⟩,
    ⟨(some 67), (some (65, true)), .ld1 (some 1) (.tmp 66), 0⟩,
    ⟨(some 68), (some (65, true)), .bini .leq (.tmp 67) (.con (.val (.int .i64 6))), 0⟩,
    ⟨(some 69), none, .pick (.tmp 65) (.tmp 68) (.con (.val (.bool false))), 0⟩,
    ⟨(some 70), none, .mv (.tmp 69), 0⟩,
    ⟨(some 71), (some (70, true)), .fldA 3 (.tmp 1), 0⟩,
    ⟨(some 72), (some (70, true)), .ld1 (some 1) (.tmp 71), 0⟩,
    ⟨(some 73), (some (70, true)), .len false (.tmp 72), 0⟩,
    ⟨(some 74), (some (70, true)), .bini .leq (.tmp 73) (.con (.val (.int .i64 14))), 0⟩,
    ⟨(some 75), none, .pick (.tmp 70) (.tmp 74) (.con (.val (.bool false))), 0⟩,
    ⟨(some 76), none, .mv (.tmp 75), 0⟩,
    ⟨(some 77), (some (76, true)), .fldA 2 (.tmp 1), 0⟩,
    ⟨(some 78), (some (76, true)), .ld1 (some 1) (.tmp 77), 0⟩,
    ⟨(some 79), (some (76, true)), .bini .leq (.tmp 78) (.con (.val (.int .i64 2))), 0⟩,
    ⟨(some 80), (some (76, true)), .mv (.tmp 79), 0⟩,
    ⟨(some 81), (some (80, false)), .fldA 0 (.tmp 1), 0⟩,
    ⟨(some 82), (some (80, false)), .ld1 (some 1) (.tmp 81), 0⟩,
    ⟨(some 83), (some (80, false)), .bini .leq (.tmp 82) (.con (.val (.int .i64 3))), 0⟩,
    ⟨(some 84), (some (76, true)), .pick (.tmp 80) (.con (.val (.bool true))) (.tmp 83), 0⟩,
    ⟨(some 85), none, .pick (.tmp 76) (.tmp 84) (.con (.val (.bool false))), 0⟩,
    ⟨(some 2), none, .mv (.tmp 85), 0⟩])
  .ret))))),
  [.tmp 2], true⟩
/-- viewport/viewportlaw11.GramGrounded  -/
def t4 : AFn := ⟨1, (.seq (.regN [0] [
    ⟨(some 1), none, .boxR 4 (.tmp 0), 0⟩,
    ⟨(some 2), none, .mv (.con (.val (.bool false))), 0⟩])
  (.seq (.seq (.regN [1] [
    ⟨(some 10), none, .call 9 [], 0⟩,
    ⟨(some 11), none, .not (.tmp 10), 0⟩])
  (.cond (.tmp 11)
    (.seq (.regN [] [
      ⟨(some 2), none, .mv (.con (.val (.bool false))), 0⟩])
    .ret)
    .skip))
  (.seq (.seq (.regN [1] [
    ⟨(some 12), none, .ldA (some 1) 4 (.tmp 1), 0⟩,
    ⟨(some 13), none, .call 10 [(.tmp 12)], 0⟩,
    ⟨(some 14), none, .not (.tmp 13), 0⟩,
    ⟨(some 15), none, .mv (.tmp 14), 0⟩,
    ⟨(some 16), (some (15, false)), .ldA (some 1) 4 (.tmp 1), 0⟩,
    ⟨(some 17), (some (15, false)), .call 11 [(.tmp 16)], 0⟩,
    ⟨(some 18), (some (15, false)), .bini .neq (.tmp 17) (.con (.val (.int .i64 0))), 0⟩,
    ⟨(some 19), none, .pick (.tmp 15) (.con (.val (.bool true))) (.tmp 18), 0⟩])
  (.cond (.tmp 19)
    (.seq (.regN [] [
      ⟨(some 2), none, .mv (.con (.val (.bool true))), 0⟩])
    .ret)
    .skip))
  (.seq (.regD [1] 3 [
    ⟨(some 20), none, .fldA 1 (.tmp 1), 0⟩,
    ⟨(some 21), none, .ld1 (some 1) (.tmp 20), 0⟩,
    ⟨(some 22), none, .mks 1 1 [(.val (.bool false))] (.tmp 21), 0⟩,
    ⟨(some 23), none, .fldA 1 (.tmp 1), 0⟩,
    ⟨(some 24), none, .ld1 (some 1) (.tmp 23), 0⟩,
    ⟨(some 25), none, .mks 1 1 [(.val (.bool false))] (.tmp 24), 1⟩,
    ⟨(some 26), none, .fldA 1 (.tmp 1), 0⟩,
    ⟨(some 27), none, .ld1 (some 1) (.tmp 26), 0⟩,
    ⟨(some 28), none, .mks 1 1 [(.val (.bool false))] (.tmp 27), 2⟩,
    ⟨(some 3), none, .mv (.tmp 22), 0⟩,
    ⟨(some 4), none, .mv (.tmp 25), 0⟩,
    ⟨(some 5), none, .mv (.tmp 28), 0⟩])
  (.seq (.regN [1, 3, 4, 5] [
    ⟨(some 29), none, .mv (.tmp 5), 0⟩,
    ⟨(some 30), none, .ixA 1 (.tmp 29) (.con (.val (.int .i64 0))), 0⟩,
    ⟨none, none, .st none 1 (.tmp 30) (.con (.val (.bool true))), 0⟩])
  (.seq (.seq (.regN [1, 3, 4, 5] [
    ⟨(some 6), none, .mv (.con (.val (.int .i64 0))), 0⟩])
  (.block 0
    (.loop [1, 3, 4, 5, 6]
      (.seq (.seq (.regN [1, 3, 4, 5, 6] [
        ⟨(some 31), none, .mv (.tmp 6), 0⟩,
        ⟨(some 32), none, .fldA 1 (.tmp 1), 0⟩,
        ⟨(some 33), none, .ld1 (some 1) (.tmp 32), 0⟩,
        ⟨(some 34), none, .bini .leq (.tmp 31) (.tmp 33), 0⟩])
      (.cond (.tmp 34)
        .skip
        (.exit 0)))
      (.seq (.block 1
        (.seq (.regN [1, 3, 4, 5, 6] [
          ⟨(some 7), none, .mv (.con (.val (.int .i64 0))), 0⟩])
        (.block 2
          (.loop [1, 3, 4, 5, 6, 7]
            (.seq (.seq (.regN [1, 3, 4, 5, 6, 7] [
              ⟨(some 37), none, .mv (.tmp 7), 0⟩,
              ⟨(some 38), none, .fldA 3 (.tmp 1), 0⟩,
              ⟨(some 39), none, .ld1 (some 1) (.tmp 38), 0⟩,
              ⟨(some 40), none, .len false (.tmp 39), 0⟩,
              ⟨(some 41), none, .bini .lss (.tmp 37) (.tmp 40), 0⟩])
            (.cond (.tmp 41)
              .skip
              (.exit 2)))
            (.seq (.block 3
              (.seq (.regN [1, 3, 4, 5, 6, 7] [
                ⟨(some 44), none, .fldA 3 (.tmp 1), 0⟩,
                ⟨(some 45), none, .ld1 (some 1) (.tmp 44), 0⟩,
                ⟨(some 46), none, .mv (.tmp 7), 0⟩,
                ⟨(some 47), none, .ixA 2 (.tmp 45) (.tmp 46), 0⟩,
                ⟨(some 48), none, .ldA none 2 (.tmp 47), 0⟩,
                ⟨(some 8), none, .allocR [(.val (.int .i64 0)), .e0], 0⟩,
                ⟨none, none, .st (some 8) 2 (.tmp 8) (.tmp 48), 0⟩])
              (.seq (.regD [1, 3, 4, 5, 6, 7, 8] 0 [
                ⟨(some 49), none, .mv (.tmp 3), 0⟩,
                ⟨(some 50), none, .fldA 0 (.tmp 8), 0⟩,
                ⟨(some 51), none, .ld1 (some 8) (.tmp 50), 0⟩,
                ⟨(some 52), none, .mv (.tmp 3), 0⟩,
                ⟨(some 53), none, .fldA 0 (.tmp 8), 0⟩,
                ⟨(some 54), none, .ld1 (some 8) (.tmp 53), 0⟩,
                ⟨(some 55), none, .ixA 1 (.tmp 52) (.tmp 54), 0⟩,
                ⟨(some 56), none, .ld1 none (.tmp 55), 0⟩,
                ⟨(some 57), none, .mv (.tmp 56), 0⟩,
                ⟨(some 58), (some (57, false)), .ldA (some 1) 4 (.tmp 1), 0⟩,
                ⟨(some 59), (some (57, false)), .fldA 1 (.tmp 8), 0⟩,
                ⟨(some 60), (some (57, false)), .ld1 (some 8) (.tmp 59), 0⟩,
                ⟨(some 61), (some (57, false)), .mv (.tmp 3), 0⟩,
                ⟨(some 62), (some (57, false)), .call 14 [(.tmp 58), (.tmp 60), (.con (.val (.bool false))), (.tmp 61)], 0⟩,
                ⟨(some 63), none, .pick (.tmp 57) (.con (.val (.bool true))) (.tmp 62), 0⟩,
                ⟨(some 64), none, .ixA 1 (.tmp 49) (.tmp 51), 0⟩,
                ⟨none, none, .st none 1 (.tmp 64) (.tmp 63), 0⟩])
              (.seq (.regD [1, 3, 4, 5, 6, 7, 8] 0 [
                ⟨(some 65), none, .mv (.tmp 4), 0⟩,
                ⟨(some 66), none, .fldA 0 (.tmp 8), 0⟩,
                ⟨(some 67), none, .ld1 (some 8) (.tmp 66), 0⟩,
                ⟨(some 68), none, .mv (.tmp 4), 0⟩,
                ⟨(some 69), none, .fldA 0 (.tmp 8), 0⟩,
                ⟨(some 70), none, .ld1 (some 8) (.tmp 69), 0⟩,
                ⟨(some 71), none, .ixA 1 (.tmp 68) (.tmp 70), 0⟩,
                ⟨(some 72), none, .ld1 none (.tmp 71), 0⟩,
                ⟨(some 73), none, .mv (.tmp 72), 0⟩,
                ⟨(some 74), (some (73, false)), .ldA (some 1) 4 (.tmp 1), 0⟩,
                ⟨(some 75), (some (73, false)), .fldA 1 (.tmp 8), 0⟩,
                ⟨(some 76), (some (73, false)), .ld1 (some 8) (.tmp 75), 0⟩,
                ⟨(some 77), (some (73, false)), .mv (.tmp 4), 0⟩,
                ⟨(some 78), (some (73, false)), .call 14 [(.tmp 74), (.tmp 76), (.con (.val (.bool true))), (.tmp 77)], 0⟩,
                ⟨(some 79), none, .pick (.tmp 73) (.con (.val (.bool true))) (.tmp 78), 0⟩,
                ⟨(some 80), none, .ixA 1 (.tmp 65) (.tmp 67), 0⟩,
                ⟨none, none, .st none 1 (.tmp 80) (.tmp 79), 0⟩])
              (.seq (.regN [1, 3, 4, 5, 6, 7, 8] [
                ⟨(some 9), none, .mv (.con (.val (.int .i64 0))), 0⟩])
              (.block 4
                (.loop [1, 3, 4, 5, 6, 7, 8, 9]
                  (.seq (.seq (.regN [1, 3, 4, 5, 6, 7, 8, 9] [
                    ⟨(some 81), none, .mv (.tmp 9), 0⟩,
                    ⟨(some 82), none, .fldA 1 (.tmp 8), 0⟩,
                    ⟨(some 83), none, .ld1 (some 8) (.tmp 82), 0⟩,
                    ⟨(some 84), none, .len false (.tmp 83), 0⟩,
                    ⟨(some 85), none, .bini .lss (.tmp 81) (.tmp 84), 0⟩,
                    ⟨(some 86), none, .mv (.tmp 85), 0⟩,
                    ⟨(some 87), (some (86, true)), .mv (.tmp 5), 0⟩,
                    ⟨(some 88), (some (86, true)), .fldA 0 (.tmp 8), 0⟩,
                    ⟨(some 89), (some (86, true)), .ld1 (some 8) (.tmp 88), 0⟩,
                    ⟨(some 90), (some (86, true)), .ixA 1 (.tmp 87) (.tmp 89), 0⟩,
                    ⟨(some 91), (some (86, true)), .ld1 none (.tmp 90), 0⟩,
                    ⟨(some 92), none, .pick (.tmp 86) (.tmp 91) (.con (.val (.bool false))), 0⟩])
                  (.cond (.tmp 92)
                    .skip
                    (.exit 4)))
                  (.seq (.block 5
                    (.seq (.regD [1, 3, 4, 5, 6, 7, 8, 9] 0 [
                      ⟨(some 95), none, .fldA 1 (.tmp 8), 0⟩,
                      ⟨(some 96), none, .ld1 (some 8) (.tmp 95), 0⟩,
                      ⟨(some 97), none, .mv (.tmp 9), 0⟩,
                      ⟨(some 98), none, .ixA 1 (.tmp 96) (.tmp 97), 0⟩,
                      ⟨(some 99), none, .ld1 none (.tmp 98), 0⟩,
                      ⟨(some 100), none, .fldA 0 (.tmp 1), 0⟩,
                      ⟨(some 101), none, .ld1 (some 1) (.tmp 100), 0⟩,
                      ⟨(some 102), none, .bini .geq (.tmp 99) (.tmp 101), 0⟩])
                    (.cond (.tmp 102)
                      (.regD [1, 3, 4, 5, 6, 7, 8, 9] 0 [
                        ⟨(some 103), none, .mv (.tmp 5), 0⟩,
                        ⟨(some 104), none, .fldA 1 (.tmp 8), 0⟩,
                        ⟨(some 105), none, .ld1 (some 8) (.tmp 104), 0⟩,
                        ⟨(some 106), none, .mv (.tmp 9), 0⟩,
                        ⟨(some 107), none, .ixA 1 (.tmp 105) (.tmp 106), 0⟩,
                        ⟨(some 108), none, .ld1 none (.tmp 107), 0⟩,
                        ⟨(some 109), none, .fldA 0 (.tmp 1), 0⟩,
                        ⟨(some 110), none, .ld1 (some 1) (.tmp 109), 0⟩,
                        ⟨(some 111), none, .bini .sub (.tmp 108) (.tmp 110), 0⟩,
                        ⟨(some 112), none, .ixA 1 (.tmp 103) (.tmp 111), 0⟩,
                        ⟨none, none, .st none 1 (.tmp 112) (.con (.val (.bool true))), 0⟩])
                      .skip)))
                  (.regN [1, 3, 4, 5, 6, 7, 8, 9] [
                    ⟨(some 93), none, .mv (.tmp 9), 0⟩,
                    ⟨(some 94), none, .bini .add (.tmp 93) (.con (.val (.int .i64 1))), 0⟩,
                    ⟨(some 9), none, .mv (.tmp 94), 0⟩]))))))))))
            (.regN [1, 3, 4, 5, 6, 7] [
              ⟨(some 42), none, .mv (.tmp 7), 0⟩,
              ⟨(some 43), none, .bini .add (.tmp 42) (.con (.val (.int .i64 1))), 0⟩,
              ⟨(some 7), none, .mv (.tmp 43), 0⟩])))))))
      (.regN [1, 3, 4, 5, 6] [
        ⟨(some 35), none, .mv (.tmp 6), 0⟩,
        ⟨(some 36), none, .bini .add (.tmp 35) (.con (.val (.int .i64 1))), 0⟩,
        ⟨(some 6), none, .mv (.tmp 36), 0⟩]))))))
  (.seq (.regN [1, 3, 4, 5] [
    ⟨(some 113), none, .ldA (some 1) 4 (.tmp 1), 0⟩,
    ⟨(some 114), none, .call 12 [(.tmp 113)], 0⟩,
    ⟨(some 115), none, .mv (.tmp 3), 0⟩,
    ⟨(some 116), none, .call 15 [(.tmp 114), (.tmp 115)], 0⟩,
    ⟨(some 117), none, .mv (.tmp 116), 0⟩,
    ⟨(some 118), (some (117, true)), .ldA (some 1) 4 (.tmp 1), 0⟩,
    ⟨(some 119), (some (117, true)), .call 16 [(.tmp 118)], 0⟩,
    ⟨(some 120), (some (117, true)), .mv (.tmp 4), 0⟩,
    ⟨(some 121), (some (117, true)), .call 15 [(.tmp 119), (.tmp 120)], 0⟩,
    ⟨(some 122), none, .pick (.tmp 117) (.tmp 121) (.con (.val (.bool false))), 0⟩,
    ⟨(some 123), none, .mv (.tmp 122), 0⟩,
    ⟨(some 124), (some (123, true)), .ldA (some 1) 4 (.tmp 1), 0⟩,
    ⟨(some 125), (some (123, true)), .call 17 [(.tmp 124)], 0⟩,
    ⟨(some 126), (some (123, true)), .mv (.tmp 5), 0⟩,
    ⟨(some 127), (some (123, true)), .call 15 [(.tmp 125), (.tmp 126)], 0⟩,
    ⟨(some 128), none, .pick (.tmp 123) (.tmp 127) (.con (.val (.bool false))), 0⟩,
    ⟨(some 2), none, .mv (.tmp 128), 0⟩])
  .ret))))))),
  [.tmp 2], true⟩
/-- viewport/viewportlaw11.holds  -/
def t14 : AFn := ⟨4, (.seq (.regN [0, 1, 2, 3] [
    ⟨(some 4), none, .boxR 4 (.tmp 0), 0⟩,
    ⟨(some 8), none, .mv (.con (.val (.bool false))), 0⟩])
  (.seq (.seq (.regN [1, 2, 3, 4] [
    ⟨(some 9), none, .mv (.con (.val (.int .i64 0))), 0⟩])
  (.block 0
    (.loop [1, 2, 3, 4, 9]
      (.seq (.seq (.regN [1, 2, 3, 4, 9] [
        ⟨(some 10), none, .mv (.tmp 9), 0⟩,
        ⟨(some 11), none, .mv (.tmp 1), 0⟩,
        ⟨(some 12), none, .len false (.tmp 11), 0⟩,
        ⟨(some 13), none, .bini .lss (.tmp 10) (.tmp 12), 0⟩])
      (.cond (.tmp 13)
        .skip
        (.exit 0)))
      (.seq (.block 1
        (.seq (.regD [1, 2, 3, 4, 9] 0 [
          ⟨(some 16), none, .mv (.tmp 1), 0⟩,
          ⟨(some 17), none, .mv (.tmp 9), 0⟩,
          ⟨(some 18), none, .ixA 1 (.tmp 16) (.tmp 17), 0⟩,
          ⟨(some 19), none, .ld1 none (.tmp 18), 0⟩,
          ⟨(some 20), none, .fldA 0 (.tmp 4), 0⟩,
          ⟨(some 21), none, .ld1 (some 4) (.tmp 20), 0⟩,
          ⟨(some 22), none, .bini .lss (.tmp 19) (.tmp 21), 0⟩,
          ⟨(some 23), none, .mv (.tmp 22), 0⟩,
          ⟨(some 24), (some (23, true)), .mv (.tmp 2), 0⟩,
          ⟨(some 25), (some (23, true)), .not (.tmp 24), 0⟩,
          ⟨(some 26), none, .pick (.tmp 23) (.tmp 25) (.con (.val (.bool false))), 0⟩,
          ⟨(some 27), none, .mv (.tmp 26), 0⟩,
          ⟨(some 28), (some (27, false)), .mv (.tmp 1), 0⟩,
          ⟨(some 29), (some (27, false)), .mv (.tmp 9), 0⟩,
          ⟨(some 30), (some (27, false)), .ixA 1 (.tmp 28) (.tmp 29), 0⟩,
          ⟨(some 31), (some (27, false)), .ld1 none (.tmp 30), 0⟩,
          ⟨(some 32), (some (27, false)), .fldA 0 (.tmp 4), 0⟩,
          ⟨(some 33), (some (27, false)), .ld1 (some 4) (.tmp 32), 0⟩,
          ⟨(some 34), (some (27, false)), .bini .geq (.tmp 31) (.tmp 33), 0⟩,
          ⟨(some 35), (some (27, false)), .mv (.tmp 34), 0⟩,
          ⟨(some 36), (some (35, true)), .mv (.tmp 3), 0⟩,
          ⟨(some 37), (some (35, true)), .mv (.tmp 1), 0⟩,
          ⟨(some 38), (some (35, true)), .mv (.tmp 9), 0⟩,
          ⟨(some 39), (some (35, true)), .ixA 1 (.tmp 37) (.tmp 38), 0⟩,
          ⟨(some 40), (some (35, true)), .ld1 none (.tmp 39), 0⟩,
          ⟨(some 41), (some (35, true)), .fldA 0 (.tmp 4), 0⟩,
          ⟨(some 42), (some (35, true)), .ld1 (some 4) (.tmp 41), 0⟩,
          ⟨(some 43), (some (35, true)), .bini .sub (.tmp 40) (.tmp 42), 0⟩,
          ⟨(some 44), (some (35, true)), .ixA 1 (.tmp 36) (.tmp 43), 0⟩,
          ⟨(some 45), (some (35, true)), .ld1 none (.tmp 44), 0⟩,
          ⟨(some 46), (some (35, true)), .not (.tmp 45), 0⟩,
          ⟨(some 47), (some (27, false)), .pick (.tmp 35) (.tmp 46) (.con (.val (.bool false))), 0⟩,
          ⟨(some 48), none, .pick (.tmp 27) (.con (.val (.bool true))) (.tmp 47), 0⟩])
        (.cond (.tmp 48)
          (.seq (.regN [] [
            ⟨(some 8), none, .mv (.con (.val (.bool false))), 0⟩])
          .ret)
          .skip)))
      (.regN [1, 2, 3, 4, 9] [
        ⟨(some 14), none, .mv (.tmp 9), 0⟩,
        ⟨(some 15), none, .bini .add (.tmp 14) (.con (.val (.int .i64 1))), 0⟩,
        ⟨(some 9), none, .mv (.tmp 15), 0⟩]))))))
  (.seq (.regN [] [
    ⟨(some 8), none, .mv (.con (.val (.bool true))), 0⟩])
  .ret))),
  [.tmp 8], true⟩
/-- viewport/gram.Productive  -/
def t16 : AFn := ⟨1, (.seq (.regN [0] [
    ⟨(some 1), none, .boxR 4 (.tmp 0), 0⟩,
    ⟨(some 2), none, .mv (.con .e0), 0⟩])
  (.seq (.regN [1] [
    ⟨(some 3), none, .ldA (some 1) 4 (.tmp 1), 0⟩,
    ⟨(some 4), none, .call 37 [(.tmp 3), (.con (.val (.bool true)))], 0⟩,
    ⟨(some 2), none, .mv (.tmp 4), 0⟩])
  .ret)),
  [.tmp 2], true⟩
/-- viewport/gram.Reachable  -/
def t17 : AFn := ⟨1, (.seq (.regN [0] [
    ⟨(some 1), none, .boxH 4 (.tmp 0), 0⟩,
    ⟨(some 2), none, .mv (.con .e0), 0⟩])
  (.seq (.seq (.regN [1] [
    ⟨(some 4), none, .ldA none 4 (.tmp 1), 0⟩,
    ⟨(some 5), none, .call 11 [(.tmp 4)], 0⟩,
    ⟨(some 6), none, .bini .neq (.tmp 5) (.con (.val (.int .i64 0))), 0⟩])
  (.cond (.tmp 6)
    (.seq (.regN [] [
      ⟨(some 2), none, .mv (.con .e0), 0⟩])
    .ret)
    .skip))
  (.seq (.regN [1] [
    ⟨(some 7), none, .fldA 1 (.tmp 1), 0⟩,
    ⟨(some 8), none, .ld1 none (.tmp 7), 0⟩,
    ⟨(some 9), none, .mks 1 1 [(.val (.bool false))] (.tmp 8), 0⟩,
    ⟨(some 3), none, .allocH [.e0], 0⟩,
    ⟨none, none, .st none 1 (.tmp 3) (.tmp 9), 0⟩])
  (.seq (.regN [1, 3] [
    ⟨(some 10), none, .ld1 none (.tmp 3), 0⟩,
    ⟨(some 11), none, .ixA 1 (.tmp 10) (.con (.val (.int .i64 0))), 0⟩,
    ⟨none, none, .st none 1 (.tmp 11) (.con (.val (.bool true))), 0⟩])
  (.seq (.regN [1, 3] [
    ⟨(some 12), none, .fldA 3 (.tmp 1), 0⟩,
    ⟨(some 13), none, .ld1 none (.tmp 12), 0⟩,
    ⟨(some 14), none, .mkf 41 [(.tmp 3), (.tmp 1)], 0⟩,
    ⟨(some 15), none, .call 38 [(.tmp 13), (.tmp 14)], 0⟩])
  (.seq (.regN [3] [
    ⟨(some 16), none, .ld1 none (.tmp 3), 0⟩,
    ⟨(some 2), none, .mv (.tmp 16), 0⟩])
  .ret)))))),
  [.tmp 2], true⟩
/-- viewport/gram.Reachable$1  -/
def t41 : AFn := ⟨3, (.seq (.regN [0, 1, 2] [
    ⟨(some 3), none, .boxR 2 (.tmp 0), 0⟩,
    ⟨(some 4), none, .mv (.con (.val (.bool false))), 0⟩])
  (.seq (.seq (.regN [1, 2, 3, 4] [
    ⟨(some 7), none, .ld1 none (.tmp 1), 0⟩,
    ⟨(some 8), none, .fldA 0 (.tmp 3), 0⟩,
    ⟨(some 9), none, .ld1 (some 3) (.tmp 8), 0⟩,
    ⟨(some 10), none, .ixA 1 (.tmp 7) (.tmp 9), 0⟩,
    ⟨(some 11), none, .ld1 none (.tmp 10), 0⟩,
    ⟨(some 12), none, .not (.tmp 11), 0⟩])
  (.cond (.tmp 12)
    (.seq (.regN [] [
      ⟨(some 4), none, .mv (.con (.val (.bool false))), 0⟩])
    .ret)
    .skip))
  (.seq .skip
  (.seq (.seq (.regN [1, 2, 3, 4] [
    ⟨(some 13), none, .fldA 1 (.tmp 3), 0⟩,
    ⟨(some 14), none, .ld1 (some 3) (.tmp 13), 0⟩,
    ⟨(some 15), none, .len false (.tmp 14), 0⟩,
    ⟨(some 16), none, .mv (.con (.val (.int .i64 0))), 0⟩])
  (.block 0
    (.loop [1, 2, 4, 14, 15, 16]
      (.seq (.regN [1, 2, 4, 14, 15, 16] [
        ⟨(some 17), none, .bini .lss (.tmp 16) (.tmp 15), 0⟩])
      (.seq (.cond (.tmp 17)
        .skip
        (.exit 0))
      (.seq (.block 1
        (.seq (.regN [1, 2, 4, 14, 15, 16] [
          ⟨(some 18), none, .ixA 1 (.tmp 14) (.tmp 16), 0⟩,
          ⟨(some 19), none, .ld1 none (.tmp 18), 0⟩,
          ⟨(some 6), none, .mv (.tmp 19), 0⟩])
        (.seq (.seq (.regN [1, 2, 4, 6, 14, 15, 16] [
          ⟨(some 20), none, .mv (.tmp 6), 0⟩,
          ⟨(some 21), none, .fldA 0 (.tmp 2), 0⟩,
          ⟨(some 22), none, .ld1 none (.tmp 21), 0⟩,
          ⟨(some 23), none, .bini .lss (.tmp 20) (.tmp 22), 0⟩,
          ⟨(some 24), none, .mv (.tmp 23), 0⟩,
          ⟨(some 25), (some (24, false)), .ld1 none (.tmp 1), 0⟩,
          ⟨(some 26), (some (24, false)), .mv (.tmp 6), 0⟩,
          ⟨(some 27), (some (24, false)), .fldA 0 (.tmp 2), 0⟩,
          ⟨(some 28), (some (24, false)), .ld1 none (.tmp 27), 0⟩,
          ⟨(some 29), (some (24, false)), .bini .sub (.tmp 26) (.tmp 28), 0⟩,
          ⟨(some 30), (some (24, false)), .ixA 1 (.tmp 25) (.tmp 29), 0⟩,
          ⟨(some 31), (some (24, false)), .ld1 none (.tmp 30), 0⟩,
          ⟨(some 32), none, .pick (.tmp 24) (.con (.val (.bool true))) (.tmp 31), 0⟩])
        (.cond (.tmp 32)
          (.exit 1)
          .skip))
        (.regN [1, 2, 6, 14, 15, 16] [
          ⟨(some 33), none, .ld1 none (.tmp 1), 0⟩,
          ⟨(some 34), none, .mv (.tmp 6), 0⟩,
          ⟨(some 35), none, .fldA 0 (.tmp 2), 0⟩,
          ⟨(some 36), none, .ld1 none (.tmp 35), 0⟩,
          ⟨(some 37), none, .bini .sub (.tmp 34) (.tmp 36), 0⟩,
          ⟨(some 38), none, .ixA 1 (.tmp 33) (.tmp 37), 0⟩,
          ⟨none, none, .st none 1 (.tmp 38) (.con (.val (.bool true))), 0⟩,
          ⟨(some 4), none, .mv (.con (.val (.bool true))), 0⟩]))))
      (.regN [1, 2, 4, 14, 15, 16] [
        ⟨(some 39), none, .bini .add (.tmp 16) (.con (.val (.int .i64 1))), 0⟩,
        ⟨(some 16), none, .mv (.tmp 39), 0⟩])))))))
  (.seq (.regN [4] [
    ⟨(some 40), none, .mv (.tmp 4), 0⟩,
    ⟨(some 4), none, .mv (.tmp 40), 0⟩])
  .ret))))),
  [.tmp 4], true⟩
/-- viewport/viewportlaw11.GramClosed  -/
def t5 : AFn := ⟨1, (.seq (.regN [0] [
    ⟨(some 1), none, .boxR 4 (.tmp 0), 0⟩,
    ⟨(some 2), none, .mv (.con (.val (.bool false))), 0⟩])
  (.seq (.seq (.regN [1] [
    ⟨(some 17), none, .call 9 [], 0⟩,
    ⟨(some 18), none, .not (.tmp 17), 0⟩])
  (.cond (.tmp 18)
    (.seq (.regN [] [
      ⟨(some 2), none, .mv (.con (.val (.bool false))), 0⟩])
    .ret)
    .skip))
  (.seq (.seq (.regN [1] [
    ⟨(some 19), none, .ldA (some 1) 4 (.tmp 1), 0⟩,
    ⟨(some 20), none, .call 10 [(.tmp 19)], 0⟩,
    ⟨(some 21), none, .not (.tmp 20), 0⟩,
    ⟨(some 22), none, .mv (.tmp 21), 0⟩,
    ⟨(some 23), (some (22, false)), .ldA (some 1) 4 (.tmp 1), 0⟩,
    ⟨(some 24), (some (22, false)), .call 11 [(.tmp 23)], 0⟩,
    ⟨(some 25), (some (22, false)), .bini .neq (.tmp 24) (.con (.val (.int .i64 0))), 0⟩,
    ⟨(some 26), none, .pick (.tmp 22) (.con (.val (.bool true))) (.tmp 25), 0⟩])
  (.cond (.tmp 26)
    (.seq (.regN [] [
      ⟨(some 2), none, .mv (.con (.val (.bool true))), 0⟩])
    .ret)
    .skip))
  (.seq (.regD [1] 0 [
    ⟨(some 27), none, .ldA (some 1) 4 (.tmp 1), 0⟩,
    ⟨(some 28), none, .call 12 [(.tmp 27)], 0⟩,
    ⟨(some 29), none, .ldA (some 1) 4 (.tmp 1), 0⟩,
    ⟨(some 30), none, .call 16 [(.tmp 29)], 0⟩,
    ⟨(some 31), none, .ldA (some 1) 4 (.tmp 1), 0⟩,
    ⟨(some 32), none, .call 17 [(.tmp 31)], 0⟩,
    ⟨(some 3), none, .mv (.tmp 28), 0⟩,
    ⟨(some 4), none, .mv (.tmp 30), 0⟩,
    ⟨(some 5), none, .mv (.tmp 32), 0⟩])
  (.seq (.seq (.regN [1, 3, 4, 5] [
    ⟨(some 33), none, .mv (.tmp 3), 0⟩,
    ⟨(some 34), none, .len false (.tmp 33), 0⟩,
    ⟨(some 35), none, .fldA 1 (.tmp 1), 0⟩,
    ⟨(some 36), none, .ld1 (some 1) (.tmp 35), 0⟩,
    ⟨(some 37), none, .bini .neq (.tmp 34) (.tmp 36), 0⟩,
    ⟨(some 38), none, .mv (.tmp 37), 0⟩,
    ⟨(some 39), (some (38, false)), .mv (.tmp 4), 0⟩,
    ⟨(some 40), (some (38, false)), .len false (.tmp 39), 0⟩,
    ⟨(some 41), (some (38, false)), .fldA 1 (.tmp 1), 0⟩,
    ⟨(some 42), (some (38, false)), .ld1 (some 1) (.tmp 41), 0⟩,
    ⟨(some 43), (some (38, false)), .bini .neq (.tmp 40) (.tmp 42), 0⟩,
    ⟨(some 44), none, .pick (.tmp 38) (.con (.val (.bool true))) (.tmp 43), 0⟩,
    ⟨(some 45), none, .mv (.tmp 44), 0⟩,
    ⟨(some 46), (some (45, false)), .mv (.tmp 5), 0⟩,
    ⟨(some 47), (some (45, false)), .len false (.tmp 46), 0⟩,
    ⟨(some 48), (some (45, false)), .fldA 1 (.tmp 1), 0⟩,
    ⟨(some 49), (some (45, false)), .ld1 (some 1) (.tmp 48), 0⟩,
    ⟨(some 50), (some (45, false)), .bini .neq (.tmp 47) (.tmp 49), 0⟩,
    ⟨(some 51), none, .pick (.tmp 45) (.con (.val (.bool true))) (.tmp 50), 0⟩,
    ⟨(some 52), none, .mv (.tmp 51), 0⟩,
    ⟨(some 53), (some (52, false)), .mv (.tmp 5), 0⟩,
    ⟨(some 54), (some (52, false)), .ixA 1 (.tmp 53) (.con (.val (.int .i64 0))), 0⟩,
    ⟨(some 55), (some (52, false)), .ld1 none (.tmp 54), 0⟩,
    ⟨(some 56), (some (52, false)), .not (.tmp 55), 0⟩,
    ⟨(some 57), none, .pick (.tmp 52) (.con (.val (.bool true))) (.tmp 56), 0⟩])
  (.cond (.tmp 57)
    (.seq (.regN [] [
      ⟨(some 2), none, .mv (.con (.val (.bool false))), 0⟩])
    .ret)
    .skip))
  (.seq (.seq (.regN [1, 3, 4, 5] [
    ⟨(some 6), none, .mv (.con (.val (.int .i64 0))), 0⟩])
  (.block 0
    (.loop [1, 3, 4, 5, 6]
      (.seq (.seq (.regN [1, 3, 4, 5, 6] [
        ⟨(some 58), none, .mv (.tmp 6), 0⟩,
        ⟨(some 59), none, .fldA 1 (.tmp 1), 0⟩,
        ⟨(some 60), none, .ld1 (some 1) (.tmp 59), 0⟩,
        ⟨(some 61), none, .bini .lss (.tmp 58) (.tmp 60), 0⟩])
      (.cond (.tmp 61)
        .skip
        (.exit 0)))
      (.seq (.block 1
        (.seq (.regN [1, 3, 4, 5, 6] [
          ⟨(some 7), none, .mv (.con (.val (.bool false))), 0⟩,
          ⟨(some 8), none, .mv (.con (.val (.bool false))), 0⟩])
        (.seq (.regN [1, 3, 4, 5, 6, 7, 8] [
          ⟨(some 64), none, .ldA (some 1) 4 (.tmp 1), 0⟩,
          ⟨(some 65), none, .mv (.tmp 6), 0⟩,
          ⟨(some 66), none, .call 18 [(.tmp 64), (.tmp 65)], 0⟩,
          ⟨(some 9), none, .mv (.tmp 66), 0⟩])
        (.seq (.seq (.regN [1, 3, 4, 5, 6, 7, 8, 9] [
          ⟨(some 10), none, .mv (.con (.val (.int .i64 0))), 0⟩])
        (.block 2
          (.loop [1, 3, 4, 5, 6, 7, 8, 9, 10]
            (.seq (.seq (.regN [1, 3, 4, 5, 6, 7, 8, 9, 10] [
              ⟨(some 67), none, .mv (.tmp 10), 0⟩,
              ⟨(some 68), none, .mv (.tmp 9), 0⟩,
              ⟨(some 69), none, .len false (.tmp 68), 0⟩,
              ⟨(some 70), none, .bini .lss (.tmp 67) (.tmp 69), 0⟩])
            (.cond (.tmp 70)
              .skip
              (.exit 2)))
            (.seq (.block 3
              (.seq (.regD [1, 3, 4, 5, 6, 7, 8, 9, 10] 0 [
                ⟨(some 73), none, .fldA 3 (.tmp 1), 0⟩,
                ⟨(some 74), none, .ld1 (some 1) (.tmp 73), 0⟩,
                ⟨(some 75), none, .mv (.tmp 9), 0⟩,
                ⟨(some 76), none, .mv (.tmp 10), 0⟩,
                ⟨(some 77), none, .ixA 1 (.tmp 75) (.tmp 76), 0⟩,
                ⟨(some 78), none, .ld1 none (.tmp 77), 0⟩,
                ⟨(some 79), none, .ixA 2 (.tmp 74) (.tmp 78), 0⟩,
                ⟨(some 80), none, .fldA 1 (.tmp 79), 0⟩,
                ⟨(some 81), none, .ld1 none (.tmp 80), 0⟩,
                ⟨(some 11), none, .mv (.tmp 81), 0⟩])
              (.seq (.regN [1, 3, 4, 5, 6, 7, 8, 9, 10, 11] [
                ⟨(some 82), none, .mv (.tmp 7), 0⟩,
                ⟨(some 83), none, .mv (.tmp 82), 0⟩,
                ⟨(some 84), (some (83, false)), .ldA (some 1) 4 (.tmp 1), 0⟩,
                ⟨(some 85), (some (83, false)), .mv (.tmp 11), 0⟩,
                ⟨(some 86), (some (83, false)), .mv (.tmp 3), 0⟩,
                ⟨(some 87), (some (83, false)), .call 14 [(.tmp 84), (.tmp 85), (.con (.val (.bool false))), (.tmp 86)], 0⟩,
                ⟨(some 88), none, .pick (.tmp 83) (.con (.val (.bool true))) (.tmp 87), 0⟩,
                ⟨(some 89), none, .mv (.tmp 8), 0⟩,
                ⟨(some 90), none, .mv (.tmp 89), 0⟩,
                ⟨(some 91), (some (90, false)), .ldA (some 1) 4 (.tmp 1), 0⟩,
                ⟨(some 92), (some (90, false)), .mv (.tmp 11), 0⟩,
                ⟨(some 93), (some (90, false)), .mv (.tmp 4), 0⟩,
                ⟨(some 94), (some (90, false)), .call 14 [(.tmp 91), (.tmp 92), (.con (.val (.bool true))), (.tmp 93)], 0⟩,
                ⟨(some 95), none, .pick (.tmp 90) (.con (.val (.bool true))) (.tmp 94), 0⟩,
                ⟨(some 7), none, .mv (.tmp 88), 0⟩,
                ⟨(some 8), none, .mv (.tmp 95), 0⟩])
              (.seq (.regN [1, 3, 4, 5, 6, 7, 8, 9, 10, 11] [
                ⟨(some 12), none, .mv (.con (.val (.int .i64 0))), 0⟩])
              (.block 4
                (.loop [1, 3, 4, 5, 6, 7, 8, 9, 10, 11, 12]
                  (.seq (.seq (.regN [1, 3, 4, 5, 6, 7, 8, 9, 10, 11, 12] [
                    ⟨(some 96), none, .mv (.tmp 12), 0⟩,
                    ⟨(some 97), none, .mv (.tmp 11), 0⟩,
                    ⟨(some 98), none, .len false (.tmp 97), 0⟩,
                    ⟨(some 99), none, .bini .lss (.tmp 96) (.tmp 98), 0⟩])
                  (.cond (.tmp 99)
                    .skip
                    (.exit 4)))
                  (.seq (.block 5
                    (.seq (.regD [1, 3, 4, 5, 6, 7, 8, 9, 10, 11, 12] 0 [
                      ⟨(some 102), none, .mv (.tmp 5), 0⟩,
                      ⟨(some 103), none, .mv (.tmp 6), 0⟩,
                      ⟨(some 104), none, .ixA 1 (.tmp 102) (.tmp 103), 0⟩,
                      ⟨(some 105), none, .ld1 none (.tmp 104), 0⟩,
                      ⟨(some 106), none, .mv (.tmp 105), 0⟩,
                      ⟨(some 107), (some (106, true)), .mv (.tmp 11), 0⟩,
                      ⟨(some 108), (some (106, true)), .mv (.tmp 12), 0⟩,
                      ⟨(some 109), (some (106, true)), .ixA 1 (.tmp 107) (.tmp 108), 0⟩,
                      ⟨(some 110), (some (106, true)), .ld1 none (.tmp 109), 0⟩,
                      ⟨(some 111), (some (106, true)), .fldA 0 (.tmp 1), 0⟩,
                      ⟨(some 112), (some (106, true)), .ld1 (some 1) (.tmp 111), 0⟩,
                      ⟨(some 113), (some (106, true)), .bini .geq (.tmp 110) (.tmp 112), 0⟩,
                      ⟨(some 114), none, .pick (.tmp 106) (.tmp 113) (.con (.val (.bool false))), 0⟩,
                      ⟨(some 115), none, .mv (.tmp 114), 0⟩,
                      ⟨(some 116), (some (115, true)), .mv (.tmp 5), 0⟩,
                      ⟨(some 117), (some (115, true)), .mv (.tmp 11), 0⟩,
                      ⟨(some 118), (some (115, true)), .mv (.tmp 12), 0⟩,
                      ⟨(some 119), (some (115, true)), .ixA 1 (.tmp 117) (.tmp 118), 0⟩,
                      ⟨(some 120), (some (115, true)), .ld1 none (.tmp 119), 0⟩,
                      ⟨(some 121), (some (115, true)), .fldA 0 (.tmp 1), 0⟩,
                      ⟨(some 122), (some (115, true)), .ld1 (some 1) (.tmp 121), 0⟩,
                      ⟨(some 123), (some (115, true)), .bini .sub (.tmp 120) (.tmp 122), 0⟩,
                      ⟨(some 124), (some (115, true)), .ixA 1 (.tmp 116) (.tmp 123), 0⟩,
                      ⟨(some 125), (some (115, true)), .ld1 none (.tmp 124), 0⟩,
                      ⟨(some 126), (some (115, true)), .not (.tmp 125), 0⟩,
                      ⟨(some 127), none, .pick (.tmp 115) (.tmp 126) (.con (.val (.bool false))), 0⟩])
                    (.cond (.tmp 127)
                      (.seq (.regN [] [
                        ⟨(some 2), none, .mv (.con (.val (.bool false))), 0⟩])
                      .ret)
                      .skip)))
                  (.regN [1, 3, 4, 5, 6, 7, 8, 9, 10, 11, 12] [
                    ⟨(some 100), none, .mv (.tmp 12), 0⟩,
                    ⟨(some 101), none, .bini .add (.tmp 100) (.con (.val (.int .i64 1))), 0⟩,
                    ⟨(some 12), none, .mv (.tmp 101), 0⟩])))))))))
            (.regN [1, 3, 4, 5, 6, 7, 8, 9, 10] [
              ⟨(some 71), none, .mv (.tmp 10), 0⟩,
              ⟨(some 72), none, .bini .add (.tmp 71) (.con (.val (.int .i64 1))), 0⟩,
              ⟨(some 10), none, .mv (.tmp 72), 0⟩]))))))
        (.seq (.regN [1, 3, 4, 5, 6, 7, 8] [
          ⟨(some 128), none, .mv (.tmp 7), 0⟩,
          ⟨(some 129), none, .mv (.tmp 3), 0⟩,
          ⟨(some 130), none, .mv (.tmp 6), 0⟩,
          ⟨(some 131), none, .ixA 1 (.tmp 129) (.tmp 130), 0⟩,
          ⟨(some 132), none, .ld1 none (.tmp 131), 0⟩,
          ⟨(some 133), none, .eqb true (.tmp 128) (.tmp 132), 0⟩,
          ⟨(some 134), none, .mv (.tmp 133), 0⟩,
          ⟨(some 135), (some (134, false)), .mv (.tmp 8), 0⟩,
          ⟨(some 136), (some (134, false)), .mv (.tmp 4), 0⟩,
          ⟨(some 137), (some (134, false)), .mv (.tmp 6), 0⟩,
          ⟨(some 138), (some (134, false)), .ixA 1 (.tmp 136) (.tmp 137), 0⟩,
          ⟨(some 139), (some (134, false)), .ld1 none (.tmp 138), 0⟩,
          ⟨(some 140), (some (134, false)), .eqb true (.tmp 135) (.tmp 139), 0⟩,
          ⟨(some 141), none, .pick (.tmp 134) (.con (.val (.bool true))) (.tmp 140), 0⟩,
          ⟨(some 142), none, .mv (.tmp 141), 0⟩,
          ⟨(some 143), (some (142, false)), .mv (.tmp 3), 0⟩,
          ⟨(some 144), (some (142, false)), .mv (.tmp 6), 0⟩,
          ⟨(some 145), (some (142, false)), .ixA 1 (.tmp 143) (.tmp 144), 0⟩,
          ⟨(some 146), (some (142, false)), .ld1 none (.tmp 145), 0⟩,
          ⟨(some 147), (some (142, false)), .mv (.tmp 146), 0⟩,
          ⟨(some 148), (some (147, true)), .mv (.tmp 4), 0⟩,
          ⟨(some 149), (some (147, true)), .mv (.tmp 6), 0⟩,
          ⟨(some 150), (some (147, true)), .ixA 1 (.tmp 148) (.tmp 149), 0⟩,
          ⟨(some 151), (some (147, true)), .ld1 none (.tmp 150), 0⟩,
          ⟨(some 152), (some (147, true)), .not (.tmp 151), 0⟩,
          ⟨(some 153), (some (142, false)), .pick (.tmp 147) (.tmp 152) (.con (.val (.bool false))), 0⟩,
          ⟨(some 154), none, .pick (.tmp 142) (.con (.val (.bool true))) (.tmp 153), 0⟩])
        (.cond (.tmp 154)
          (.seq (.regN [] [
            ⟨(some 2), none, .mv (.con (.val (.bool false))), 0⟩])
          .ret)
          .skip))))))
      (.regN [1, 3, 4, 5, 6] [
        ⟨(some 62), none, .mv (.tmp 6), 0⟩,
        ⟨(some 63), none, .bini .add (.tmp 62) (.con (.val (.int .i64 1))), 0⟩,
        ⟨(some 6), none, .mv (.tmp 63), 0⟩]))))))
  (.seq (.regN [1, 4, 5] [
    ⟨(some 156), none, .ldA (some 1) 4 (.tmp 1), 0⟩,
    ⟨(some 157), none, .call 19 [(.tmp 156)], 0⟩,
    ⟨(some 155), none, .mv (.tmp 157), 0⟩,
    ⟨(some 158), none, .ext (.tmp 155) 0, 0⟩,
    ⟨(some 159), none, .ext (.tmp 155) 1, 0⟩,
    ⟨(some 13), none, .mv (.tmp 158), 0⟩,
    ⟨(some 14), none, .mv (.tmp 159), 0⟩])
  (.seq (.seq (.regN [1, 4, 5, 13, 14] [
    ⟨(some 15), none, .mv (.con (.val (.int .i64 0))), 0⟩])
  (.block 6
    (.loop [1, 4, 5, 13, 14, 15]
      (.seq (.seq (.regN [1, 4, 5, 13, 14, 15] [
        ⟨(some 160), none, .mv (.tmp 15), 0⟩,
        ⟨(some 161), none, .fldA 1 (.tmp 1), 0⟩,
        ⟨(some 162), none, .ld1 (some 1) (.tmp 161), 0⟩,
        ⟨(some 163), none, .bini .lss (.tmp 160) (.tmp 162), 0⟩])
      (.cond (.tmp 163)
        .skip
        (.exit 6)))
      (.seq (.block 7
        (.seq (.regN [1, 4, 5, 13, 14, 15] [
          ⟨(some 166), none, .mv (.tmp 4), 0⟩,
          ⟨(some 167), none, .mv (.tmp 15), 0⟩,
          ⟨(some 168), none, .ixA 1 (.tmp 166) (.tmp 167), 0⟩,
          ⟨(some 169), none, .ld1 none (.tmp 168), 0⟩,
          ⟨(some 170), none, .mv (.tmp 169), 0⟩,
          ⟨(some 171), (some (170, true)), .mv (.tmp 5), 0⟩,
          ⟨(some 172), (some (170, true)), .mv (.tmp 15), 0⟩,
          ⟨(some 173), (some (170, true)), .ixA 1 (.tmp 171) (.tmp 172), 0⟩,
          ⟨(some 174), (some (170, true)), .ld1 none (.tmp 173), 0⟩,
          ⟨(some 175), none, .pick (.tmp 170) (.tmp 174) (.con (.val (.bool false))), 0⟩,
          ⟨(some 16), none, .mv (.tmp 175), 0⟩])
        (.seq (.regN [1, 4, 5, 13, 14, 15, 16] [
          ⟨(some 176), none, .mv (.tmp 16), 0⟩,
          ⟨(some 177), none, .not (.tmp 176), 0⟩])
        (.cond (.tmp 177)
          (.seq (.regN [13, 14, 15] [
            ⟨(some 178), none, .mv (.tmp 14), 0⟩,
            ⟨(some 179), none, .not (.tmp 178), 0⟩,
            ⟨(some 180), none, .mv (.tmp 179), 0⟩,
            ⟨(some 181), (some (180, true)), .mv (.tmp 13), 0⟩,
            ⟨(some 182), (some (180, true)), .mv (.tmp 15), 0⟩,
            ⟨(some 183), (some (180, true)), .bini .eql (.tmp 181) (.tmp 182), 0⟩,
            ⟨(some 184), none, .pick (.tmp 180) (.tmp 183) (.con (.val (.bool false))), 0⟩,
            ⟨(some 2), none, .mv (.tmp 184), 0⟩])
          .ret)
          .skip))))
      (.regN [1, 4, 5, 13, 14, 15] [
        ⟨(some 164), none, .mv (.tmp 15), 0⟩,
        ⟨(some 165), none, .bini .add (.tmp 164) (.con (.val (.int .i64 1))), 0⟩,
        ⟨(some 15), none, .mv (.tmp 165), 0⟩]))))))
  (.seq (.regN [13, 14] [
    ⟨(some 185), none, .mv (.tmp 14), 0⟩,
    ⟨(some 186), none, .mv (.tmp 185), 0⟩,
    ⟨(some 187), (some (186, true)), .mv (.tmp 13), 0⟩,
    ⟨(some 188), (some (186, true)), .bini .eql (.tmp 187) (.con (.val (.int .i64 0))), 0⟩,
    ⟨(some 189), none, .pick (.tmp 186) (.tmp 188) (.con (.val (.bool false))), 0⟩,
    ⟨(some 2), none, .mv (.tmp 189), 0⟩])
  .ret))))))))),
  [.tmp 2], true⟩
/-- viewport/gram.Of  -/
def t18 : AFn := ⟨2, (.seq (.regN [0, 1] [
    ⟨(some 2), none, .boxR 4 (.tmp 0), 0⟩,
    ⟨(some 4), none, .mv (.con .e0), 0⟩])
  (.seq (.seq (.regN [1, 2, 4] [
    ⟨(some 7), none, .ldA (some 2) 4 (.tmp 2), 0⟩,
    ⟨(some 8), none, .call 11 [(.tmp 7)], 0⟩,
    ⟨(some 9), none, .bini .neq (.tmp 8) (.con (.val (.int .i64 0))), 0⟩])
  (.cond (.tmp 9)
    (.seq (.regN [] [
      ⟨(some 4), none, .mv (.con .e0), 0⟩])
    .ret)
    .skip))
  (.seq (.seq (.regN [1, 2, 4] [
    ⟨(some 10), none, .fldA 3 (.tmp 2), 0⟩,
    ⟨(some 11), none, .ld1 (some 2) (.tmp 10), 0⟩,
    ⟨(some 12), none, .len false (.tmp 11), 0⟩,
    ⟨(some 13), none, .mv (.con (.val (.int .i64 0))), 0⟩])
  (.block 0
    (.loop [1, 4, 11, 12, 13]
      (.seq (.regN [1, 4, 11, 12, 13] [
        ⟨(some 14), none, .bini .lss (.tmp 13) (.tmp 12), 0⟩])
      (.seq (.cond (.tmp 14)
        .skip
        (.exit 0))
      (.seq (.block 1
        (.seq (.regN [1, 4, 11, 12, 13] [
          ⟨(some 15), none, .mv (.tmp 13), 0⟩,
          ⟨(some 16), none, .ixA 2 (.tmp 11) (.tmp 13), 0⟩,
          ⟨(some 17), none, .ldA none 2 (.tmp 16), 0⟩,
          ⟨(some 6), none, .allocR [(.val (.int .i64 0)), .e0], 0⟩,
          ⟨(some 5), none, .mv (.tmp 15), 0⟩,
          ⟨none, none, .st (some 6) 2 (.tmp 6) (.tmp 17), 0⟩])
        (.seq (.regN [1, 4, 5, 6, 11, 12, 13] [
          ⟨(some 18), none, .fldA 0 (.tmp 6), 0⟩,
          ⟨(some 19), none, .ld1 (some 6) (.tmp 18), 0⟩,
          ⟨(some 20), none, .mv (.tmp 1), 0⟩,
          ⟨(some 21), none, .bini .eql (.tmp 19) (.tmp 20), 0⟩])
        (.cond (.tmp 21)
          (.regN [1, 4, 5, 11, 12, 13] [
            ⟨(some 22), none, .mv (.tmp 4), 0⟩,
            ⟨(some 23), none, .mv (.tmp 5), 0⟩,
            ⟨(some 24), none, .buildS 1 [(.val (.int .i64 0))] [(0, 1, (.tmp 23))], 0⟩,
            ⟨(some 25), none, .app 1 8 (.tmp 22) (.tmp 24), 0⟩,
            ⟨(some 4), none, .mv (.tmp 25), 0⟩])
          .skip))))
      (.regN [1, 4, 11, 12, 13] [
        ⟨(some 26), none, .bini .add (.tmp 13) (.con (.val (.int .i64 1))), 0⟩,
        ⟨(some 13), none, .mv (.tmp 26), 0⟩])))))))
  (.seq (.regN [4] [
    ⟨(some 27), none, .mv (.tmp 4), 0⟩,
    ⟨(some 4), none, .mv (.tmp 27), 0⟩])
  .ret)))),
  [.tmp 4], true⟩
/-- viewport/gram.Reduced  -/
def t19 : AFn := ⟨1, (.seq (.regN [0] [
    ⟨(some 1), none, .boxR 4 (.tmp 0), 0⟩,
    ⟨(some 2), none, .mv (.con (.val (.int .i64 0))), 0⟩,
    ⟨(some 3), none, .mv (.con (.val (.bool false))), 0⟩])
  (.seq (.seq (.regN [1] [
    ⟨(some 7), none, .ldA (some 1) 4 (.tmp 1), 0⟩,
    ⟨(some 8), none, .call 11 [(.tmp 7)], 0⟩,
    ⟨(some 9), none, .bini .neq (.tmp 8) (.con (.val (.int .i64 0))), 0⟩])
  (.cond (.tmp 9)
    (.seq (.regN [] [
      ⟨(some 2), none, .mv (.con (.val (.int .i64 0))), 0⟩,
      ⟨(some 3), none, .mv (.con (.val (.bool false))), 0⟩])
    .ret)
    .skip))
  (.seq (.regD [1] 0 [
    ⟨(some 10), none, .ldA (some 1) 4 (.tmp 1), 0⟩,
    ⟨(some 11), none, .call 16 [(.tmp 10)], 0⟩,
    ⟨(some 12), none, .ldA (some 1) 4 (.tmp 1), 0⟩,
    ⟨(some 13), none, .call 17 [(.tmp 12)], 0⟩,
    ⟨(some 4), none, .mv (.tmp 11), 0⟩,
    ⟨(some 5), none, .mv (.tmp 13), 0⟩])
  (.seq (.seq (.regN [1, 4, 5] [
    ⟨(some 14), none, .fldA 1 (.tmp 1), 0⟩,
    ⟨(some 15), none, .ld1 (some 1) (.tmp 14), 0⟩,
    ⟨(some 16), none, .mv (.con (.val (.int .i64 0))), 0⟩])
  (.block 0
    (.loop [4, 5, 15, 16]
      (.seq (.regN [4, 5, 15, 16] [
        ⟨(some 17), none, .bini .lss (.tmp 16) (.tmp 15), 0⟩])
      (.seq (.cond (.tmp 17)
        .skip
        (.exit 0))
      (.seq (.block 1
        (.seq (.regN [4, 5, 15, 16] [
          ⟨(some 18), none, .mv (.tmp 16), 0⟩,
          ⟨(some 6), none, .mv (.tmp 18), 0⟩])
        (.seq (.regN [4, 5, 6, 15, 16] [
          ⟨(some 19), none, .mv (.tmp 4), 0⟩,
          ⟨(some 20), none, .mv (.tmp 6), 0⟩,
          ⟨(some 21), none, .ixA 1 (.tmp 19) (.tmp 20), 0⟩,
          ⟨(some 22), none, .ld1 none (.tmp 21), 0⟩,
          ⟨(some 23), none, .not (.tmp 22), 0⟩,
          ⟨(some 24), none, .mv (.tmp 23), 0⟩,
          ⟨(some 25), (some (24, false)), .mv (.tmp 5), 0⟩,
          ⟨(some 26), (some (24, false)), .mv (.tmp 6), 0⟩,
          ⟨(some 27), (some (24, false)), .ixA 1 (.tmp 25) (.tmp 26), 0⟩,
          ⟨(some 28), (some (24, false)), .ld1 none (.tmp 27), 0⟩,
          ⟨(some 29), (some (24, false)), .not (.tmp 28), 0⟩,
          ⟨(some 30), none, .pick (.tmp 24) (.con (.val (.bool true))) (.tmp 29), 0⟩])
        (.cond (.tmp 30)
          (.seq (.regN [6] [
            ⟨(some 31), none, .mv (.tmp 6), 0⟩,
            ⟨(some 2), none, .mv (.tmp 31), 0⟩,
            ⟨(some 3), none, .mv (.con (.val (.bool false))), 0⟩])
          .ret)
          .skip))))
      (.regN [4, 5, 15, 16] [
        ⟨(some 32), none, .bini .add (.tmp 16) (.con (.val (.int .i64 1))), 0⟩,
        ⟨(some 16), none, .mv (.tmp 32), 0⟩])))))))
  (.seq (.regN [] [
    ⟨(some 2), none, .mv (.con (.val (.int .i64 0))), 0⟩,
    ⟨(some 3), none, .mv (.con (.val (.bool true))), 0⟩])
  .ret))))),
  [.tmp 2, .tmp 3], true⟩
/-- viewport/viewportlaw11.GramParts  -/
def t6 : AFn := ⟨1, (.seq (.regN [0] [
    ⟨(some 1), none, .boxR 4 (.tmp 0), 0⟩,
    ⟨(some 2), none, .mv (.con (.val (.bool false))), 0⟩])
  (.seq (.seq (.regN [1] [
    ⟨(some 12), none, .call 9 [], 0⟩,
    ⟨(some 13), none, .not (.tmp 12), 0⟩])
  (.cond (.tmp 13)
    (.seq (.regN [] [
      ⟨(some 2), none, .mv (.con (.val (.bool false))), 0⟩])
    .ret)
    .skip))
  (.seq (.seq (.regN [1] [
    ⟨(some 14), none, .ldA (some 1) 4 (.tmp 1), 0⟩,
    ⟨(some 15), none, .call 10 [(.tmp 14)], 0⟩,
    ⟨(some 16), none, .not (.tmp 15), 0⟩,
    ⟨(some 17), none, .mv (.tmp 16), 0⟩,
    ⟨(some 18), (some (17, false)), .ldA (some 1) 4 (.tmp 1), 0⟩,
    ⟨(some 19), (some (17, false)), .call 11 [(.tmp 18)], 0⟩,
    ⟨(some 20), (some (17, false)), .bini .neq (.tmp 19) (.con (.val (.int .i64 0))), 0⟩,
    ⟨(some 21), none, .pick (.tmp 17) (.con (.val (.bool true))) (.tmp 20), 0⟩])
  (.cond (.tmp 21)
    (.seq (.regN [] [
      ⟨(some 2), none, .mv (.con (.val (.bool true))), 0⟩])
    .ret)
    .skip))
  (.seq (.regN [1] [
    ⟨(some 22), none, .fldA 3 (.tmp 1), 0⟩,
    ⟨(some 23), none, .ld1 (some 1) (.tmp 22), 0⟩,
    ⟨(some 24), none, .len false (.tmp 23), 0⟩,
    ⟨(some 25), none, .mks 1 8 [(.val (.int .i64 0))] (.tmp 24), 0⟩,
    ⟨(some 3), none, .mv (.tmp 25), 0⟩])
  (.seq (.seq (.regN [1, 3] [
    ⟨(some 4), none, .mv (.con (.val (.int .i64 0))), 0⟩])
  (.block 0
    (.loop [1, 3, 4]
      (.seq (.seq (.regN [1, 3, 4] [
        ⟨(some 26), none, .mv (.tmp 4), 0⟩,
        ⟨(some 27), none, .fldA 1 (.tmp 1), 0⟩,
        ⟨(some 28), none, .ld1 (some 1) (.tmp 27), 0⟩,
        ⟨(some 29), none, .bini .lss (.tmp 26) (.tmp 28), 0⟩])
      (.cond (.tmp 29)
        .skip
        (.exit 0)))
      (.seq (.block 1
        (.seq (.regN [1, 3, 4] [
          ⟨(some 32), none, .ldA (some 1) 4 (.tmp 1), 0⟩,
          ⟨(some 33), none, .mv (.tmp 4), 0⟩,
          ⟨(some 34), none, .call 18 [(.tmp 32), (.tmp 33)], 0⟩,
          ⟨(some 5), none, .mv (.tmp 34), 0⟩])
        (.seq (.regN [1, 3, 4, 5] [
          ⟨(some 6), none, .mv (.con (.val (.int .i64 0))), 0⟩])
        (.block 2
          (.loop [1, 3, 4, 5, 6]
            (.seq (.seq (.regN [1, 3, 4, 5, 6] [
              ⟨(some 35), none, .mv (.tmp 6), 0⟩,
              ⟨(some 36), none, .mv (.tmp 5), 0⟩,
              ⟨(some 37), none, .len false (.tmp 36), 0⟩,
              ⟨(some 38), none, .bini .lss (.tmp 35) (.tmp 37), 0⟩])
            (.cond (.tmp 38)
              .skip
              (.exit 2)))
            (.seq (.block 3
              (.seq (.seq (.regD [1, 3, 4, 5, 6] 0 [
                ⟨(some 41), none, .mv (.tmp 5), 0⟩,
                ⟨(some 42), none, .mv (.tmp 6), 0⟩,
                ⟨(some 43), none, .ixA 1 (.tmp 41) (.tmp 42), 0⟩,
                ⟨(some 44), none, .ld1 none (.tmp 43), 0⟩,
                ⟨(some 45), none, .bini .lss (.tmp 44) (.con (.val (.int .i64 0))), 0⟩,
                ⟨(some 46), none, .mv (.tmp 45), 0⟩,
                ⟨(some 47), (some (46, false)), .mv (.tmp 5), 0⟩,
                ⟨(some 48), (some (46, false)), .mv (.tmp 6), 0⟩,
                ⟨(some 49), (some (46, false)), .ixA 1 (.tmp 47) (.tmp 48), 0⟩,
                ⟨(some 50), (some (46, false)), .ld1 none (.tmp 49), 0⟩,
                ⟨(some 51), (some (46, false)), .mv (.tmp 3), 0⟩,
                ⟨(some 52), (some (46, false)), .len false (.tmp 51), 0⟩,
                ⟨(some 53), (some (46, false)), .bini .geq (.tmp 50) (.tmp 52), 0⟩,
                ⟨(some 54), none, .pick (.tmp 46) (.con (.val (.bool true))) (.tmp 53), 0⟩,
                ⟨(some 55), none, .mv (.tmp 54), 0⟩,
                ⟨(some 56), (some (55, false)), .mv (.tmp 6), 0⟩,
                ⟨(some 57), (some (55, false)), .bini .gtr (.tmp 56) (.con (.val (.int .i64 0))), 0⟩,
                ⟨(some 58), (some (55, false)), .mv (.tmp 57), 0⟩,
                ⟨(some 59), (some (58, true)), .mv (.tmp 5), 0⟩,
                ⟨(some 60), (some (58, true)), .mv (.tmp 6), 0⟩,
                ⟨(some 61), (some (58, true)), .bini .sub (.tmp 60) (.con (.val (.int .i64 1))), 0⟩,
                ⟨(some 62), (some (58, true)), .ixA 1 (.tmp 59) (.tmp 61), 0⟩,
                ⟨(some 63), (some (58, true)), .ld1 none (.tmp 62), 0⟩,
                ⟨(some 64), (some (58, true)), .mv (.tmp 5), 0⟩,
                ⟨(some 65), (some (58, true)), .mv (.tmp 6), 0⟩,
                ⟨(some 66), (some (58, true)), .ixA 1 (.tmp 64) (.tmp 65), 0⟩,
                ⟨(some 67), (some (58, true)), .ld1 none (.tmp 66), 0⟩,
                ⟨(some 68), (some (58, true)), .bini .geq (.tmp 63) (.tmp 67), 0⟩,
                ⟨(some 69), (some (55, false)), .pick (.tmp 58) (.tmp 68) (.con (.val (.bool false))), 0⟩,
                ⟨(some 70), none, .pick (.tmp 55) (.con (.val (.bool true))) (.tmp 69), 0⟩,
                ⟨(some 71), none, .mv (.tmp 70), 0⟩,
                ⟨(some 72), (some (71, false)), .fldA 3 (.tmp 1), 0⟩,
                ⟨(some 73), (some (71, false)), .ld1 (some 1) (.tmp 72), 0⟩,
                ⟨(some 74), (some (71, false)), .mv (.tmp 5), 0⟩,
                ⟨(some 75), (some (71, false)), .mv (.tmp 6), 0⟩,
                ⟨(some 76), (some (71, false)), .ixA 1 (.tmp 74) (.tmp 75), 0⟩,
                ⟨(some 77), (some (71, false)), .ld1 none (.tmp 76), 0⟩,
                ⟨(some 78), (some (71, false)), .ixA 2 (.tmp 73) (.tmp 77), 0⟩,
                ⟨(some 79), (some (71, false)), .fldA 0 (.tmp 78), 0⟩,
                ⟨(some 80), (some (71, false)), .ld1 none (.tmp 79), 0⟩,
                ⟨(some 81), (some (71, false)), .mv (.tmp 4), 0⟩,
                ⟨(some 82), (some (71, false)), .bini .neq (.tmp 80) (.tmp 81), 0⟩,
                ⟨(some 83), none, .pick (.tmp 71) (.con (.val (.bool true))) (.tmp 82), 0⟩])
              (.cond (.tmp 83)
                (.seq (.regN [] [
                  ⟨(some 2), none, .mv (.con (.val (.bool false))), 0⟩])
                .ret)
                .skip))
              (.regN [1, 3, 4, 5, 6] [
                ⟨(some 84), none, .mv (.tmp 3), 0⟩,
                ⟨(some 85), none, .mv (.tmp 5), 0⟩,
                ⟨(some 86), none, .mv (.tmp 6), 0⟩,
                ⟨(some 87), none, .ixA 1 (.tmp 85) (.tmp 86), 0⟩,
                ⟨(some 88), none, .ld1 none (.tmp 87), 0⟩,
                ⟨(some 89), none, .ixA 1 (.tmp 84) (.tmp 88), 0⟩,
                ⟨(some 90), none, .ld1 none (.tmp 89), 0⟩,
                ⟨(some 91), none, .bini .add (.tmp 90) (.con (.val (.int .i64 1))), 0⟩,
                ⟨(some 92), none, .ixA 1 (.tmp 84) (.tmp 88), 0⟩,
                ⟨none, none, .st none 1 (.tmp 92) (.tmp 91), 0⟩])))
            (.regN [1, 3, 4, 5, 6] [
              ⟨(some 39), none, .mv (.tmp 6), 0⟩,
              ⟨(some 40), none, .bini .add (.tmp 39) (.con (.val (.int .i64 1))), 0⟩,
              ⟨(some 6), none, .mv (.tmp 40), 0⟩]))))))))
      (.regN [1, 3, 4] [
        ⟨(some 30), none, .mv (.tmp 4), 0⟩,
        ⟨(some 31), none, .bini .add (.tmp 30) (.con (.val (.int .i64 1))), 0⟩,
        ⟨(some 4), none, .mv (.tmp 31), 0⟩]))))))
  (.seq (.seq (.regN [1, 3] [
    ⟨(some 7), none, .mv (.con (.val (.int .i64 0))), 0⟩])
  (.block 4
    (.loop [1, 3, 7]
      (.seq (.seq (.regN [1, 3, 7] [
        ⟨(some 93), none, .mv (.tmp 7), 0⟩,
        ⟨(some 94), none, .mv (.tmp 3), 0⟩,
        ⟨(some 95), none, .len false (.tmp 94), 0⟩,
        ⟨(some 96), none, .bini .lss (.tmp 93) (.tmp 95), 0⟩])
      (.cond (.tmp 96)
        .skip
        (.exit 4)))
      (.seq (.block 5
        (.seq (.regN [1, 3, 7] [
          ⟨(some 99), none, .mv (.tmp 3), 0⟩,
          ⟨(some 100), none, .mv (.tmp 7), 0⟩,
          ⟨(some 101), none, .ixA 1 (.tmp 99) (.tmp 100), 0⟩,
          ⟨(some 102), none, .ld1 none (.tmp 101), 0⟩,
          ⟨(some 103), none, .bini .neq (.tmp 102) (.con (.val (.int .i64 1))), 0⟩])
        (.cond (.tmp 103)
          (.seq (.regN [] [
            ⟨(some 2), none, .mv (.con (.val (.bool false))), 0⟩])
          .ret)
          .skip)))
      (.regN [1, 3, 7] [
        ⟨(some 97), none, .mv (.tmp 7), 0⟩,
        ⟨(some 98), none, .bini .add (.tmp 97) (.con (.val (.int .i64 1))), 0⟩,
        ⟨(some 7), none, .mv (.tmp 98), 0⟩]))))))
  (.seq (.regN [1] [
    ⟨(some 104), none, .ldA (some 1) 4 (.tmp 1), 0⟩,
    ⟨(some 105), none, .call 20 [(.tmp 104)], 0⟩,
    ⟨(some 8), none, .allocR [(.val (.int .i64 0)), (.val (.int .i64 0)), (.val (.int .i64 0)), .e0], 0⟩,
    ⟨none, none, .st (some 8) 4 (.tmp 8) (.tmp 105), 0⟩])
  (.seq (.regN [1, 8] [
    ⟨(some 106), none, .ldA (some 1) 4 (.tmp 1), 0⟩,
    ⟨(some 107), none, .call 21 [(.tmp 106)], 0⟩,
    ⟨(some 9), none, .allocR [(.val (.int .i64 0)), (.val (.int .i64 0)), (.val (.int .i64 0)), .e0], 0⟩,
    ⟨none, none, .st (some 9) 4 (.tmp 9) (.tmp 107), 0⟩])
  (.seq (.seq (.regN [1, 8, 9] [
    ⟨(some 108), none, .ldA (some 9) 4 (.tmp 9), 0⟩,
    ⟨(some 109), none, .ldA (some 1) 4 (.tmp 1), 0⟩,
    ⟨(some 110), none, .call 22 [(.tmp 108), (.tmp 109)], 0⟩,
    ⟨(some 111), none, .not (.tmp 110), 0⟩])
  (.cond (.tmp 111)
    (.seq (.regN [] [
      ⟨(some 2), none, .mv (.con (.val (.bool false))), 0⟩])
    .ret)
    .skip))
  (.seq (.seq (.regN [1, 8, 9] [
    ⟨(some 10), none, .mv (.con (.val (.int .i64 0))), 0⟩])
  (.block 6
    (.loop [1, 8, 9, 10]
      (.seq (.seq (.regN [1, 8, 9, 10] [
        ⟨(some 112), none, .mv (.tmp 10), 0⟩,
        ⟨(some 113), none, .fldA 3 (.tmp 9), 0⟩,
        ⟨(some 114), none, .ld1 (some 9) (.tmp 113), 0⟩,
        ⟨(some 115), none, .len false (.tmp 114), 0⟩,
        ⟨(some 116), none, .bini .lss (.tmp 112) (.tmp 115), 0⟩])
      (.cond (.tmp 116)
        .skip
        (.exit 6)))
      (.seq (.block 7
        (.seq (.regN [1, 8, 9, 10] [
          ⟨(some 119), none, .fldA 3 (.tmp 9), 0⟩,
          ⟨(some 120), none, .ld1 (some 9) (.tmp 119), 0⟩,
          ⟨(some 121), none, .mv (.tmp 10), 0⟩,
          ⟨(some 122), none, .ixA 2 (.tmp 120) (.tmp 121), 0⟩,
          ⟨(some 123), none, .fldA 0 (.tmp 122), 0⟩,
          ⟨(some 124), none, .ld1 none (.tmp 123), 0⟩,
          ⟨(some 125), none, .bini .add (.tmp 124) (.con (.val (.int .i64 1))), 0⟩,
          ⟨(some 126), none, .ixA 2 (.tmp 120) (.tmp 121), 0⟩,
          ⟨(some 127), none, .fldA 0 (.tmp 126), 0⟩,
          ⟨none, none, .st none 1 (.tmp 127) (.tmp 125), 0⟩])
        (.seq (.regN [1, 8, 9, 10] [
          ⟨(some 11), none, .mv (.con (.val (.int .i64 0))), 0⟩])
        (.block 8
          (.loop [1, 8, 9, 10, 11]
            (.seq (.seq (.regN [1, 8, 9, 10, 11] [
              ⟨(some 128), none, .mv (.tmp 11), 0⟩,
              ⟨(some 129), none, .fldA 3 (.tmp 9), 0⟩,
              ⟨(some 130), none, .ld1 (some 9) (.tmp 129), 0⟩,
              ⟨(some 131), none, .mv (.tmp 10), 0⟩,
              ⟨(some 132), none, .ixA 2 (.tmp 130) (.tmp 131), 0⟩,
              ⟨(some 133), none, .fldA 1 (.tmp 132), 0⟩,
              ⟨(some 134), none, .ld1 none (.tmp 133), 0⟩,
              ⟨(some 135), none, .len false (.tmp 134), 0⟩,
              ⟨(some 136), none, .bini .lss (.tmp 128) (.tmp 135), 0⟩])
            (.cond (.tmp 136)
              .skip
              (.exit 8)))
            (.seq (.block 9
              (.regN [1, 8, 9, 10, 11] [
                ⟨(some 139), none, .fldA 3 (.tmp 9), 0⟩,
                ⟨(some 140), none, .ld1 (some 9) (.tmp 139), 0⟩,
                ⟨(some 141), none, .mv (.tmp 10), 0⟩,
                ⟨(some 142), none, .ixA 2 (.tmp 140) (.tmp 141), 0⟩,
                ⟨(some 143), none, .fldA 1 (.tmp 142), 0⟩,
                ⟨(some 144), none, .ld1 none (.tmp 143), 0⟩,
                ⟨(some 145), none, .mv (.tmp 11), 0⟩,
                ⟨(some 146), none, .ixA 1 (.tmp 144) (.tmp 145), 0⟩,
                ⟨(some 147), none, .ld1 none (.tmp 146), 0⟩,
                ⟨(some 148), none, .bini .add (.tmp 147) (.con (.val (.int .i64 1))), 0⟩,
                ⟨(some 149), none, .ixA 1 (.tmp 144) (.tmp 145), 0⟩,
                ⟨none, none, .st none 1 (.tmp 149) (.tmp 148), 0⟩]))
            (.regN [1, 8, 9, 10, 11] [
              ⟨(some 137), none, .mv (.tmp 11), 0⟩,
              ⟨(some 138), none, .bini .add (.tmp 137) (.con (.val (.int .i64 1))), 0⟩,
              ⟨(some 11), none, .mv (.tmp 138), 0⟩]))))))))
      (.regN [1, 8, 9, 10] [
        ⟨(some 117), none, .mv (.tmp 10), 0⟩,
        ⟨(some 118), none, .bini .add (.tmp 117) (.con (.val (.int .i64 1))), 0⟩,
        ⟨(some 10), none, .mv (.tmp 118), 0⟩]))))))
  (.seq (.regN [1, 8, 9] [
    ⟨(some 150), none, .ldA (some 1) 4 (.tmp 1), 0⟩,
    ⟨(some 151), none, .ldA (some 8) 4 (.tmp 8), 0⟩,
    ⟨(some 152), none, .call 22 [(.tmp 150), (.tmp 151)], 0⟩,
    ⟨(some 153), none, .mv (.tmp 152), 0⟩,
    ⟨(some 154), (some (153, true)), .ldA (some 9) 4 (.tmp 9), 0⟩,
    ⟨(some 155), (some (153, true)), .ldA (some 1) 4 (.tmp 1), 0⟩,
    ⟨(some 156), (some (153, true)), .call 22 [(.tmp 154), (.tmp 155)], 0⟩,
    ⟨(some 157), (some (153, true)), .not (.tmp 156), 0⟩,
    ⟨(some 158), none, .pick (.tmp 153) (.tmp 157) (.con (.val (.bool false))), 0⟩,
    ⟨(some 2), none, .mv (.tmp 158), 0⟩])
  .ret))))))))))),
  [.tmp 2], true⟩
/-- viewport/viewportkit.OwnGrammar  -/
def t20 : AFn := ⟨1, (.seq (.regN [0] [
    ⟨(some 1), none, .boxR 4 (.tmp 0), 0⟩,
    ⟨(some 2), none, .allocR [(.val (.int .i64 0)), (.val (.int .i64 0)), (.val (.int .i64 0)), .e0], 0⟩])
  (.seq (.regN [1, 2] [
    ⟨(some 4), none, .fldA 3 (.tmp 1), 0⟩,
    ⟨(some 5), none, .ld1 (some 1) (.tmp 4), 0⟩,
    ⟨(some 6), none, .call 42 [(.tmp 5)], 0⟩,
    ⟨(some 7), none, .fldA 3 (.tmp 1), 0⟩,
    ⟨none, none, .st (some 1) 1 (.tmp 7) (.tmp 6), 0⟩])
  (.seq (.seq (.regN [1, 2] [
    ⟨(some 3), none, .mv (.con (.val (.int .i64 0))), 0⟩])
  (.block 0
    (.loop [1, 2, 3]
      (.seq (.seq (.regN [1, 2, 3] [
        ⟨(some 8), none, .mv (.tmp 3), 0⟩,
        ⟨(some 9), none, .fldA 3 (.tmp 1), 0⟩,
        ⟨(some 10), none, .ld1 (some 1) (.tmp 9), 0⟩,
        ⟨(some 11), none, .len false (.tmp 10), 0⟩,
        ⟨(some 12), none, .bini .lss (.tmp 8) (.tmp 11), 0⟩])
      (.cond (.tmp 12)
        .skip
        (.exit 0)))
      (.seq (.block 1
        (.regD [1, 2, 3] 0 [
          ⟨(some 15), none, .fldA 3 (.tmp 1), 0⟩,
          ⟨(some 16), none, .ld1 (some 1) (.tmp 15), 0⟩,
          ⟨(some 17), none, .mv (.tmp 3), 0⟩,
          ⟨(some 18), none, .fldA 3 (.tmp 1), 0⟩,
          ⟨(some 19), none, .ld1 (some 1) (.tmp 18), 0⟩,
          ⟨(some 20), none, .mv (.tmp 3), 0⟩,
          ⟨(some 21), none, .ixA 2 (.tmp 19) (.tmp 20), 0⟩,
          ⟨(some 22), none, .fldA 1 (.tmp 21), 0⟩,
          ⟨(some 23), none, .ld1 none (.tmp 22), 0⟩,
          ⟨(some 24), none, .call 43 [(.tmp 23)], 0⟩,
          ⟨(some 25), none, .ixA 2 (.tmp 16) (.tmp 17), 0⟩,
          ⟨(some 26), none, .fldA 1 (.tmp 25), 0⟩,
          ⟨none, none, .st none 1 (.tmp 26) (.tmp 24), 0⟩]))
      (.regN [1, 2, 3] [
        ⟨(some 13), none, .mv (.tmp 3), 0⟩,
        ⟨(some 14), none, .bini .add (.tmp 13) (.con (.val (.int .i64 1))), 0⟩,
        ⟨(some 3), none, .mv (.tmp 14), 0⟩]))))))
  (.seq (.regN [1, 2] [
    ⟨(some 27), none, .ldA (some 1) 4 (.tmp 1), 0⟩,
    ⟨none, none, .st (some 2) 4 (.tmp 2) (.tmp 27), 0⟩])
  .ret)))),
  [.cell 2 4 true], true⟩
/-- viewport/viewportkit.Own[viewport/api.Prod]  -/
def t42 : AFn := ⟨1, (.seq (.regN [0] [
    ⟨(some 2), none, .mv (.con .e0), 0⟩])
  (.seq (.regN [0] [
    ⟨(some 3), none, .buildS 0 [] [], 0⟩,
    ⟨(some 4), none, .mv (.tmp 0), 0⟩,
    ⟨(some 5), none, .app 2 32 (.tmp 3) (.tmp 4), 0⟩,
    ⟨(some 2), none, .mv (.tmp 5), 0⟩])
  .ret)),
  [.tmp 2], true⟩
/-- viewport/viewportkit.Own[int]  -/
def t43 : AFn := ⟨1, (.seq (.regN [0] [
    ⟨(some 2), none, .mv (.con .e0), 0⟩])
  (.seq (.regN [0] [
    ⟨(some 3), none, .buildS 0 [] [], 0⟩,
    ⟨(some 4), none, .mv (.tmp 0), 0⟩,
    ⟨(some 5), none, .app 1 8 (.tmp 3) (.tmp 4), 0⟩,
    ⟨(some 2), none, .mv (.tmp 5), 0⟩])
  .ret)),
  [.tmp 2], true⟩
/-- viewport/gram.Copy  -/
def t21 : AFn := ⟨1, (.seq (.regN [0] [
    ⟨(some 1), none, .boxR 4 (.tmp 0), 0⟩,
    ⟨(some 2), none, .allocR [(.val (.int .i64 0)), (.val (.int .i64 0)), (.val (.int .i64 0)), .e0], 0⟩])
  (.seq (.regN [1, 2] [
    ⟨(some 4), none, .fldA 3 (.tmp 1), 0⟩,
    ⟨(some 5), none, .ld1 (some 1) (.tmp 4), 0⟩,
    ⟨(some 6), none, .call 44 [(.tmp 5)], 0⟩,
    ⟨(some 7), none, .fldA 3 (.tmp 1), 0⟩,
    ⟨none, none, .st (some 1) 1 (.tmp 7) (.tmp 6), 0⟩])
  (.seq (.seq (.regN [1, 2] [
    ⟨(some 8), none, .fldA 3 (.tmp 1), 0⟩,
    ⟨(some 9), none, .ld1 (some 1) (.tmp 8), 0⟩,
    ⟨(some 10), none, .len false (.tmp 9), 0⟩,
    ⟨(some 11), none, .mv (.con (.val (.int .i64 0))), 0⟩])
  (.block 0
    (.loop [1, 2, 10, 11]
      (.seq (.regN [1, 2, 10, 11] [
        ⟨(some 12), none, .bini .lss (.tmp 11) (.tmp 10), 0⟩])
      (.seq (.cond (.tmp 12)
        .skip
        (.exit 0))
      (.seq (.block 1
        (.seq (.regN [1, 2, 10, 11] [
          ⟨(some 13), none, .mv (.tmp 11), 0⟩,
          ⟨(some 3), none, .mv (.tmp 13), 0⟩])
        (.regD [1, 2, 3, 10, 11] 0 [
          ⟨(some 14), none, .fldA 3 (.tmp 1), 0⟩,
          ⟨(some 15), none, .ld1 (some 1) (.tmp 14), 0⟩,
          ⟨(some 16), none, .mv (.tmp 3), 0⟩,
          ⟨(some 17), none, .fldA 3 (.tmp 1), 0⟩,
          ⟨(some 18), none, .ld1 (some 1) (.tmp 17), 0⟩,
          ⟨(some 19), none, .mv (.tmp 3), 0⟩,
          ⟨(some 20), none, .ixA 2 (.tmp 18) (.tmp 19), 0⟩,
          ⟨(some 21), none, .fldA 1 (.tmp 20), 0⟩,
          ⟨(some 22), none, .ld1 none (.tmp 21), 0⟩,
          ⟨(some 23), none, .call 45 [(.tmp 22)], 0⟩,
          ⟨(some 24), none, .ixA 2 (.tmp 15) (.tmp 16), 0⟩,
          ⟨(some 25), none, .fldA 1 (.tmp 24), 0⟩,
          ⟨none, none, .st none 1 (.tmp 25) (.tmp 23), 0⟩])))
      (.regN [1, 2, 10, 11] [
        ⟨(some 26), none, .bini .add (.tmp 11) (.con (.val (.int .i64 1))), 0⟩,
        ⟨(some 11), none, .mv (.tmp 26), 0⟩])))))))
  (.seq (.regN [1, 2] [
    ⟨(some 27), none, .ldA (some 1) 4 (.tmp 1), 0⟩,
    ⟨none, none, .st (some 2) 4 (.tmp 2) (.tmp 27), 0⟩])
  .ret)))),
  [.cell 2 4 true], false⟩
/-- viewport/gram.Same  -/
def t22 : AFn := ⟨2, (.seq (.regN [0, 1] [
    ⟨(some 2), none, .boxR 4 (.tmp 0), 0⟩,
    ⟨(some 3), none, .boxR 4 (.tmp 1), 0⟩,
    ⟨(some 4), none, .mv (.con (.val (.bool false))), 0⟩])
  (.seq (.regN [2, 3] [
    ⟨(some 5), none, .fldA 0 (.tmp 2), 0⟩,
    ⟨(some 6), none, .ld1 (some 2) (.tmp 5), 0⟩,
    ⟨(some 7), none, .fldA 0 (.tmp 3), 0⟩,
    ⟨(some 8), none, .ld1 (some 3) (.tmp 7), 0⟩,
    ⟨(some 9), none, .bini .eql (.tmp 6) (.tmp 8), 0⟩,
    ⟨(some 10), none, .mv (.tmp 9), 0⟩,
    ⟨(some 11), (some (10, true)), .fldA 1 (.tmp 2), 0⟩,
    ⟨(some 12), (some (10, true)), .ld1 (some 2) (.tmp 11), 0⟩,
    ⟨(some 13), (some (10, true)), .fldA 1 (.tmp 3), 0⟩,
    ⟨(some 14), (some (10, true)), .ld1 (some 3) (.tmp 13), 0⟩,
    ⟨(some 15), (some (10, true)), .bini .eql (.tmp 12) (.tmp 14), 0⟩,
    ⟨(some 16), none, .pick (.tmp 10) (.tmp 15) (.con (.val (.bool false))), 0⟩,
    ⟨(some 17), none, .mv (.tmp 16), 0⟩,
    ⟨(some 18), (some (17, true)), .fldA 2 (.tmp 2), 0⟩,
    ⟨(some 19), (some (17, true)), .ld1 (some 2) (.tmp 18), 0⟩,
    ⟨(some 20), (some (17, true)), .fldA 2 (.tmp 3), 0⟩,
    ⟨(some 21), (some (17, true)), .ld1 (some 3) (.tmp 20), 0⟩,
    ⟨(some 22), (some (17, true)), .bini .eql (.tmp 19) (.tmp 21), 0⟩,
    ⟨(some 23), none, .pick (.tmp 17) (.tmp 22) (.con (.val (.bool false))), 0⟩,
    ⟨(some 24), none, .mv (.tmp 23), 0⟩,
    ⟨(some 25), (some (24, true)), .fldA 3 (.tmp 2), 0⟩,
    ⟨(some 26), (some (24, true)), .ld1 (some 2) (.tmp 25), 0⟩,
    ⟨(some 27), (some (24, true)), .fldA 3 (.tmp 3), 0⟩,
    ⟨(some 28), (some (24, true)), .ld1 (some 3) (.tmp 27), 0⟩,
    ⟨(some 29), (some (24, true)), .call 46 [(.tmp 26), (.tmp 28), (.con (.fn 47 []))], 0⟩,
    ⟨(some 30), none, .pick (.tmp 24) (.tmp 29) (.con (.val (.bool false))), 0⟩,
    ⟨(some 4), none, .mv (.tmp 30), 0⟩])
  .ret)),
  [.tmp 4], true⟩
/-- slices.EqualFunc[[]viewport/api.Prod,[]viewport/api.Prod,viewport/api.Prod,viewport/api.Prod]  -/
def t46 : AFn := ⟨3, (.seq (.regN [0, 1, 2] [
    ⟨(some 6), none, .mv (.con (.val (.bool false))), 0⟩])
  (.seq (.seq (.regN [0, 1, 2] [
    ⟨(some 10), none, .mv (.tmp 0), 0⟩,
    ⟨(some 11), none, .len false (.tmp 10), 0⟩,
    ⟨(some 12), none, .mv (.tmp 1), 0⟩,
    ⟨(some 13), none, .len false (.tmp 12), 0⟩,
    ⟨(some 14), none, .bini .neq (.tmp 11) (.tmp 13), 0⟩])
  (.cond (.tmp 14)
    (.seq (.regN [] [
      ⟨(some 6), none, .mv (.con (.val (.bool false))), 0⟩])
    .ret)
    .skip))
  (.seq (.seq (.regN [0, 1, 2] [
    ⟨(some 15), none, .mv (.tmp 0), 0⟩,
    ⟨(some 16), none, .len false (.tmp 15), 0⟩,
    ⟨(some 17), none, .mv (.con (.val (.int .i64 0))), 0⟩])
  (.block 0
    (.loop [1, 2, 15, 16, 17]
      (.seq (.regN [1, 2, 15, 16, 17] [
        ⟨(some 18), none, .bini .lss (.tmp 17) (.tmp 16), 0⟩])
      (.seq (.cond (.tmp 18)
        .skip
        (.exit 0))
      (.seq (.block 1
        (.seq (.regN [1, 2, 15, 16, 17] [
          ⟨(some 19), none, .mv (.tmp 17), 0⟩,
          ⟨(some 20), none, .ixA 2 (.tmp 15) (.tmp 17), 0⟩,
          ⟨(some 21), none, .ldA none 2 (.tmp 20), 0⟩,
          ⟨(some 8), none, .allocR [(.val (.int .i64 0)), .e0], 0⟩,
          ⟨(some 7), none, .mv (.tmp 19), 0⟩,
          ⟨none, none, .st (some 8) 2 (.tmp 8) (.tmp 21), 0⟩])
        (.seq (.regN [1, 2, 7, 8, 15, 16, 17] [
          ⟨(some 22), none, .mv (.tmp 1), 0⟩,
          ⟨(some 23), none, .mv (.tmp 7), 0⟩,
          ⟨(some 24), none, .ixA 2 (.tmp 22) (.tmp 23), 0⟩,
          ⟨(some 25), none, .ldA none 2 (.tmp 24), 0⟩,
          ⟨(some 9), none, .allocR [(.val (.int .i64 0)), .e0], 0⟩,
          ⟨none, none, .st (some 9) 2 (.tmp 9) (.tmp 25), 0⟩])
        (.seq (.regN [1, 2, 8, 9, 15, 16, 17] [
          ⟨(some 26), none, .mv (.tmp 2), 0⟩,
          ⟨(some 27), none, .ldA (some 8) 2 (.tmp 8), 0⟩,
          ⟨(some 28), none, .ldA (some 9) 2 (.tmp 9), 0⟩,
          ⟨(some 29), none, .callv (.tmp 26) [(.tmp 27), (.tmp 28)], 0⟩,
          ⟨(some 30), none, .not (.tmp 29), 0⟩])
        (.cond (.tmp 30)
          (.seq (.regN [] [
            ⟨(some 6), none, .mv (.con (.val (.bool false))), 0⟩])
          .ret)
          .skip)))))
      (.regN [1, 2, 15, 16, 17] [
        ⟨(some 31), none, .bini .add (.tmp 17) (.con (.val (.int .i64 1))), 0⟩,
        ⟨(some 17), none, .mv (.tmp 31), 0⟩])))))))
  (.seq (.regN [] [
    ⟨(some 6), none, .mv (.con (.val (.bool true))), 0⟩])
  .ret)))),
  [.tmp 6], true⟩
/-- viewport/gram.Same$1  -/
def t47 : AFn := ⟨2, (.seq (.regN [0, 1] [
    ⟨(some 2), none, .boxR 2 (.tmp 0), 0⟩,
    ⟨(some 3), none, .boxR 2 (.tmp 1), 0⟩,
    ⟨(some 4), none, .mv (.con (.val (.bool false))), 0⟩])
  (.seq (.regN [2, 3] [
    ⟨(some 5), none, .fldA 0 (.tmp 2), 0⟩,
    ⟨(some 6), none, .ld1 (some 2) (.tmp 5), 0⟩,
    ⟨(some 7), none, .fldA 0 (.tmp 3), 0⟩,
    ⟨(some 8), none, .ld1 (some 3) (.tmp 7), 0⟩,
    ⟨(some 9), none, .bini .eql (.tmp 6) (.tmp 8), 0⟩,
    ⟨(some 10), none, .mv (.tmp 9), 0⟩,
    ⟨(some 11), (some (10, true)), .fldA 1 (.tmp 2), 0⟩,
    ⟨(some 12), (some (10, true)), .ld1 (some 2) (.tmp 11), 0⟩,
    ⟨(some 13), (some (10, true)), .fldA 1 (.tmp 3), 0⟩,
    ⟨(some 14), (some (10, true)), .ld1 (some 3) (.tmp 13), 0⟩,
    ⟨(some 15), (some (10, true)), .call 48 [(.tmp 12), (.tmp 14)], 0⟩,
    ⟨(some 16), none, .pick (.tmp 10) (.tmp 15) (.con (.val (.bool false))), 0⟩,
    ⟨(some 4), none, .mv (.tmp 16), 0⟩])
  .ret)),
  [.tmp 4], true⟩
/-- slices.Equal[[]int,int]  -/
def t48 : AFn := ⟨2, (.seq (.regN [0, 1] [
    ⟨(some 4), none, .mv (.con (.val (.bool false))), 0⟩])
  (.seq (.seq (.regN [0, 1] [
    ⟨(some 6), none, .mv (.tmp 0), 0⟩,
    ⟨(some 7), none, .len false (.tmp 6), 0⟩,
    ⟨(some 8), none, .mv (.tmp 1), 0⟩,
    ⟨(some 9), none, .len false (.tmp 8), 0⟩,
    ⟨(some 10), none, .bini .neq (.tmp 7) (.tmp 9), 0⟩])
  (.cond (.tmp 10)
    (.seq (.regN [] [
      ⟨(some 4), none, .mv (.con (.val (.bool false))), 0⟩])
    .ret)
    .skip))
  (.seq (.seq (.regN [0, 1] [
    ⟨(some 11), none, .mv (.tmp 0), 0⟩,
    ⟨(some 12), none, .len false (.tmp 11), 0⟩,
    ⟨(some 13), none, .mv (.con (.val (.int .i64 0))), 0⟩])
  (.block 0
    (.loop [0, 1, 12, 13]
      (.seq (.regN [0, 1, 12, 13] [
        ⟨(some 14), none, .bini .lss (.tmp 13) (.tmp 12), 0⟩])
      (.seq (.cond (.tmp 14)
        .skip
        (.exit 0))
      (.seq (.block 1
        (.seq (.regN [0, 1, 12, 13] [
          ⟨(some 15), none, .mv (.tmp 13), 0⟩,
          ⟨(some 5), none, .mv (.tmp 15), 0⟩])
        (.seq (.regD [0, 1, 5, 12, 13] 0 [
          ⟨(some 16), none, .mv (.tmp 0), 0⟩,
          ⟨(some 17), none, .mv (.tmp 5), 0⟩,
          ⟨(some 18), none, .ixA 1 (.tmp 16) (.tmp 17), 0⟩,
          ⟨(some 19), none, .ld1 none (.tmp 18), 0⟩,
          ⟨(some 20), none, .mv (.tmp 1), 0⟩,
          ⟨(some 21), none, .mv (.tmp 5), 0⟩,
          ⟨(some 22), none, .ixA 1 (.tmp 20) (.tmp 21), 0⟩,
          ⟨(some 23), none, .ld1 none (.tmp 22), 0⟩,
          ⟨(some 24), none, .bini .neq (.tmp 19) (.tmp 23), 0⟩])
        (.cond (.tmp 24)
          (.seq (.regN [] [
            ⟨(some 4), none, .mv (.con (.val (.bool false))), 0⟩])
          .ret)
          .skip))))
      (.regN [0, 1, 12, 13] [
        ⟨(some 25), none, .bini .add (.tmp 13) (.con (.val (.int .i64 1))), 0⟩,
        ⟨(some 13), none, .mv (.tmp 25), 0⟩])))))))
  (.seq (.regN [] [
    ⟨(some 4), none, .mv (.con (.val (.bool true))), 0⟩])
  .ret)))),
  [.tmp 4], true⟩
/-- viewport/viewportlaw11.GramNames  -/
def t7 : AFn := ⟨0, (.seq (.regN [] [
    ⟨(some 0), none, .mv (.con (.val (.bool false))), 0⟩])
  (.seq (.seq (.regN [] [
    ⟨(some 12), none, .call 9 [], 0⟩,
    ⟨(some 13), none, .not (.tmp 12), 0⟩])
  (.cond (.tmp 13)
    (.seq (.regN [] [
      ⟨(some 0), none, .mv (.con (.val (.bool false))), 0⟩])
    .ret)
    .skip))
  (.seq (.regN [] [
    ⟨(some 14), none, .call 23 [], 0⟩,
    ⟨(some 1), none, .allocR [(.val (.int .i64 0)), (.val (.int .i64 0)), (.val (.int .i64 0)), .e0], 0⟩,
    ⟨none, none, .st (some 1) 4 (.tmp 1) (.tmp 14), 0⟩])
  (.seq (.regN [1] [
    ⟨(some 16), none, .ldA (some 1) 4 (.tmp 1), 0⟩,
    ⟨(some 17), none, .call 19 [(.tmp 16)], 0⟩,
    ⟨(some 15), none, .mv (.tmp 17), 0⟩,
    ⟨(some 18), none, .ext (.tmp 15) 0, 0⟩,
    ⟨(some 19), none, .ext (.tmp 15) 1, 0⟩,
    ⟨(some 2), none, .mv (.tmp 18), 0⟩,
    ⟨(some 3), none, .mv (.tmp 19), 0⟩])
  (.seq (.regN [1, 3] [
    ⟨(some 20), none, .fldA 1 (.tmp 1), 0⟩,
    ⟨none, none, .st (some 1) 1 (.tmp 20) (.con (.val (.int .i64 4))), 0⟩])
  (.seq (.regN [1, 3] [
    ⟨(some 22), none, .ldA (some 1) 4 (.tmp 1), 0⟩,
    ⟨(some 23), none, .call 19 [(.tmp 22)], 0⟩,
    ⟨(some 21), none, .mv (.tmp 23), 0⟩,
    ⟨(some 24), none, .ext (.tmp 21) 0, 0⟩,
    ⟨(some 25), none, .ext (.tmp 21) 1, 0⟩,
    ⟨(some 4), none, .mv (.tmp 24), 0⟩,
    ⟨(some 5), none, .mv (.tmp 25), 0⟩])
  (.seq (.regN [1, 3, 4, 5] [
    ⟨(some 26), none, .call 1023 [], 0⟩,
    ⟨(some 6), none, .allocR [(.val (.int .i64 0)), (.val (.int .i64 0)), (.val (.int .i64 0)), .e0], 0⟩,
    ⟨none, none, .st (some 6) 4 (.tmp 6) (.tmp 26), 0⟩])
  (.seq (.regN [1, 3, 4, 5, 6] [
    ⟨(some 27), none, .fldA 3 (.tmp 6), 0⟩,
    ⟨(some 28), none, .ld1 (some 6) (.tmp 27), 0⟩,
    ⟨(some 29), none, .buildS 2 [(.val (.int .i64 0)), (.val (.int .i64 0))] [(0, 1, (.con (.val (.int .i64 3)))), (1, 1, (.con (.val (.int .i64 2))))], 0⟩,
    ⟨(some 30), none, .ixA 2 (.tmp 28) (.con (.val (.int .i64 0))), 0⟩,
    ⟨(some 31), none, .fldA 1 (.tmp 30), 0⟩,
    ⟨none, none, .st none 1 (.tmp 31) (.tmp 29), 0⟩])
  (.seq (.regN [1, 3, 4, 5, 6] [
    ⟨(some 33), none, .ldA (some 6) 4 (.tmp 6), 0⟩,
    ⟨(some 34), none, .call 13 [(.tmp 33)], 0⟩,
    ⟨(some 32), none, .mv (.tmp 34), 0⟩,
    ⟨(some 35), none, .ext (.tmp 32) 0, 0⟩,
    ⟨(some 36), none, .ext (.tmp 32) 1, 0⟩,
    ⟨(some 7), none, .mv (.tmp 35), 0⟩,
    ⟨(some 8), none, .mv (.tmp 36), 0⟩])
  (.seq (.regN [1, 3, 4, 5, 6, 7, 8] [
    ⟨(some 37), none, .call 23 [], 0⟩,
    ⟨(some 9), none, .allocR [(.val (.int .i64 0)), (.val (.int .i64 0)), (.val (.int .i64 0)), .e0], 0⟩,
    ⟨none, none, .st (some 9) 4 (.tmp 9) (.tmp 37), 0⟩])
  (.seq (.regN [1, 3, 4, 5, 6, 7, 8, 9] [
    ⟨(some 38), none, .fldA 2 (.tmp 9), 0⟩,
    ⟨none, none, .st (some 9) 1 (.tmp 38) (.con (.val (.int .i64 4))), 0⟩])
  (.seq (.regN [1, 3, 4, 5, 6, 7, 8, 9] [
    ⟨(some 39), none, .call 1023 [], 0⟩,
    ⟨(some 10), none, .allocR [(.val (.int .i64 0)), (.val (.int .i64 0)), (.val (.int .i64 0)), .e0], 0⟩,
    ⟨none, none, .st (some 10) 4 (.tmp 10) (.tmp 39), 0⟩])
  (.seq (.regN [1, 3, 4, 5, 6, 7, 8, 9, 10] [
    ⟨(some 40), none, .fldA 3 (.tmp 10), 0⟩,
    ⟨(some 41), none, .ld1 (some 10) (.tmp 40), 0⟩,
    ⟨(some 42), none, .buildS 1 [(.val (.int .i64 0))] [(0, 1, (.con (.val (.int .i64 4))))], 0⟩,
    ⟨(some 43), none, .ixA 2 (.tmp 41) (.con (.val (.int .i64 2))), 0⟩,
    ⟨(some 44), none, .fldA 1 (.tmp 43), 0⟩,
    ⟨none, none, .st none 1 (.tmp 44) (.tmp 42), 0⟩])
  (.seq (.regN [1, 3, 4, 5, 6, 7, 8, 9, 10] [
    ⟨(some 45), none, .call 23 [], 0⟩,
    ⟨(some 46), none, .call 21 [(.tmp 45)], 0⟩,
    ⟨(some 11), none, .allocR [(.val (.int .i64 0)), (.val (.int .i64 0)), (.val (.int .i64 0)), .e0], 0⟩,
    ⟨none, none, .st (some 11) 4 (.tmp 11) (.tmp 46), 0⟩])
  (.seq (.seq (.regN [1, 3, 4, 5, 6, 7, 8, 9, 10, 11] [
    ⟨(some 47), none, .fldA 3 (.tmp 11), 0⟩,
    ⟨(some 48), none, .ld1 (some 11) (.tmp 47), 0⟩,
    ⟨(some 49), none, .len false (.tmp 48), 0⟩,
    ⟨(some 50), none, .bini .eql (.tmp 49) (.con (.val (.int .i64 0))), 0⟩,
    ⟨(some 51), none, .mv (.tmp 50), 0⟩,
    ⟨(some 52), (some (51, false)), .fldA 3 (.tmp 11), 0⟩,
    ⟨(some 53), (some (51, false)), .ld1 (some 11) (.tmp 52), 0⟩,
    ⟨(some 54), (some (51, false)), .ixA 2 (.tmp 53) (.con (.val (.int .i64 0))), 0⟩,
    ⟨(some 55), (some (51, false)), .fldA 1 (.tmp 54), 0⟩,
    ⟨(some 56), (some (51, false)), .ld1 none (.tmp 55), 0⟩,
    ⟨(some 57), (some (51, false)), .len false (.tmp 56), 0⟩,
    ⟨(some 58), (some (51, false)), .bini .eql (.tmp 57) (.con (.val (.int .i64 0))), 0⟩,
    ⟨(some 59), none, .pick (.tmp 51) (.con (.val (.bool true))) (.tmp 58), 0⟩])
  (.cond (.tmp 59)
    (.seq (.regN [] [
      ⟨(some 0), none, .mv (.con (.val (.bool false))), 0⟩])
    .ret)
    .skip))
  (.seq (.regN [1, 3, 4, 5, 6, 7, 8, 9, 10, 11] [
    ⟨(some 60), none, .fldA 3 (.tmp 11), 0⟩,
    ⟨(some 61), none, .ld1 (some 11) (.tmp 60), 0⟩,
    ⟨(some 62), none, .ixA 2 (.tmp 61) (.con (.val (.int .i64 0))), 0⟩,
    ⟨(some 63), none, .fldA 1 (.tmp 62), 0⟩,
    ⟨(some 64), none, .ld1 none (.tmp 63), 0⟩,
    ⟨(some 65), none, .ixA 1 (.tmp 64) (.con (.val (.int .i64 0))), 0⟩,
    ⟨none, none, .st none 1 (.tmp 65) (.con (.val (.int .i64 1))), 0⟩])
  (.seq (.regD [1, 3, 4, 5, 6, 7, 8, 9, 10, 11] 0 [
    ⟨(some 66), none, .mv (.tmp 3), 0⟩,
    ⟨(some 67), none, .mv (.tmp 66), 0⟩,
    ⟨(some 68), (some (67, true)), .mv (.tmp 4), 0⟩,
    ⟨(some 69), (some (67, true)), .bini .eql (.tmp 68) (.con (.val (.int .i64 2))), 0⟩,
    ⟨(some 70), none, .pick (.tmp 67) (.tmp 69) (.con (.val (.bool false))), 0⟩,
    ⟨(some 71), none, .mv (.tmp 70), 0⟩,
    ⟨(some 72), (some (71, true)), .mv (.tmp 5), 0⟩,
    ⟨(some 73), (some (71, true)), .not (.tmp 72), 0⟩,
    ⟨(some 74), none, .pick (.tmp 71) (.tmp 73) (.con (.val (.bool false))), 0⟩,
    ⟨(some 75), none, .mv (.tmp 74), 0⟩,
    ⟨(some 76), (some (75, true)), .mv (.tmp 7), 0⟩,
    ⟨(some 77), (some (75, true)), .bini .eql (.tmp 76) (.con (.val (.int .i64 0))), 0⟩,
    ⟨(some 78), none, .pick (.tmp 75) (.tmp 77) (.con (.val (.bool false))), 0⟩,
    ⟨(some 79), none, .mv (.tmp 78), 0⟩,
    ⟨(some 80), (some (79, true)), .mv (.tmp 8), 0⟩,
    ⟨(some 81), none, .pick (.tmp 79) (.tmp 80) (.con (.val (.bool false))), 0⟩,
    ⟨(some 82), none, .mv (.tmp 81), 0⟩,
    ⟨(some 83), (some (82, true)), .ldA (some 9) 4 (.tmp 9), 0⟩,
    ⟨(some 84), (some (82, true)), .call 11 [(.tmp 83)], 0⟩,
    ⟨(some 85), (some (82, true)), .bini .eql (.tmp 84) (.con (.val (.int .i64 3))), 0⟩,
    ⟨(some 86), none, .pick (.tmp 82) (.tmp 85) (.con (.val (.bool false))), 0⟩,
    ⟨(some 87), none, .mv (.tmp 86), 0⟩,
    ⟨(some 88), (some (87, true)), .ldA (some 10) 4 (.tmp 10), 0⟩,
    ⟨(some 89), (some (87, true)), .call 11 [(.tmp 88)], 0⟩,
    ⟨(some 90), (some (87, true)), .bini .eql (.tmp 89) (.con (.val (.int .i64 2))), 0⟩,
    ⟨(some 91), none, .pick (.tmp 87) (.tmp 90) (.con (.val (.bool false))), 0⟩,
    ⟨(some 92), none, .mv (.tmp 91), 0⟩,
    ⟨(some 93), (some (92, true)), .build [(.val (.int .i64 0)), (.val (.int .i64 0)), (.val (.int .i64 0)), .e0] [], 0⟩,
    ⟨(some 94), (some (92, true)), .call 11 [(.tmp 93)], 0⟩,
    ⟨(some 95), (some (92, true)), .bini .eql (.tmp 94) (.con (.val (.int .i64 2))), 0⟩,
    ⟨(some 96), none, .pick (.tmp 92) (.tmp 95) (.con (.val (.bool false))), 0⟩,
    ⟨(some 97), none, .mv (.tmp 96), 0⟩,
    ⟨(some 98), (some (97, true)), .call 23 [], 0⟩,
    ⟨(some 99), (some (97, true)), .call 18 [(.tmp 98), (.con (.val (.int .i64 1)))], 0⟩,
    ⟨(some 100), (some (97, true)), .buildS 2 [(.val (.int .i64 0)), (.val (.int .i64 0))] [(0, 1, (.con (.val (.int .i64 1)))), (1, 1, (.con (.val (.int .i64 2))))], 0⟩,
    ⟨(some 101), (some (97, true)), .call 24 [(.tmp 99), (.tmp 100)], 0⟩,
    ⟨(some 102), none, .pick (.tmp 97) (.tmp 101) (.con (.val (.bool false))), 0⟩,
    ⟨(some 103), none, .mv (.tmp 102), 0⟩,
    ⟨(some 104), (some (103, true)), .call 23 [], 0⟩,
    ⟨(some 105), (some (103, true)), .call 18 [(.tmp 104), (.con (.val (.int .i64 7)))], 0⟩,
    ⟨(some 106), (some (103, true)), .len false (.tmp 105), 0⟩,
    ⟨(some 107), (some (103, true)), .bini .eql (.tmp 106) (.con (.val (.int .i64 0))), 0⟩,
    ⟨(some 108), none, .pick (.tmp 103) (.tmp 107) (.con (.val (.bool false))), 0⟩,
    ⟨(some 109), none, .mv (.tmp 108), 0⟩,
    ⟨(some 110), (some (109, true)), .ldA (some 6) 4 (.tmp 6), 0⟩,
    ⟨(some 111), (some (109, true)), .call 16 [(.tmp 110)], 0⟩,
    ⟨(some 112), (some (109, true)), .buildS 2 [(.val (.bool false)), (.val (.bool false))] [(0, 1, (.con (.val (.bool false)))), (1, 1, (.con (.val (.bool true))))], 0⟩,
    ⟨(some 113), (some (109, true)), .call 15 [(.tmp 111), (.tmp 112)], 0⟩,
    ⟨(some 114), none, .pick (.tmp 109) (.tmp 113) (.con (.val (.bool false))), 0⟩,
    ⟨(some 115), none, .mv (.tmp 114), 0⟩,
    ⟨(some 116), (some (115, true)), .ldA (some 1) 4 (.tmp 1), 0⟩,
    ⟨(some 117), (some (115, true)), .call 17 [(.tmp 116)], 0⟩,
    ⟨(some 118), (some (115, true)), .buildS 4 [(.val (.bool false)), (.val (.bool false)), (.val (.bool false)), (.val (.bool false))] [(0, 1, (.con (.val (.bool true)))), (1, 1, (.con (.val (.bool true)))), (2, 1, (.con (.val (.bool false)))), (3, 1, (.con (.val (.bool false))))], 0⟩,
    ⟨(some 119), (some (115, true)), .call 15 [(.tmp 117), (.tmp 118)], 0⟩,
    ⟨(some 120), none, .pick (.tmp 115) (.tmp 119) (.con (.val (.bool false))), 0⟩,
    ⟨(some 121), none, .mv (.tmp 120), 0⟩,
    ⟨(some 122), (some (121, true)), .call 23 [], 0⟩,
    ⟨(some 123), (some (121, true)), .call 23 [], 0⟩,
    ⟨(some 124), (some (121, true)), .call 22 [(.tmp 122), (.tmp 123)], 0⟩,
    ⟨(some 125), none, .pick (.tmp 121) (.tmp 124) (.con (.val (.bool false))), 0⟩,
    ⟨(some 126), none, .mv (.tmp 125), 0⟩,
    ⟨(some 127), (some (126, true)), .ldA (some 11) 4 (.tmp 11), 0⟩,
    ⟨(some 128), (some (126, true)), .call 23 [], 0⟩,
    ⟨(some 129), (some (126, true)), .call 22 [(.tmp 127), (.tmp 128)], 0⟩,
    ⟨(some 130), (some (126, true)), .not (.tmp 129), 0⟩,
    ⟨(some 131), none, .pick (.tmp 126) (.tmp 130) (.con (.val (.bool false))), 0⟩,
    ⟨(some 132), none, .mv (.tmp 131), 0⟩,
    ⟨(some 133), (some (132, true)), .ldA (some 10) 4 (.tmp 10), 0⟩,
    ⟨(some 134), (some (132, true)), .call 12 [(.tmp 133)], 0⟩,
    ⟨(some 135), (some (132, true)), .len false (.tmp 134), 0⟩,
    ⟨(some 136), (some (132, true)), .bini .eql (.tmp 135) (.con (.val (.int .i64 0))), 0⟩,
    ⟨(some 137), none, .pick (.tmp 132) (.tmp 136) (.con (.val (.bool false))), 0⟩,
    ⟨(some 0), none, .mv (.tmp 137), 0⟩])
  .ret))))))))))))))))),
  [.tmp 0], true⟩
/-- viewport/viewportlaw11.example  -/
def t1023 : AFn := ⟨0, (.seq (.regN [] [
    ⟨(some 0), none, .allocR [(.val (.int .i64 0)), (.val (.int .i64 0)), (.val (.int .i64 0)), .e0], 0⟩])
  (.seq (.regN [0] [
    ⟨(some 1), none, .buildS 2 [(.val (.int .i64 0)), (.val (.int .i64 0))] [(0, 1, (.con (.val (.int .i64 3)))), (1, 1, (.con (.val (.int .i64 0))))], 0⟩,
    ⟨(some 2), none, .build [(.val (.int .i64 0)), .e0] [(0, 1, (.con (.val (.int .i64 0)))), (1, 1, (.tmp 1))], 0⟩,
    ⟨(some 3), none, .build [(.val (.int .i64 0)), .e0] [(0, 1, (.con (.val (.int .i64 1))))], 0⟩,
    ⟨(some 4), none, .buildS 2 [(.val (.int .i64 0)), (.val (.int .i64 0))] [(0, 1, (.con (.val (.int .i64 1)))), (1, 1, (.con (.val (.int .i64 3))))], 0⟩,
    ⟨(some 5), none, .build [(.val (.int .i64 0)), .e0] [(0, 1, (.con (.val (.int .i64 1)))), (1, 1, (.tmp 4))], 0⟩,
    ⟨(some 6), none, .buildH 3 2 [(.val (.int .i64 0)), .e0, (.val (.int .i64 0)), .e0, (.val (.int .i64 0)), .e0] [(0, 2, (.tmp 2)), (2, 2, (.tmp 3)), (4, 2, (.tmp 5))], 0⟩,
    ⟨(some 7), none, .build [(.val (.int .i64 0)), (.val (.int .i64 0)), (.val (.int .i64 0)), .e0] [(0, 1, (.con (.val (.int .i64 2)))), (1, 1, (.con (.val (.int .i64 2)))), (2, 1, (.con (.val (.int .i64 1)))), (3, 1, (.tmp 6))], 0⟩,
    ⟨none, none, .st (some 0) 4 (.tmp 0) (.tmp 7), 0⟩])
  .ret)),
  [.cell 0 4 true], false⟩
/-- viewport/viewportkit.Same[int]  -/
def t24 : AFn := ⟨2, (.seq (.regN [0, 1] [
    ⟨(some 4), none, .mv (.con (.val (.bool false))), 0⟩])
  (.seq (.seq (.regN [0, 1] [
    ⟨(some 6), none, .mv (.tmp 0), 0⟩,
    ⟨(some 7), none, .len false (.tmp 6), 0⟩,
    ⟨(some 8), none, .mv (.tmp 1), 0⟩,
    ⟨(some 9), none, .len false (.tmp 8), 0⟩,
    ⟨(some 10), none, .bini .neq (.tmp 7) (.tmp 9), 0⟩])
  (.cond (.tmp 10)
    (.seq (.regN [] [
      ⟨(some 4), none, .mv (.con (.val (.bool false))), 0⟩])
    .ret)
    .skip))
  (.seq (.seq (.regN [0, 1] [
    ⟨(some 5), none, .mv (.con (.val (.int .i64 0))), 0⟩])
  (.block 0
    (.loop [0, 1, 5]
      (.seq (.seq (.regN [0, 1, 5] [
        ⟨(some 11), none, .mv (.tmp 5), 0⟩,
        ⟨(some 12), none, .mv (.tmp 0), 0⟩,
        ⟨(some 13), none, .len false (.tmp 12), 0⟩,
        ⟨(some 14), none, .bini .lss (.tmp 11) (.tmp 13), 0⟩])
      (.cond (.tmp 14)
        .skip
        (.exit 0)))
      (.seq (.block 1
        (.seq (.regD [0, 1, 5] 0 [
          ⟨(some 17), none, .mv (.tmp 0), 0⟩,
          ⟨(some 18), none, .mv (.tmp 5), 0⟩,
          ⟨(some 19), none, .ixA 1 (.tmp 17) (.tmp 18), 0⟩,
          ⟨(some 20), none, .ld1 none (.tmp 19), 0⟩,
          ⟨(some 21), none, .mv (.tmp 1), 0⟩,
          ⟨(some 22), none, .mv (.tmp 5), 0⟩,
          ⟨(some 23), none, .ixA 1 (.tmp 21) (.tmp 22), 0⟩,
          ⟨(some 24), none, .ld1 none (.tmp 23), 0⟩,
          ⟨(some 25), none, .bini .neq (.tmp 20) (.tmp 24), 0⟩])
        (.cond (.tmp 25)
          (.seq (.regN [] [
            ⟨(some 4), none, .mv (.con (.val (.bool false))), 0⟩])
          .ret)
          .skip)))
      (.regN [0, 1, 5] [
        ⟨(some 15), none, .mv (.tmp 5), 0⟩,
        ⟨(some 16), none, .bini .add (.tmp 15) (.con (.val (.int .i64 1))), 0⟩,
        ⟨(some 5), none, .mv (.tmp 16), 0⟩]))))))
  (.seq (.regN [] [
    ⟨(some 4), none, .mv (.con (.val (.bool true))), 0⟩])
  .ret)))),
  [.tmp 4], true⟩
/-- viewport/viewportlaw11.GramCalls  -/
def t8 : AFn := ⟨3, (.seq (.regN [0, 1, 2] [
    ⟨(some 3), none, .boxR 4 (.tmp 0), 0⟩,
    ⟨(some 4), none, .boxR 4 (.tmp 1), 0⟩,
    ⟨(some 6), none, .mv (.con (.val (.bool false))), 0⟩])
  (.seq (.seq (.regN [2, 3, 4] [
    ⟨(some 15), none, .call 9 [], 0⟩,
    ⟨(some 16), none, .not (.tmp 15), 0⟩])
  (.cond (.tmp 16)
    (.seq (.regN [] [
      ⟨(some 6), none, .mv (.con (.val (.bool false))), 0⟩])
    .ret)
    .skip))
  (.seq (.seq (.regN [2, 3, 4] [
    ⟨(some 17), none, .ldA (some 3) 4 (.tmp 3), 0⟩,
    ⟨(some 18), none, .call 10 [(.tmp 17)], 0⟩,
    ⟨(some 19), none, .not (.tmp 18), 0⟩,
    ⟨(some 20), none, .mv (.tmp 19), 0⟩,
    ⟨(some 21), (some (20, false)), .ldA (some 4) 4 (.tmp 4), 0⟩,
    ⟨(some 22), (some (20, false)), .call 10 [(.tmp 21)], 0⟩,
    ⟨(some 23), (some (20, false)), .not (.tmp 22), 0⟩,
    ⟨(some 24), none, .pick (.tmp 20) (.con (.val (.bool true))) (.tmp 23), 0⟩])
  (.cond (.tmp 24)
    (.seq (.regN [] [
      ⟨(some 6), none, .mv (.con (.val (.bool true))), 0⟩])
    .ret)
    .skip))
  (.seq (.regN [2, 3, 4] [
    ⟨(some 26), none, .ldA (some 3) 4 (.tmp 3), 0⟩,
    ⟨(some 27), none, .call 19 [(.tmp 26)], 0⟩,
    ⟨(some 25), none, .mv (.tmp 27), 0⟩,
    ⟨(some 28), none, .ext (.tmp 25) 0, 0⟩,
    ⟨(some 29), none, .ext (.tmp 25) 1, 0⟩,
    ⟨(some 7), none, .mv (.tmp 28), 0⟩,
    ⟨(some 8), none, .mv (.tmp 29), 0⟩])
  (.seq (.regN [2, 3, 4, 7, 8] [
    ⟨(some 31), none, .ldA (some 3) 4 (.tmp 3), 0⟩,
    ⟨(some 32), none, .call 25 [(.tmp 31)], 0⟩,
    ⟨(some 30), none, .mv (.tmp 32), 0⟩,
    ⟨(some 33), none, .ext (.tmp 30) 0, 0⟩,
    ⟨(some 34), none, .ext (.tmp 30) 1, 0⟩,
    ⟨(some 9), none, .mv (.tmp 33), 0⟩,
    ⟨(some 10), none, .mv (.tmp 34), 0⟩])
  (.seq (.regN [2, 3, 4, 7, 8, 9, 10] [
    ⟨(some 36), none, .ldA (some 3) 4 (.tmp 3), 0⟩,
    ⟨(some 37), none, .call 13 [(.tmp 36)], 0⟩,
    ⟨(some 35), none, .mv (.tmp 37), 0⟩,
    ⟨(some 38), none, .ext (.tmp 35) 0, 0⟩,
    ⟨(some 39), none, .ext (.tmp 35) 1, 0⟩,
    ⟨(some 11), none, .mv (.tmp 38), 0⟩,
    ⟨(some 12), none, .mv (.tmp 39), 0⟩])
  (.seq (.regN [2, 3, 4, 7, 8, 9, 10, 11, 12] [
    ⟨(some 41), none, .ldA (some 3) 4 (.tmp 3), 0⟩,
    ⟨(some 42), none, .call 26 [(.tmp 41)], 0⟩,
    ⟨(some 40), none, .mv (.tmp 42), 0⟩,
    ⟨(some 43), none, .ext (.tmp 40) 0, 0⟩,
    ⟨(some 44), none, .ext (.tmp 40) 1, 0⟩,
    ⟨(some 13), none, .mv (.tmp 43), 0⟩,
    ⟨(some 14), none, .mv (.tmp 44), 0⟩])
  (.seq (.regD [2, 3, 4, 7, 8, 9, 10, 11, 12, 13, 14] 0 [
    ⟨(some 45), none, .mv (.tmp 7), 0⟩,
    ⟨(some 46), none, .mv (.tmp 9), 0⟩,
    ⟨(some 47), none, .bini .eql (.tmp 45) (.tmp 46), 0⟩,
    ⟨(some 48), none, .mv (.tmp 47), 0⟩,
    ⟨(some 49), (some (48, true)), .mv (.tmp 8), 0⟩,
    ⟨(some 50), (some (48, true)), .mv (.tmp 10), 0⟩,
    ⟨(some 51), (some (48, true)), .eqb false (.tmp 49) (.tmp 50), 0⟩,
    ⟨(some 52), none, .pick (.tmp 48) (.tmp 51) (.con (.val (.bool false))), 0⟩,
    ⟨(some 53), none, .mv (.tmp 52), 0⟩,
    ⟨(some 54), (some (53, true)), .mv (.tmp 11), 0⟩,
    ⟨(some 55), (some (53, true)), .mv (.tmp 13), 0⟩,
    ⟨(some 56), (some (53, true)), .bini .eql (.tmp 54) (.tmp 55), 0⟩,
    ⟨(some 57), none, .pick (.tmp 53) (.tmp 56) (.con (.val (.bool false))), 0⟩,
    ⟨(some 58), none, .mv (.tmp 57), 0⟩,
    ⟨(some 59), (some (58, true)), .mv (.tmp 12), 0⟩,
    ⟨(some 60), (some (58, true)), .mv (.tmp 14), 0⟩,
    ⟨(some 61), (some (58, true)), .eqb false (.tmp 59) (.tmp 60), 0⟩,
    ⟨(some 62), none, .pick (.tmp 58) (.tmp 61) (.con (.val (.bool false))), 0⟩,
    ⟨(some 63), none, .mv (.tmp 62), 0⟩,
    ⟨(some 64), (some (63, true)), .ldA (some 3) 4 (.tmp 3), 0⟩,
    ⟨(some 65), (some (63, true)), .call 11 [(.tmp 64)], 0⟩,
    ⟨(some 66), (some (63, true)), .ldA (some 3) 4 (.tmp 3), 0⟩,
    ⟨(some 67), (some (63, true)), .call 27 [(.tmp 66)], 0⟩,
    ⟨(some 68), (some (63, true)), .bini .eql (.tmp 65) (.tmp 67), 0⟩,
    ⟨(some 69), none, .pick (.tmp 63) (.tmp 68) (.con (.val (.bool false))), 0⟩,
    ⟨(some 70), none, .mv (.tmp 69), 0⟩,
    ⟨(some 71), (some (70, true)), .ldA (some 3) 4 (.tmp 3), 0⟩,
    ⟨(some 72), (some (70, true)), .mv (.tmp 2), 0⟩,
    ⟨(some 73), (some (70, true)), .call 18 [(.tmp 71), (.tmp 72)], 0⟩,
    ⟨(some 74), (some (70, true)), .ldA (some 3) 4 (.tmp 3), 0⟩,
    ⟨(some 75), (some (70, true)), .mv (.tmp 2), 0⟩,
    ⟨(some 76), (some (70, true)), .call 28 [(.tmp 74), (.tmp 75)], 0⟩,
    ⟨(some 77), (some (70, true)), .call 24 [(.tmp 73), (.tmp 76)], 0⟩,
    ⟨(some 78), none, .pick (.tmp 70) (.tmp 77) (.con (.val (.bool false))), 0⟩,
    ⟨(some 79), none, .mv (.tmp 78), 0⟩,
    ⟨(some 80), (some (79, true)), .ldA (some 3) 4 (.tmp 3), 0⟩,
    ⟨(some 81), (some (79, true)), .call 12 [(.tmp 80)], 0⟩,
    ⟨(some 82), (some (79, true)), .ldA (some 3) 4 (.tmp 3), 0⟩,
    ⟨(some 83), (some (79, true)), .call 29 [(.tmp 82)], 0⟩,
    ⟨(some 84), (some (79, true)), .call 15 [(.tmp 81), (.tmp 83)], 0⟩,
    ⟨(some 85), none, .pick (.tmp 79) (.tmp 84) (.con (.val (.bool false))), 0⟩,
    ⟨(some 86), none, .mv (.tmp 85), 0⟩,
    ⟨(some 87), (some (86, true)), .ldA (some 3) 4 (.tmp 3), 0⟩,
    ⟨(some 88), (some (86, true)), .call 16 [(.tmp 87)], 0⟩,
    ⟨(some 89), (some (86, true)), .ldA (some 3) 4 (.tmp 3), 0⟩,
    ⟨(some 90), (some (86, true)), .call 30 [(.tmp 89)], 0⟩,
    ⟨(some 91), (some (86, true)), .call 15 [(.tmp 88), (.tmp 90)], 0⟩,
    ⟨(some 92), none, .pick (.tmp 86) (.tmp 91) (.con (.val (.bool false))), 0⟩,
    ⟨(some 93), none, .mv (.tmp 92), 0⟩,
    ⟨(some 94), (some (93, true)), .ldA (some 3) 4 (.tmp 3), 0⟩,
    ⟨(some 95), (some (93, true)), .call 17 [(.tmp 94)], 0⟩,
    ⟨(some 96), (some (93, true)), .ldA (some 3) 4 (.tmp 3), 0⟩,
    ⟨(some 97), (some (93, true)), .call 31 [(.tmp 96)], 0⟩,
    ⟨(some 98), (some (93, true)), .call 15 [(.tmp 95), (.tmp 97)], 0⟩,
    ⟨(some 99), none, .pick (.tmp 93) (.tmp 98) (.con (.val (.bool false))), 0⟩,
    ⟨(some 100), none, .mv (.tmp 99), 0⟩,
    ⟨(some 101), (some (100, true)), .ldA (some 3) 4 (.tmp 3), 0⟩,
    ⟨(some 102), (some (100, true)), .ldA (some 4) 4 (.tmp 4), 0⟩,
    ⟨(some 103), (some (100, true)), .call 22 [(.tmp 101), (.tmp 102)], 0⟩,
    ⟨(some 104), (some (100, true)), .ldA (some 3) 4 (.tmp 3), 0⟩,
    ⟨(some 105), (some (100, true)), .ldA (some 4) 4 (.tmp 4), 0⟩,
    ⟨(some 106), (some (100, true)), .call 32 [(.tmp 104), (.tmp 105)], 0⟩,
    ⟨(some 107), (some (100, true)), .eqb false (.tmp 103) (.tmp 106), 0⟩,
    ⟨(some 108), none, .pick (.tmp 100) (.tmp 107) (.con (.val (.bool false))), 0⟩,
    ⟨(some 109), none, .mv (.tmp 108), 0⟩,
    ⟨(some 110), (some (109, true)), .ldA (some 3) 4 (.tmp 3), 0⟩,
    ⟨(some 111), (some (109, true)), .call 21 [(.tmp 110)], 0⟩,
    ⟨(some 112), (some (109, true)), .ldA (some 3) 4 (.tmp 3), 0⟩,
    ⟨(some 113), (some (109, true)), .call 32 [(.tmp 111), (.tmp 112)], 0⟩,
    ⟨(some 114), none, .pick (.tmp 109) (.tmp 113) (.con (.val (.bool false))), 0⟩,
    ⟨(some 6), none, .mv (.tmp 114), 0⟩])
  .ret)))))))),
  [.tmp 6], true⟩
/-- viewport/viewportref11.Reduced  -/
def t25 : AFn := ⟨1, (.seq (.regN [0] [
    ⟨(some 1), none, .boxR 4 (.tmp 0), 0⟩,
    ⟨(some 2), none, .mv (.con (.val (.int .i64 0))), 0⟩,
    ⟨(some 3), none, .mv (.con (.val (.bool false))), 0⟩])
  (.seq (.seq (.regN [1] [
    ⟨(some 7), none, .ldA (some 1) 4 (.tmp 1), 0⟩,
    ⟨(some 8), none, .call 27 [(.tmp 7)], 0⟩,
    ⟨(some 9), none, .bini .neq (.tmp 8) (.con (.val (.int .i64 0))), 0⟩])
  (.cond (.tmp 9)
    (.seq (.regN [] [
      ⟨(some 2), none, .mv (.con (.val (.int .i64 0))), 0⟩,
      ⟨(some 3), none, .mv (.con (.val (.bool false))), 0⟩])
    .ret)
    .skip))
  (.seq (.regD [1] 0 [
    ⟨(some 10), none, .ldA (some 1) 4 (.tmp 1), 0⟩,
    ⟨(some 11), none, .call 30 [(.tmp 10)], 0⟩,
    ⟨(some 12), none, .ldA (some 1) 4 (.tmp 1), 0⟩,
    ⟨(some 13), none, .call 31 [(.tmp 12)], 0⟩,
    ⟨(some 4), none, .mv (.tmp 11), 0⟩,
    ⟨(some 5), none, .mv (.tmp 13), 0⟩])
  (.seq (.seq (.regN [1, 4, 5] [
    ⟨(some 6), none, .mv (.con (.val (.int .i64 0))), 0⟩])
  (.block 0
    (.loop [1, 4, 5, 6]
      (.seq (.seq (.regN [1, 4, 5, 6] [
        ⟨(some 14), none, .mv (.tmp 6), 0⟩,
        ⟨(some 15), none, .fldA 1 (.tmp 1), 0⟩,
        ⟨(some 16), none, .ld1 (some 1) (.tmp 15), 0⟩,
        ⟨(some 17), none, .bini .lss (.tmp 14) (.tmp 16), 0⟩])
      (.cond (.tmp 17)
        .skip
        (.exit 0)))
      (.seq (.block 1
        (.seq (.regN [1, 4, 5, 6] [
          ⟨(some 20), none, .mv (.tmp 4), 0⟩,
          ⟨(some 21), none, .mv (.tmp 6), 0⟩,
          ⟨(some 22), none, .ixA 1 (.tmp 20) (.tmp 21), 0⟩,
          ⟨(some 23), none, .ld1 none (.tmp 22), 0⟩,
          ⟨(some 24), none, .not (.tmp 23), 0⟩,
          ⟨(some 25), none, .mv (.tmp 24), 0⟩,
          ⟨(some 26), (some (25, false)), .mv (.tmp 5), 0⟩,
          ⟨(some 27), (some (25, false)), .mv (.tmp 6), 0⟩,
          ⟨(some 28), (some (25, false)), .ixA 1 (.tmp 26) (.tmp 27), 0⟩,
          ⟨(some 29), (some (25, false)), .ld1 none (.tmp 28), 0⟩,
          ⟨(some 30), (some (25, false)), .not (.tmp 29), 0⟩,
          ⟨(some 31), none, .pick (.tmp 25) (.con (.val (.bool true))) (.tmp 30), 0⟩])
        (.cond (.tmp 31)
          (.seq (.regN [6] [
            ⟨(some 32), none, .mv (.tmp 6), 0⟩,
            ⟨(some 2), none, .mv (.tmp 32), 0⟩,
            ⟨(some 3), none, .mv (.con (.val (.bool false))), 0⟩])
          .ret)
          .skip)))
      (.regN [1, 4, 5, 6] [
        ⟨(some 18), none, .mv (.tmp 6), 0⟩,
        ⟨(some 19), none, .bini .add (.tmp 18) (.con (.val (.int .i64 1))), 0⟩,
        ⟨(some 6), none, .mv (.tmp 19), 0⟩]))))))
  (.seq (.regN [] [
    ⟨(some 2), none, .mv (.con (.val (.int .i64 0))), 0⟩,
    ⟨(some 3), none, .mv (.con (.val (.bool true))), 0⟩])
  .ret))))),
  [.tmp 2, .tmp 3], true⟩
/-- viewport/viewportref11.Check  -/
def t27 : AFn := ⟨1, (.seq (.regN [0] [
    ⟨(some 1), none, .boxR 4 (.tmp 0), 0⟩,
    ⟨(some 2), none, .mv (.con (.val (.int .i64 0))), 0⟩])
  (.seq (.seq (.regN [1] [
    ⟨(some 7), none, .fldA 0 (.tmp 1), 0⟩,
    ⟨(some 8), none, .ld1 (some 1) (.tmp 7), 0⟩,
    ⟨(some 9), none, .bini .gtr (.tmp 8) (.con (.val (.int .i64 8))), 0⟩,
    ⟨(some 10), none, .mv (.tmp 9), 0⟩,
    ⟨(some 11), (some (10, false)), .fldA 1 (.tmp 1), 0⟩,
    ⟨(some 12), (some (10, false)), .ld1 (some 1) (.tmp 11), 0⟩,
    ⟨(some 13), (some (10, false)), .bini .gtr (.tmp 12) (.con (.val (.int .i64 16))), 0⟩,
    ⟨(some 14), none, .pick (.tmp 10) (.con (.val (.bool true))) (.tmp 13), 0⟩,
    ⟨(some 15), none, .mv (.tmp 14), 0⟩,
    ⟨(some 16), (some (15, false)), .fldA 2 (.tmp 1), 0⟩,
    ⟨(some 17), (some (15, false)), .ld1 (some 1) (.tmp 16), 0⟩,
    ⟨(some 18), (some (15, false)), .bini .gtr (.tmp 17) (.con (.val (.int .i64 3))), 0⟩,
    ⟨(some 19), none, .pick (.tmp 15) (.con (.val (.bool true))) (.tmp 18), 0⟩,
    ⟨(some 20), none, .mv (.tmp 19), 0⟩,
    ⟨(some 21), (some (20, false)), .fldA 3 (.tmp 1), 0⟩,
    ⟨(some 22), (some (20, false)), .ld1 (some 1) (.tmp 21), 0⟩,
    ⟨(some 23), (some (20, false)), .len false (.tmp 22), 0⟩,
    ⟨(some 24), (some (20, false)), .bini .gtr (.tmp 23) (.con (.val (.int .i64 64))), 0⟩,
    ⟨(some 25), none, .pick (.tmp 20) (.con (.val (.bool true))) (.tmp 24), 0⟩])
  (.cond (.tmp 25)
    (.seq (.regN [] [
      ⟨(some 2), none, .mv (.con (.val (.int .i64 3))), 0⟩])
    .ret)
    .skip))
  (.seq (.seq (.regN [1] [
    ⟨(some 3), none, .mv (.con (.val (.int .i64 0))), 0⟩])
  (.block 0
    (.loop [1, 3]
      (.seq (.seq (.regN [1, 3] [
        ⟨(some 26), none, .mv (.tmp 3), 0⟩,
        ⟨(some 27), none, .fldA 3 (.tmp 1), 0⟩,
        ⟨(some 28), none, .ld1 (some 1) (.tmp 27), 0⟩,
        ⟨(some 29), none, .len false (.tmp 28), 0⟩,
        ⟨(some 30), none, .bini .lss (.tmp 26) (.tmp 29), 0⟩])
      (.cond (.tmp 30)
        .skip
        (.exit 0)))
      (.seq (.block 1
        (.seq (.regN [1, 3] [
          ⟨(some 33), none, .fldA 3 (.tmp 1), 0⟩,
          ⟨(some 34), none, .ld1 (some 1) (.tmp 33), 0⟩,
          ⟨(some 35), none, .mv (.tmp 3), 0⟩,
          ⟨(some 36), none, .ixA 2 (.tmp 34) (.tmp 35), 0⟩,
          ⟨(some 37), none, .fldA 1 (.tmp 36), 0⟩,
          ⟨(some 38), none, .ld1 none (.tmp 37), 0⟩,
          ⟨(some 39), none, .len false (.tmp 38), 0⟩,
          ⟨(some 40), none, .bini .gtr (.tmp 39) (.con (.val (.int .i64 8))), 0⟩])
        (.cond (.tmp 40)
          (.seq (.regN [] [
            ⟨(some 2), none, .mv (.con (.val (.int .i64 3))), 0⟩])
          .ret)
          .skip)))
      (.regN [1, 3] [
        ⟨(some 31), none, .mv (.tmp 3), 0⟩,
        ⟨(some 32), none, .bini .add (.tmp 31) (.con (.val (.int .i64 1))), 0⟩,
        ⟨(some 3), none, .mv (.tmp 32), 0⟩]))))))
  (.seq (.seq (.regN [1] [
    ⟨(some 41), none, .fldA 0 (.tmp 1), 0⟩,
    ⟨(some 42), none, .ld1 (some 1) (.tmp 41), 0⟩,
    ⟨(some 43), none, .bini .lss (.tmp 42) (.con (.val (.int .i64 1))), 0⟩,
    ⟨(some 44), none, .mv (.tmp 43), 0⟩,
    ⟨(some 45), (some (44, false)), .fldA 1 (.tmp 1), 0⟩,
    ⟨(some 46), (some (44, false)), .ld1 (some 1) (.tmp 45), 0⟩,
    ⟨(some 47), (some (44, false)), .bini .lss (.tmp 46) (.con (.val (.int .i64 1))), 0⟩,
    ⟨(some 48), none, .pick (.tmp 44) (.con (.val (.bool true))) (.tmp 47), 0⟩,
    ⟨(some 49), none, .mv (.tmp 48), 0⟩,
    ⟨(some 50), (some (49, false)), .fldA 2 (.tmp 1), 0⟩,
    ⟨(some 51), (some (49, false)), .ld1 (some 1) (.tmp 50), 0⟩,
    ⟨(some 52), (some (49, false)), .bini .lss (.tmp 51) (.con (.val (.int .i64 1))), 0⟩,
    ⟨(some 53), none, .pick (.tmp 49) (.con (.val (.bool true))) (.tmp 52), 0⟩,
    ⟨(some 54), none, .mv (.tmp 53), 0⟩,
    ⟨(some 55), (some (54, false)), .fldA 3 (.tmp 1), 0⟩,
    ⟨(some 56), (some (54, false)), .ld1 (some 1) (.tmp 55), 0⟩,
    ⟨(some 57), (some (54, false)), .len false (.tmp 56), 0⟩,
    ⟨(some 58), (some (54, false)), .bini .lss (.tmp 57) (.con (.val (.int .i64 1))), 0⟩,
    ⟨(some 59), none, .pick (.tmp 54) (.con (.val (.bool true))) (.tmp 58), 0⟩])
  (.cond (.tmp 59)
    (.seq (.regN [] [
      ⟨(some 2), none, .mv (.con (.val (.int .i64 2))), 0⟩])
    .ret)
    .skip))
  (.seq (.seq (.regN [1] [
    ⟨(some 4), none, .mv (.con (.val (.int .i64 0))), 0⟩])
  (.block 2
    (.loop [1, 4]
      (.seq (.seq (.regN [1, 4] [
        ⟨(some 60), none, .mv (.tmp 4), 0⟩,
        ⟨(some 61), none, .fldA 3 (.tmp 1), 0⟩,
        ⟨(some 62), none, .ld1 (some 1) (.tmp 61), 0⟩,
        ⟨(some 63), none, .len false (.tmp 62), 0⟩,
        ⟨(some 64), none, .bini .lss (.tmp 60) (.tmp 63), 0⟩])
      (.cond (.tmp 64)
        .skip
        (.exit 2)))
      (.seq (.block 3
        (.seq (.regN [1, 4] [
          ⟨(some 67), none, .fldA 3 (.tmp 1), 0⟩,
          ⟨(some 68), none, .ld1 (some 1) (.tmp 67), 0⟩,
          ⟨(some 69), none, .mv (.tmp 4), 0⟩,
          ⟨(some 70), none, .ixA 2 (.tmp 68) (.tmp 69), 0⟩,
          ⟨(some 71), none, .ldA none 2 (.tmp 70), 0⟩,
          ⟨(some 5), none, .allocR [(.val (.int .i64 0)), .e0], 0⟩,
          ⟨none, none, .st (some 5) 2 (.tmp 5) (.tmp 71), 0⟩])
        (.seq (.seq (.regN [1, 4, 5] [
          ⟨(some 72), none, .fldA 0 (.tmp 5), 0⟩,
          ⟨(some 73), none, .ld1 (some 5) (.tmp 72), 0⟩,
          ⟨(some 74), none, .bini .lss (.tmp 73) (.con (.val (.int .i64 0))), 0⟩,
          ⟨(some 75), none, .mv (.tmp 74), 0⟩,
          ⟨(some 76), (some (75, false)), .fldA 0 (.tmp 5), 0⟩,
          ⟨(some 77), (some (75, false)), .ld1 (some 5) (.tmp 76), 0⟩,
          ⟨(some 78), (some (75, false)), .fldA 1 (.tmp 1), 0⟩,
          ⟨(some 79), (some (75, false)), .ld1 (some 1) (.tmp 78), 0⟩,
          ⟨(some 80), (some (75, false)), .bini .geq (.tmp 77) (.tmp 79), 0⟩,
          ⟨(some 81), none, .pick (.tmp 75) (.con (.val (.bool true))) (.tmp 80), 0⟩])
        (.cond (.tmp 81)
          (.seq (.regN [] [
            ⟨(some 2), none, .mv (.con (.val (.int .i64 2))), 0⟩])
          .ret)
          .skip))
        (.seq (.regN [1, 4, 5] [
          ⟨(some 6), none, .mv (.con (.val (.int .i64 0))), 0⟩])
        (.block 4
          (.loop [1, 4, 5, 6]
            (.seq (.seq (.regN [1, 4, 5, 6] [
              ⟨(some 82), none, .mv (.tmp 6), 0⟩,
              ⟨(some 83), none, .fldA 1 (.tmp 5), 0⟩,
              ⟨(some 84), none, .ld1 (some 5) (.tmp 83), 0⟩,
              ⟨(some 85), none, .len false (.tmp 84), 0⟩,
              ⟨(some 86), none, .bini .lss (.tmp 82) (.tmp 85), 0⟩])
            (.cond (.tmp 86)
              .skip
              (.exit 4)))
            (.seq (.block 5
              (.seq (.regD [1, 4, 5, 6] 0 [
                ⟨(some 89), none, .fldA 1 (.tmp 5), 0⟩,
                ⟨(some 90), none, .ld1 (some 5) (.tmp 89), 0⟩,
                ⟨(some 91), none, .mv (.tmp 6), 0⟩,
                ⟨(some 92), none, .ixA 1 (.tmp 90) (.tmp 91), 0⟩,
                ⟨(some 93), none, .ld1 none (.tmp 92), 0⟩,
                ⟨(some 94), none, .bini .lss (.tmp 93) (.con (.val (.int .i64 0))), 0⟩,
                ⟨(some 95), none, .mv (.tmp 94), 0⟩,
                ⟨(some 96), (some (95, false)), .fldA 1 (.tmp 5), 0⟩,
                ⟨(some 97), (some (95, false)), .ld1 (some 5) (.tmp 96), 0⟩,
                ⟨(some 98), (some (95, false)), .mv (.tmp 6), 0⟩,
                ⟨(some 99), (some (95, false)), .ixA 1 (.tmp 97) (.tmp 98), 0⟩,
                ⟨(some 100), (some (95, false)), .ld1 none (.tmp 99), 0⟩,
                ⟨(some 101), (some (95, false)), .fldA 0 (.tmp 1), 0⟩,
                ⟨(some 102), (some (95, false)), .ld1 (some 1) (.tmp 101), 0⟩,
                ⟨(some 103), (some (95, false)), .fldA 1 (.tmp 1), 0⟩,
                ⟨(some 104), (some (95, false)), .ld1 (some 1) (.tmp 103), 0⟩,
                ⟨(some 105), (some (95, false)), .bini .add (.tmp 102) (.tmp 104), 0⟩,
                ⟨(some 106), (some (95, false)), .bini .geq (.tmp 100) (.tmp 105), 0⟩,
                ⟨(some 107), none, .pick (.tmp 95) (.con (.val (.bool true))) (.tmp 106), 0⟩])
              (.cond (.tmp 107)
                (.seq (.regN [] [
                  ⟨(some 2), none, .mv (.con (.val (.int .i64 2))), 0⟩])
                .ret)
                .skip)))
            (.regN [1, 4, 5, 6] [
              ⟨(some 87), none, .mv (.tmp 6), 0⟩,
              ⟨(some 88), none, .bini .add (.tmp 87) (.con (.val (.int .i64 1))), 0⟩,
              ⟨(some 6), none, .mv (.tmp 88), 0⟩])))))))))
      (.regN [1, 4] [
        ⟨(some 65), none, .mv (.tmp 4), 0⟩,
        ⟨(some 66), none, .bini .add (.tmp 65) (.con (.val (.int .i64 1))), 0⟩,
        ⟨(some 4), none, .mv (.tmp 66), 0⟩]))))))
  (.seq (.regN [] [
    ⟨(some 2), none, .mv (.con (.val (.int .i64 0))), 0⟩])
  .ret)))))),
  [.tmp 2], true⟩
/-- viewport/viewportref11.Productive  -/
def t30 : AFn := ⟨1, (.seq (.regN [0] [
    ⟨(some 1), none, .boxR 4 (.tmp 0), 0⟩,
    ⟨(some 2), none, .mv (.con .e0), 0⟩])
  (.seq (.regN [1] [
    ⟨(some 3), none, .ldA (some 1) 4 (.tmp 1), 0⟩,
    ⟨(some 4), none, .call 49 [(.tmp 3), (.con (.val (.bool true)))], 0⟩,
    ⟨(some 2), none, .mv (.tmp 4), 0⟩])
  .ret)),
  [.tmp 2], true⟩
/-- viewport/viewportref11.derive  -/
def t49 : AFn := ⟨2, (.seq (.regN [0, 1] [
    ⟨(some 2), none, .boxR 4 (.tmp 0), 0⟩,
    ⟨(some 4), none, .mv (.con .e0), 0⟩])
  (.seq (.seq (.regN [1, 2] [
    ⟨(some 12), none, .ldA (some 2) 4 (.tmp 2), 0⟩,
    ⟨(some 13), none, .call 27 [(.tmp 12)], 0⟩,
    ⟨(some 14), none, .bini .neq (.tmp 13) (.con (.val (.int .i64 0))), 0⟩])
  (.cond (.tmp 14)
    (.seq (.regN [] [
      ⟨(some 4), none, .mv (.con .e0), 0⟩])
    .ret)
    .skip))
  (.seq (.regN [1, 2] [
    ⟨(some 15), none, .fldA 1 (.tmp 2), 0⟩,
    ⟨(some 16), none, .ld1 (some 2) (.tmp 15), 0⟩,
    ⟨(some 17), none, .mks 1 1 [(.val (.bool false))] (.tmp 16), 0⟩,
    ⟨(some 5), none, .mv (.tmp 17), 0⟩])
  (.seq (.seq (.regN [1, 2, 5] [
    ⟨(some 6), none, .mv (.con (.val (.bool true))), 0⟩])
  (.block 0
    (.loop [1, 2, 5, 6]
      (.seq (.seq (.regN [1, 2, 5, 6] [
        ⟨(some 18), none, .mv (.tmp 6), 0⟩])
      (.cond (.tmp 18)
        .skip
        (.exit 0)))
      (.block 1
        (.seq (.regN [1, 2, 5] [
          ⟨(some 6), none, .mv (.con (.val (.bool false))), 0⟩])
        (.seq (.regN [1, 2, 5, 6] [
          ⟨(some 7), none, .mv (.con (.val (.int .i64 0))), 0⟩])
        (.block 2
          (.loop [1, 2, 5, 6, 7]
            (.seq (.seq (.regN [1, 2, 5, 6, 7] [
              ⟨(some 19), none, .mv (.tmp 7), 0⟩,
              ⟨(some 20), none, .fldA 3 (.tmp 2), 0⟩,
              ⟨(some 21), none, .ld1 (some 2) (.tmp 20), 0⟩,
              ⟨(some 22), none, .len false (.tmp 21), 0⟩,
              ⟨(some 23), none, .bini .lss (.tmp 19) (.tmp 22), 0⟩])
            (.cond (.tmp 23)
              .skip
              (.exit 2)))
            (.seq (.block 3
              (.seq (.regN [1, 2, 5, 6, 7] [
                ⟨(some 26), none, .fldA 3 (.tmp 2), 0⟩,
                ⟨(some 27), none, .ld1 (some 2) (.tmp 26), 0⟩,
                ⟨(some 28), none, .mv (.tmp 7), 0⟩,
                ⟨(some 29), none, .ixA 2 (.tmp 27) (.tmp 28), 0⟩,
                ⟨(some 30), none, .ldA none 2 (.tmp 29), 0⟩,
                ⟨(some 8), none, .allocR [(.val (.int .i64 0)), .e0], 0⟩,
                ⟨none, none, .st (some 8) 2 (.tmp 8) (.tmp 30), 0⟩])
              (.seq (.regN [1, 2, 5, 6, 7, 8] [
                ⟨(some 31), none, .mv (.tmp 5), 0⟩,
                ⟨(some 32), none, .fldA 0 (.tmp 8), 0⟩,
                ⟨(some 33), none, .ld1 (some 8) (.tmp 32), 0⟩,
                ⟨(some 34), none, .ixA 1 (.tmp 31) (.tmp 33), 0⟩,
                ⟨(some 35), none, .ld1 none (.tmp 34), 0⟩,
                ⟨(some 36), none, .not (.tmp 35), 0⟩,
                ⟨(some 9), none, .mv (.tmp 36), 0⟩])
              (.seq (.seq (.regN [1, 2, 5, 6, 7, 8, 9] [
                ⟨(some 10), none, .mv (.con (.val (.int .i64 0))), 0⟩])
              (.block 4
                (.loop [1, 2, 5, 6, 7, 8, 9, 10]
                  (.seq (.seq (.regN [1, 2, 5, 6, 7, 8, 9, 10] [
                    ⟨(some 37), none, .mv (.tmp 10), 0⟩,
                    ⟨(some 38), none, .fldA 1 (.tmp 8), 0⟩,
                    ⟨(some 39), none, .ld1 (some 8) (.tmp 38), 0⟩,
                    ⟨(some 40), none, .len false (.tmp 39), 0⟩,
                    ⟨(some 41), none, .bini .lss (.tmp 37) (.tmp 40), 0⟩,
                    ⟨(some 42), none, .mv (.tmp 41), 0⟩,
                    ⟨(some 43), (some (42, true)), .mv (.tmp 9), 0⟩,
                    ⟨(some 44), none, .pick (.tmp 42) (.tmp 43) (.con (.val (.bool false))), 0⟩])
                  (.cond (.tmp 44)
                    .skip
                    (.exit 4)))
                  (.seq (.block 5
                    (.seq (.regN [1, 2, 5, 6, 7, 8, 10] [
                      ⟨(some 47), none, .fldA 1 (.tmp 8), 0⟩,
                      ⟨(some 48), none, .ld1 (some 8) (.tmp 47), 0⟩,
                      ⟨(some 49), none, .mv (.tmp 10), 0⟩,
                      ⟨(some 50), none, .ixA 1 (.tmp 48) (.tmp 49), 0⟩,
                      ⟨(some 51), none, .ld1 none (.tmp 50), 0⟩,
                      ⟨(some 11), none, .mv (.tmp 51), 0⟩])
                    (.regN [1, 2, 5, 6, 7, 8, 10, 11] [
                      ⟨(some 52), none, .mv (.tmp 11), 0⟩,
                      ⟨(some 53), none, .fldA 0 (.tmp 2), 0⟩,
                      ⟨(some 54), none, .ld1 (some 2) (.tmp 53), 0⟩,
                      ⟨(some 55), none, .bini .lss (.tmp 52) (.tmp 54), 0⟩,
                      ⟨(some 56), none, .mv (.tmp 55), 0⟩,
                      ⟨(some 57), (some (56, true)), .mv (.tmp 1), 0⟩,
                      ⟨(some 58), none, .pick (.tmp 56) (.tmp 57) (.con (.val (.bool false))), 0⟩,
                      ⟨(some 59), none, .mv (.tmp 58), 0⟩,
                      ⟨(some 60), (some (59, false)), .mv (.tmp 11), 0⟩,
                      ⟨(some 61), (some (59, false)), .fldA 0 (.tmp 2), 0⟩,
                      ⟨(some 62), (some (59, false)), .ld1 (some 2) (.tmp 61), 0⟩,
                      ⟨(some 63), (some (59, false)), .bini .geq (.tmp 60) (.tmp 62), 0⟩,
                      ⟨(some 64), (some (59, false)), .mv (.tmp 63), 0⟩,
                      ⟨(some 65), (some (64, true)), .mv (.tmp 5), 0⟩,
                      ⟨(some 66), (some (64, true)), .mv (.tmp 11), 0⟩,
                      ⟨(some 67), (some (64, true)), .fldA 0 (.tmp 2), 0⟩,
                      ⟨(some 68), (some (64, true)), .ld1 (some 2) (.tmp 67), 0⟩,
                      ⟨(some 69), (some (64, true)), .bini .sub (.tmp 66) (.tmp 68), 0⟩,
                      ⟨(some 70), (some (64, true)), .ixA 1 (.tmp 65) (.tmp 69), 0⟩,
                      ⟨(some 71), (some (64, true)), .ld1 none (.tmp 70), 0⟩,
                      ⟨(some 72), (some (59, false)), .pick (.tmp 64) (.tmp 71) (.con (.val (.bool false))), 0⟩,
                      ⟨(some 73), none, .pick (.tmp 59) (.con (.val (.bool true))) (.tmp 72), 0⟩,
                      ⟨(some 9), none, .mv (.tmp 73), 0⟩])))
                  (.regN [1, 2, 5, 6, 7, 8, 9, 10] [
                    ⟨(some 45), none, .mv (.tmp 10), 0⟩,
                    ⟨(some 46), none, .bini .add (.tmp 45) (.con (.val (.int .i64 1))), 0⟩,
                    ⟨(some 10), none, .mv (.tmp 46), 0⟩]))))))
              (.seq (.regN [1, 2, 5, 6, 7, 8, 9] [
                ⟨(some 74), none, .mv (.tmp 9), 0⟩])
              (.cond (.tmp 74)
                (.regN [1, 2, 5, 7, 8] [
                  ⟨(some 75), none, .mv (.tmp 5), 0⟩,
                  ⟨(some 76), none, .fldA 0 (.tmp 8), 0⟩,
                  ⟨(some 77), none, .ld1 (some 8) (.tmp 76), 0⟩,
                  ⟨(some 78), none, .ixA 1 (.tmp 75) (.tmp 77), 0⟩,
                  ⟨none, none, .st none 1 (.tmp 78) (.con (.val (.bool true))), 0⟩,
                  ⟨(some 6), none, .mv (.con (.val (.bool true))), 0⟩])
                .skip))))))
            (.regN [1, 2, 5, 6, 7] [
              ⟨(some 24), none, .mv (.tmp 7), 0⟩,
              ⟨(some 25), none, .bini .add (.tmp 24) (.con (.val (.int .i64 1))), 0⟩,
              ⟨(some 7), none, .mv (.tmp 25), 0⟩]))))))))))))
  (.seq (.regN [5] [
    ⟨(some 79), none, .mv (.tmp 5), 0⟩,
    ⟨(some 4), none, .mv (.tmp 79), 0⟩])
  .ret))))),
  [.tmp 4], true⟩
/-- viewport/viewportref11.Reachable  -/
def t31 : AFn := ⟨1, (.seq (.regN [0] [
    ⟨(some 1), none, .boxR 4 (.tmp 0), 0⟩,
    ⟨(some 2), none, .mv (.con .e0), 0⟩])
  (.seq (.seq (.regN [1] [
    ⟨(some 9), none, .ldA (some 1) 4 (.tmp 1), 0⟩,
    ⟨(some 10), none, .call 27 [(.tmp 9)], 0⟩,
    ⟨(some 11), none, .bini .neq (.tmp 10) (.con (.val (.int .i64 0))), 0⟩])
  (.cond (.tmp 11)
    (.seq (.regN [] [
      ⟨(some 2), none, .mv (.con .e0), 0⟩])
    .ret)
    .skip))
  (.seq (.regN [1] [
    ⟨(some 12), none, .fldA 1 (.tmp 1), 0⟩,
    ⟨(some 13), none, .ld1 (some 1) (.tmp 12), 0⟩,
    ⟨(some 14), none, .mks 1 1 [(.val (.bool false))] (.tmp 13), 0⟩,
    ⟨(some 3), none, .mv (.tmp 14), 0⟩])
  (.seq (.regN [1, 3] [
    ⟨(some 15), none, .mv (.tmp 3), 0⟩,
    ⟨(some 16), none, .ixA 1 (.tmp 15) (.con (.val (.int .i64 0))), 0⟩,
    ⟨none, none, .st none 1 (.tmp 16) (.con (.val (.bool true))), 0⟩])
  (.seq (.seq (.regN [1, 3] [
    ⟨(some 4), none, .mv (.con (.val (.bool true))), 0⟩])
  (.block 0
    (.loop [1, 3, 4]
      (.seq (.seq (.regN [1, 3, 4] [
        ⟨(some 17), none, .mv (.tmp 4), 0⟩])
      (.cond (.tmp 17)
        .skip
        (.exit 0)))
      (.block 1
        (.seq (.regN [1, 3] [
          ⟨(some 4), none, .mv (.con (.val (.bool false))), 0⟩])
        (.seq (.regN [1, 3, 4] [
          ⟨(some 5), none, .mv (.con (.val (.int .i64 0))), 0⟩])
        (.block 2
          (.loop [1, 3, 4, 5]
            (.seq (.seq (.regN [1, 3, 4, 5] [
              ⟨(some 18), none, .mv (.tmp 5), 0⟩,
              ⟨(some 19), none, .fldA 3 (.tmp 1), 0⟩,
              ⟨(some 20), none, .ld1 (some 1) (.tmp 19), 0⟩,
              ⟨(some 21), none, .len false (.tmp 20), 0⟩,
              ⟨(some 22), none, .bini .lss (.tmp 18) (.tmp 21), 0⟩])
            (.cond (.tmp 22)
              .skip
              (.exit 2)))
            (.seq (.block 3
              (.seq (.regN [1, 3, 4, 5] [
                ⟨(some 25), none, .fldA 3 (.tmp 1), 0⟩,
                ⟨(some 26), none, .ld1 (some 1) (.tmp 25), 0⟩,
                ⟨(some 27), none, .mv (.tmp 5), 0⟩,
                ⟨(some 28), none, .ixA 2 (.tmp 26) (.tmp 27), 0⟩,
                ⟨(some 29), none, .ldA none 2 (.tmp 28), 0⟩,
                ⟨(some 6), none, .allocR [(.val (.int .i64 0)), .e0], 0⟩,
                ⟨none, none, .st (some 6) 2 (.tmp 6) (.tmp 29), 0⟩])
              (.seq (.regN [1, 3, 4, 5, 6] [
                ⟨(some 7), none, .mv (.con (.val (.int .i64 0))), 0⟩])
              (.block 4
                (.loop [1, 3, 4, 5, 6, 7]
                  (.seq (.seq (.regN [1, 3, 4, 5, 6, 7] [
                    ⟨(some 30), none, .mv (.tmp 7), 0⟩,
                    ⟨(some 31), none, .fldA 1 (.tmp 6), 0⟩,
                    ⟨(some 32), none, .ld1 (some 6) (.tmp 31), 0⟩,
                    ⟨(some 33), none, .len false (.tmp 32), 0⟩,
                    ⟨(some 34), none, .bini .lss (.tmp 30) (.tmp 33), 0⟩,
                    ⟨(some 35), none, .mv (.tmp 34), 0⟩,
                    ⟨(some 36), (some (35, true)), .mv (.tmp 3), 0⟩,
                    ⟨(some 37), (some (35, true)), .fldA 0 (.tmp 6), 0⟩,
                    ⟨(some 38), (some (35, true)), .ld1 (some 6) (.tmp 37), 0⟩,
                    ⟨(some 39), (some (35, true)), .ixA 1 (.tmp 36) (.tmp 38), 0⟩,
                    ⟨(some 40), (some (35, true)), .ld1 none (.tmp 39), 0⟩,
                    ⟨(some 41), none, .pick (.tmp 35) (.tmp 40) (.con (.val (.bool false))), 0⟩])
                  (.cond (.tmp 41)
                    .skip
                    (.exit 4)))
                  (.seq (.block 5
                    (.seq (.regD [1, 3, 4, 5, 6, 7] 0 [
                      ⟨(some 44), none, .fldA 1 (.tmp 6), 0⟩,
                      ⟨(some 45), none, .ld1 (some 6) (.tmp 44), 0⟩,
                      ⟨(some 46), none, .mv (.tmp 7), 0⟩,
                      ⟨(some 47), none, .ixA 1 (.tmp 45) (.tmp 46), 0⟩,
                      ⟨(some 48), none, .ld1 none (.tmp 47), 0⟩,
                      ⟨(some 49), none, .fldA 0 (.tmp 1), 0⟩,
                      ⟨(some 50), none, .ld1 (some 1) (.tmp 49), 0⟩,
                      ⟨(some 51), none, .bini .sub (.tmp 48) (.tmp 50), 0⟩,
                      ⟨(some 8), none, .mv (.tmp 51), 0⟩])
                    (.seq (.regN [1, 3, 4, 5, 6, 7, 8] [
                      ⟨(some 52), none, .mv (.tmp 8), 0⟩,
                      ⟨(some 53), none, .bini .geq (.tmp 52) (.con (.val (.int .i64 0))), 0⟩,
                      ⟨(some 54), none, .mv (.tmp 53), 0⟩,
                      ⟨(some 55), (some (54, true)), .mv (.tmp 3), 0⟩,
                      ⟨(some 56), (some (54, true)), .mv (.tmp 8), 0⟩,
                      ⟨(some 57), (some (54, true)), .ixA 1 (.tmp 55) (.tmp 56), 0⟩,
                      ⟨(some 58), (some (54, true)), .ld1 none (.tmp 57), 0⟩,
                      ⟨(some 59), (some (54, true)), .not (.tmp 58), 0⟩,
                      ⟨(some 60), none, .pick (.tmp 54) (.tmp 59) (.con (.val (.bool false))), 0⟩])
                    (.cond (.tmp 60)
                      (.regN [1, 3, 5, 6, 7, 8] [
                        ⟨(some 61), none, .mv (.tmp 3), 0⟩,
                        ⟨(some 62), none, .mv (.tmp 8), 0⟩,
                        ⟨(some 63), none, .ixA 1 (.tmp 61) (.tmp 62), 0⟩,
                        ⟨none, none, .st none 1 (.tmp 63) (.con (.val (.bool true))), 0⟩,
                        ⟨(some 4), none, .mv (.con (.val (.bool true))), 0⟩])
                      .skip))))
                  (.regN [1, 3, 4, 5, 6, 7] [
                    ⟨(some 42), none, .mv (.tmp 7), 0⟩,
                    ⟨(some 43), none, .bini .add (.tmp 42) (.con (.val (.int .i64 1))), 0⟩,
                    ⟨(some 7), none, .mv (.tmp 43), 0⟩]))))))))
            (.regN [1, 3, 4, 5] [
              ⟨(some 23), none, .mv (.tmp 5), 0⟩,
              ⟨(some 24), none, .bini .add (.tmp 23) (.con (.val (.int .i64 1))), 0⟩,
              ⟨(some 5), none, .mv (.tmp 24), 0⟩]))))))))))))
  (.seq (.regN [3] [
    ⟨(some 64), none, .mv (.tmp 3), 0⟩,
    ⟨(some 2), none, .mv (.tmp 64), 0⟩])
  .ret)))))),
  [.tmp 2], true⟩
/-- viewport/viewportref11.Left  -/
def t26 : AFn := ⟨1, (.seq (.regN [0] [
    ⟨(some 1), none, .boxR 4 (.tmp 0), 0⟩,
    ⟨(some 2), none, .mv (.con (.val (.int .i64 0))), 0⟩,
    ⟨(some 3), none, .mv (.con (.val (.bool false))), 0⟩])
  (.seq (.seq (.regN [1] [
    ⟨(some 15), none, .ldA (some 1) 4 (.tmp 1), 0⟩,
    ⟨(some 16), none, .call 27 [(.tmp 15)], 0⟩,
    ⟨(some 17), none, .bini .neq (.tmp 16) (.con (.val (.int .i64 0))), 0⟩])
  (.cond (.tmp 17)
    (.seq (.regN [] [
      ⟨(some 2), none, .mv (.con (.val (.int .i64 0))), 0⟩,
      ⟨(some 3), none, .mv (.con (.val (.bool false))), 0⟩])
    .ret)
    .skip))
  (.seq (.regN [1] [
    ⟨(some 18), none, .ldA (some 1) 4 (.tmp 1), 0⟩,
    ⟨(some 19), none, .call 29 [(.tmp 18)], 0⟩,
    ⟨(some 4), none, .mv (.tmp 19), 0⟩])
  (.seq (.regN [1, 4] [
    ⟨(some 20), none, .fldA 1 (.tmp 1), 0⟩,
    ⟨(some 21), none, .ld1 (some 1) (.tmp 20), 0⟩,
    ⟨(some 22), none, .mks 1 24 [.e0] (.tmp 21), 0⟩,
    ⟨(some 5), none, .mv (.tmp 22), 0⟩])
  (.seq (.seq (.regN [1, 4, 5] [
    ⟨(some 6), none, .mv (.con (.val (.int .i64 0))), 0⟩])
  (.block 0
    (.loop [1, 4, 5, 6]
      (.seq (.seq (.regN [1, 4, 5, 6] [
        ⟨(some 23), none, .mv (.tmp 6), 0⟩,
        ⟨(some 24), none, .fldA 1 (.tmp 1), 0⟩,
        ⟨(some 25), none, .ld1 (some 1) (.tmp 24), 0⟩,
        ⟨(some 26), none, .bini .lss (.tmp 23) (.tmp 25), 0⟩])
      (.cond (.tmp 26)
        .skip
        (.exit 0)))
      (.seq (.block 1
        (.regN [1, 4, 5, 6] [
          ⟨(some 29), none, .mv (.tmp 5), 0⟩,
          ⟨(some 30), none, .mv (.tmp 6), 0⟩,
          ⟨(some 31), none, .fldA 1 (.tmp 1), 0⟩,
          ⟨(some 32), none, .ld1 (some 1) (.tmp 31), 0⟩,
          ⟨(some 33), none, .mks 1 1 [(.val (.bool false))] (.tmp 32), 0⟩,
          ⟨(some 34), none, .ixA 1 (.tmp 29) (.tmp 30), 0⟩,
          ⟨none, none, .st none 1 (.tmp 34) (.tmp 33), 0⟩]))
      (.regN [1, 4, 5, 6] [
        ⟨(some 27), none, .mv (.tmp 6), 0⟩,
        ⟨(some 28), none, .bini .add (.tmp 27) (.con (.val (.int .i64 1))), 0⟩,
        ⟨(some 6), none, .mv (.tmp 28), 0⟩]))))))
  (.seq (.seq (.regN [1, 4, 5] [
    ⟨(some 7), none, .mv (.con (.val (.int .i64 0))), 0⟩])
  (.block 2
    (.loop [1, 4, 5, 7]
      (.seq (.seq (.regN [1, 4, 5, 7] [
        ⟨(some 35), none, .mv (.tmp 7), 0⟩,
        ⟨(some 36), none, .fldA 3 (.tmp 1), 0⟩,
        ⟨(some 37), none, .ld1 (some 1) (.tmp 36), 0⟩,
        ⟨(some 38), none, .len false (.tmp 37), 0⟩,
        ⟨(some 39), none, .bini .lss (.tmp 35) (.tmp 38), 0⟩])
      (.cond (.tmp 39)
        .skip
        (.exit 2)))
      (.seq (.block 3
        (.seq (.regN [1, 4, 5, 7] [
          ⟨(some 42), none, .fldA 3 (.tmp 1), 0⟩,
          ⟨(some 43), none, .ld1 (some 1) (.tmp 42), 0⟩,
          ⟨(some 44), none, .mv (.tmp 7), 0⟩,
          ⟨(some 45), none, .ixA 2 (.tmp 43) (.tmp 44), 0⟩,
          ⟨(some 46), none, .ldA none 2 (.tmp 45), 0⟩,
          ⟨(some 8), none, .allocR [(.val (.int .i64 0)), .e0], 0⟩,
          ⟨none, none, .st (some 8) 2 (.tmp 8) (.tmp 46), 0⟩])
        (.seq (.regN [1, 4, 5, 7, 8] [
          ⟨(some 9), none, .mv (.con (.val (.int .i64 0))), 0⟩])
        (.block 4
          (.loop [1, 4, 5, 7, 8, 9]
            (.seq (.seq (.regD [1, 4, 5, 7, 8, 9] 0 [
              ⟨(some 47), none, .mv (.tmp 9), 0⟩,
              ⟨(some 48), none, .fldA 1 (.tmp 8), 0⟩,
              ⟨(some 49), none, .ld1 (some 8) (.tmp 48), 0⟩,
              ⟨(some 50), none, .len false (.tmp 49), 0⟩,
              ⟨(some 51), none, .bini .lss (.tmp 47) (.tmp 50), 0⟩,
              ⟨(some 52), none, .mv (.tmp 51), 0⟩,
              ⟨(some 53), (some (52, true)), .fldA 1 (.tmp 8), 0⟩,
              ⟨(some 54), (some (52, true)), .ld1 (some 8) (.tmp 53), 0⟩,
              ⟨(some 55), (some (52, true)), .mv (.tmp 9), 0⟩,
              ⟨(some 56), (some (52, true)), .ixA 1 (.tmp 54) (.tmp 55), 0⟩,
              ⟨(some 57), (some (52, true)), .ld1 none (.tmp 56), 0⟩,
              ⟨(some 58), (some (52, true)), .fldA 0 (.tmp 1), 0⟩,
              ⟨(some 59), (some (52, true)), .ld1 (some 1) (.tmp 58), 0⟩,
              ⟨(some 60), (some (52, true)), .bini .geq (.tmp 57) (.tmp 59), 0⟩,
              ⟨(some 61), none, .pick (.tmp 52) (.tmp 60) (.con (.val (.bool false))), 0⟩])
            (.cond (.tmp 61)
              .skip
              (.exit 4)))
            (.seq (.block 5
              (.seq (.regD [1, 4, 5, 7, 8, 9] 0 [
                ⟨(some 64), none, .fldA 1 (.tmp 8), 0⟩,
                ⟨(some 65), none, .ld1 (some 8) (.tmp 64), 0⟩,
                ⟨(some 66), none, .mv (.tmp 9), 0⟩,
                ⟨(some 67), none, .ixA 1 (.tmp 65) (.tmp 66), 0⟩,
                ⟨(some 68), none, .ld1 none (.tmp 67), 0⟩,
                ⟨(some 69), none, .fldA 0 (.tmp 1), 0⟩,
                ⟨(some 70), none, .ld1 (some 1) (.tmp 69), 0⟩,
                ⟨(some 71), none, .bini .sub (.tmp 68) (.tmp 70), 0⟩,
                ⟨(some 10), none, .mv (.tmp 71), 0⟩])
              (.seq (.regN [1, 4, 5, 7, 8, 9, 10] [
                ⟨(some 72), none, .mv (.tmp 5), 0⟩,
                ⟨(some 73), none, .fldA 0 (.tmp 8), 0⟩,
                ⟨(some 74), none, .ld1 (some 8) (.tmp 73), 0⟩,
                ⟨(some 75), none, .ixA 1 (.tmp 72) (.tmp 74), 0⟩,
                ⟨(some 76), none, .ld1 none (.tmp 75), 0⟩,
                ⟨(some 77), none, .mv (.tmp 10), 0⟩,
                ⟨(some 78), none, .ixA 1 (.tmp 76) (.tmp 77), 0⟩,
                ⟨none, none, .st none 1 (.tmp 78) (.con (.val (.bool true))), 0⟩])
              (.seq (.regN [1, 4, 5, 7, 8, 9, 10] [
                ⟨(some 79), none, .mv (.tmp 4), 0⟩,
                ⟨(some 80), none, .mv (.tmp 10), 0⟩,
                ⟨(some 81), none, .ixA 1 (.tmp 79) (.tmp 80), 0⟩,
                ⟨(some 82), none, .ld1 none (.tmp 81), 0⟩,
                ⟨(some 83), none, .not (.tmp 82), 0⟩])
              (.cond (.tmp 83)
                (.exit 4)
                .skip)))))
            (.regN [1, 4, 5, 7, 8, 9] [
              ⟨(some 62), none, .mv (.tmp 9), 0⟩,
              ⟨(some 63), none, .bini .add (.tmp 62) (.con (.val (.int .i64 1))), 0⟩,
              ⟨(some 9), none, .mv (.tmp 63), 0⟩]))))))))
      (.regN [1, 4, 5, 7] [
        ⟨(some 40), none, .mv (.tmp 7), 0⟩,
        ⟨(some 41), none, .bini .add (.tmp 40) (.con (.val (.int .i64 1))), 0⟩,
        ⟨(some 7), none, .mv (.tmp 41), 0⟩]))))))
  (.seq (.seq (.regN [1, 5] [
    ⟨(some 11), none, .mv (.con (.val (.int .i64 0))), 0⟩])
  (.block 6
    (.loop [1, 5, 11]
      (.seq (.seq (.regN [1, 5, 11] [
        ⟨(some 84), none, .mv (.tmp 11), 0⟩,
        ⟨(some 85), none, .fldA 1 (.tmp 1), 0⟩,
        ⟨(some 86), none, .ld1 (some 1) (.tmp 85), 0⟩,
        ⟨(some 87), none, .bini .lss (.tmp 84) (.tmp 86), 0⟩])
      (.cond (.tmp 87)
        .skip
        (.exit 6)))
      (.seq (.block 7
        (.seq (.regN [1, 5, 11] [
          ⟨(some 12), none, .mv (.con (.val (.int .i64 0))), 0⟩])
        (.block 8
          (.loop [1, 5, 11, 12]
            (.seq (.seq (.regN [1, 5, 11, 12] [
              ⟨(some 90), none, .mv (.tmp 12), 0⟩,
              ⟨(some 91), none, .fldA 1 (.tmp 1), 0⟩,
              ⟨(some 92), none, .ld1 (some 1) (.tmp 91), 0⟩,
              ⟨(some 93), none, .bini .lss (.tmp 90) (.tmp 92), 0⟩])
            (.cond (.tmp 93)
              .skip
              (.exit 8)))
            (.seq (.block 9
              (.seq (.regN [1, 5, 11, 12] [
                ⟨(some 13), none, .mv (.con (.val (.int .i64 0))), 0⟩])
              (.block 10
                (.loop [1, 5, 11, 12, 13]
                  (.seq (.seq (.regN [1, 5, 11, 12, 13] [
                    ⟨(some 96), none, .mv (.tmp 13), 0⟩,
                    ⟨(some 97), none, .fldA 1 (.tmp 1), 0⟩,
                    ⟨(some 98), none, .ld1 (some 1) (.tmp 97), 0⟩,
                    ⟨(some 99), none, .bini .lss (.tmp 96) (.tmp 98), 0⟩])
                  (.cond (.tmp 99)
                    .skip
                    (.exit 10)))
                  (.seq (.block 11
                    (.regD [1, 5, 11, 12, 13] 0 [
                      ⟨(some 102), none, .mv (.tmp 5), 0⟩,
                      ⟨(some 103), none, .mv (.tmp 12), 0⟩,
                      ⟨(some 104), none, .ixA 1 (.tmp 102) (.tmp 103), 0⟩,
                      ⟨(some 105), none, .ld1 none (.tmp 104), 0⟩,
                      ⟨(some 106), none, .mv (.tmp 13), 0⟩,
                      ⟨(some 107), none, .mv (.tmp 5), 0⟩,
                      ⟨(some 108), none, .mv (.tmp 12), 0⟩,
                      ⟨(some 109), none, .ixA 1 (.tmp 107) (.tmp 108), 0⟩,
                      ⟨(some 110), none, .ld1 none (.tmp 109), 0⟩,
                      ⟨(some 111), none, .mv (.tmp 13), 0⟩,
                      ⟨(some 112), none, .ixA 1 (.tmp 110) (.tmp 111), 0⟩,
                      ⟨(some 113), none, .ld1 none (.tmp 112), 0⟩,
                      ⟨(some 114), none, .mv (.tmp 113), 0⟩,
                      ⟨(some 115), (some (114, false)), .mv (.tmp 5), 0⟩,
                      ⟨(some 116), (some (114, false)), .mv (.tmp 12), 0⟩,
                      ⟨(some 117), (some (114, false)), .ixA 1 (.tmp 115) (.tmp 116), 0⟩,
                      ⟨(some 118), (some (114, false)), .ld1 none (.tmp 117), 0⟩,
                      ⟨(some 119), (some (114, false)), .mv (.tmp 11), 0⟩,
                      ⟨(some 120), (some (114, false)), .ixA 1 (.tmp 118) (.tmp 119), 0⟩,
                      ⟨(some 121), (some (114, false)), .ld1 none (.tmp 120), 0⟩,
                      ⟨(some 122), (some (114, false)), .mv (.tmp 121), 0⟩,
                      ⟨(some 123), (some (122, true)), .mv (.tmp 5), 0⟩,
                      ⟨(some 124), (some (122, true)), .mv (.tmp 11), 0⟩,
                      ⟨(some 125), (some (122, true)), .ixA 1 (.tmp 123) (.tmp 124), 0⟩,
                      ⟨(some 126), (some (122, true)), .ld1 none (.tmp 125), 0⟩,
                      ⟨(some 127), (some (122, true)), .mv (.tmp 13), 0⟩,
                      ⟨(some 128), (some (122, true)), .ixA 1 (.tmp 126) (.tmp 127), 0⟩,
                      ⟨(some 129), (some (122, true)), .ld1 none (.tmp 128), 0⟩,
                      ⟨(some 130), (some (114, false)), .pick (.tmp 122) (.tmp 129) (.con (.val (.bool false))), 0⟩,
                      ⟨(some 131), none, .pick (.tmp 114) (.con (.val (.bool true))) (.tmp 130), 0⟩,
                      ⟨(some 132), none, .ixA 1 (.tmp 105) (.tmp 106), 0⟩,
                      ⟨none, none, .st none 1 (.tmp 132) (.tmp 131), 0⟩]))
                  (.regN [1, 5, 11, 12, 13] [
                    ⟨(some 100), none, .mv (.tmp 13), 0⟩,
                    ⟨(some 101), none, .bini .add (.tmp 100) (.con (.val (.int .i64 1))), 0⟩,
                    ⟨(some 13), none, .mv (.tmp 101), 0⟩])))))))
            (.regN [1, 5, 11, 12] [
              ⟨(some 94), none, .mv (.tmp 12), 0⟩,
              ⟨(some 95), none, .bini .add (.tmp 94) (.con (.val (.int .i64 1))), 0⟩,
              ⟨(some 12), none, .mv (.tmp 95), 0⟩])))))))
      (.regN [1, 5, 11] [
        ⟨(some 88), none, .mv (.tmp 11), 0⟩,
        ⟨(some 89), none, .bini .add (.tmp 88) (.con (.val (.int .i64 1))), 0⟩,
        ⟨(some 11), none, .mv (.tmp 89), 0⟩]))))))
  (.seq (.seq (.regN [1, 5] [
    ⟨(some 14), none, .mv (.con (.val (.int .i64 0))), 0⟩])
  (.block 12
    (.loop [1, 5, 14]
      (.seq (.seq (.regN [1, 5, 14] [
        ⟨(some 133), none, .mv (.tmp 14), 0⟩,
        ⟨(some 134), none, .fldA 1 (.tmp 1), 0⟩,
        ⟨(some 135), none, .ld1 (some 1) (.tmp 134), 0⟩,
        ⟨(some 136), none, .bini .lss (.tmp 133) (.tmp 135), 0⟩])
      (.cond (.tmp 136)
        .skip
        (.exit 12)))
      (.seq (.block 13
        (.seq (.regN [1, 5, 14] [
          ⟨(some 139), none, .mv (.tmp 5), 0⟩,
          ⟨(some 140), none, .mv (.tmp 14), 0⟩,
          ⟨(some 141), none, .ixA 1 (.tmp 139) (.tmp 140), 0⟩,
          ⟨(some 142), none, .ld1 none (.tmp 141), 0⟩,
          ⟨(some 143), none, .mv (.tmp 14), 0⟩,
          ⟨(some 144), none, .ixA 1 (.tmp 142) (.tmp 143), 0⟩,
          ⟨(some 145), none, .ld1 none (.tmp 144), 0⟩])
        (.cond (.tmp 145)
          (.seq (.regN [14] [
            ⟨(some 146), none, .mv (.tmp 14), 0⟩,
            ⟨(some 2), none, .mv (.tmp 146), 0⟩,
            ⟨(some 3), none, .mv (.con (.val (.bool true))), 0⟩])
          .ret)
          .skip)))
      (.regN [1, 5, 14] [
        ⟨(some 137), none, .mv (.tmp 14), 0⟩,
        ⟨(some 138), none, .bini .add (.tmp 137) (.con (.val (.int .i64 1))), 0⟩,
        ⟨(some 14), none, .mv (.tmp 138), 0⟩]))))))
  (.seq (.regN [] [
    ⟨(some 2), none, .mv (.con (.val (.int .i64 0))), 0⟩,
    ⟨(some 3), none, .mv (.con (.val (.bool false))), 0⟩])
  .ret))))))))),
  [.tmp 2, .tmp 3], true⟩
/-- viewport/viewportref11.Nullable  -/
def t29 : AFn := ⟨1, (.seq (.regN [0] [
    ⟨(some 1), none, .boxR 4 (.tmp 0), 0⟩,
    ⟨(some 2), none, .mv (.con .e0), 0⟩])
  (.seq (.regN [1] [
    ⟨(some 3), none, .ldA (some 1) 4 (.tmp 1), 0⟩,
    ⟨(some 4), none, .call 49 [(.tmp 3), (.con (.val (.bool false)))], 0⟩,
    ⟨(some 2), none, .mv (.tmp 4), 0⟩])
  .ret)),
  [.tmp 2], true⟩
/-- viewport/viewportref11.Of  -/
def t28 : AFn := ⟨2, (.seq (.regN [0, 1] [
    ⟨(some 2), none, .boxR 4 (.tmp 0), 0⟩,
    ⟨(some 4), none, .mv (.con .e0), 0⟩])
  (.seq (.seq (.regN [1, 2] [
    ⟨(some 7), none, .ldA (some 2) 4 (.tmp 2), 0⟩,
    ⟨(some 8), none, .call 27 [(.tmp 7)], 0⟩,
    ⟨(some 9), none, .bini .neq (.tmp 8) (.con (.val (.int .i64 0))), 0⟩])
  (.cond (.tmp 9)
    (.seq (.regN [] [
      ⟨(some 4), none, .mv (.con .e0), 0⟩])
    .ret)
    .skip))
  (.seq (.regN [1, 2] [
    ⟨(some 5), none, .mv (.con .e0), 0⟩])
  (.seq (.seq (.regN [1, 2, 5] [
    ⟨(some 6), none, .mv (.con (.val (.int .i64 0))), 0⟩])
  (.block 0
    (.loop [1, 2, 5, 6]
      (.seq (.seq (.regN [1, 2, 5, 6] [
        ⟨(some 10), none, .mv (.tmp 6), 0⟩,
        ⟨(some 11), none, .fldA 3 (.tmp 2), 0⟩,
        ⟨(some 12), none, .ld1 (some 2) (.tmp 11), 0⟩,
        ⟨(some 13), none, .len false (.tmp 12), 0⟩,
        ⟨(some 14), none, .bini .lss (.tmp 10) (.tmp 13), 0⟩])
      (.cond (.tmp 14)
        .skip
        (.exit 0)))
      (.seq (.block 1
        (.seq (.regN [1, 2, 5, 6] [
          ⟨(some 17), none, .fldA 3 (.tmp 2), 0⟩,
          ⟨(some 18), none, .ld1 (some 2) (.tmp 17), 0⟩,
          ⟨(some 19), none, .mv (.tmp 6), 0⟩,
          ⟨(some 20), none, .ixA 2 (.tmp 18) (.tmp 19), 0⟩,
          ⟨(some 21), none, .fldA 0 (.tmp 20), 0⟩,
          ⟨(some 22), none, .ld1 none (.tmp 21), 0⟩,
          ⟨(some 23), none, .mv (.tmp 1), 0⟩,
          ⟨(some 24), none, .bini .eql (.tmp 22) (.tmp 23), 0⟩])
        (.cond (.tmp 24)
          (.regN [1, 2, 5, 6] [
            ⟨(some 25), none, .mv (.tmp 5), 0⟩,
            ⟨(some 26), none, .mv (.tmp 6), 0⟩,
            ⟨(some 27), none, .buildS 1 [(.val (.int .i64 0))] [(0, 1, (.tmp 26))], 0⟩,
            ⟨(some 28), none, .app 1 8 (.tmp 25) (.tmp 27), 0⟩,
            ⟨(some 5), none, .mv (.tmp 28), 0⟩])
          .skip)))
      (.regN [1, 2, 5, 6] [
        ⟨(some 15), none, .mv (.tmp 6), 0⟩,
        ⟨(some 16), none, .bini .add (.tmp 15) (.con (.val (.int .i64 1))), 0⟩,
        ⟨(some 6), none, .mv (.tmp 16), 0⟩]))))))
  (.seq (.regN [5] [
    ⟨(some 29), none, .mv (.tmp 5), 0⟩,
    ⟨(some 4), none, .mv (.tmp 29), 0⟩])
  .ret))))),
  [.tmp 4], true⟩
/-- viewport/viewportref11.Same  -/
def t32 : AFn := ⟨2, (.seq (.regN [0, 1] [
    ⟨(some 2), none, .boxR 4 (.tmp 0), 0⟩,
    ⟨(some 3), none, .boxR 4 (.tmp 1), 0⟩,
    ⟨(some 4), none, .mv (.con (.val (.bool false))), 0⟩])
  (.seq (.seq (.regN [2, 3] [
    ⟨(some 9), none, .fldA 0 (.tmp 2), 0⟩,
    ⟨(some 10), none, .ld1 (some 2) (.tmp 9), 0⟩,
    ⟨(some 11), none, .fldA 0 (.tmp 3), 0⟩,
    ⟨(some 12), none, .ld1 (some 3) (.tmp 11), 0⟩,
    ⟨(some 13), none, .bini .neq (.tmp 10) (.tmp 12), 0⟩,
    ⟨(some 14), none, .mv (.tmp 13), 0⟩,
    ⟨(some 15), (some (14, false)), .fldA 1 (.tmp 2), 0⟩,
    ⟨(some 16), (some (14, false)), .ld1 (some 2) (.tmp 15), 0⟩,
    ⟨(some 17), (some (14, false)), .fldA 1 (.tmp 3), 0⟩,
    ⟨(some 18), (some (14, false)), .ld1 (some 3) (.tmp 17), 0⟩,
    ⟨(some 19), (some (14, false)), .bini .neq (.tmp 16) (.tmp 18), 0⟩,
    ⟨(some 20), none, .pick (.tmp 14) (.con (.val (.bool true))) (.tmp 19), 0⟩,
    ⟨(some 21), none, .mv (.tmp 20), 0⟩,
    ⟨(some 22), (some (21, false)), .fldA 2 (.tmp 2), 0⟩,
    ⟨(some 23), (some (21, false)), .ld1 (some 2) (.tmp 22), 0⟩,
    ⟨(some 24), (some (21, false)), .fldA 2 (.tmp 3), 0⟩,
    ⟨(some 25), (some (21, false)), .ld1 (some 3) (.tmp 24), 0⟩,
    ⟨(some 26), (some (21, false)), .bini .neq (.tmp 23) (.tmp 25), 0⟩,
    ⟨(some 27), none, .pick (.tmp 21) (.con (.val (.bool true))) (.tmp 26), 0⟩,
    ⟨(some 28), none, .mv (.tmp 27), 0⟩,
    ⟨(some 29), (some (28, false)), .fldA 3 (.tmp 2), 0⟩,
    ⟨(some 30), (some (28, false)), .ld1 (some 2) (.tmp 29), 0⟩,
    ⟨(some 31), (some (28, false)), .len false (.tmp 30), 0⟩,
    ⟨(some 32), (some (28, false)), .fldA 3 (.tmp 3), 0⟩,
    ⟨(some 33), (some (28, false)), .ld1 (some 3) (.tmp 32), 0⟩,
    ⟨(some 34), (some (28, false)), .len false (.tmp 33), 0⟩,
    ⟨(some 35), (some (28, false)), .bini .neq (.tmp 31) (.tmp 34), 0⟩,
    ⟨(some 36), none, .pick (.tmp 28) (.con (.val (.bool true))) (.tmp 35), 0⟩])
  (.cond (.tmp 36)
    (.seq (.regN [] [
      ⟨(some 4), none, .mv (.con (.val (.bool false))), 0⟩])
    .ret)
    .skip))
  (.seq (.seq (.regN [2, 3] [
    ⟨(some 5), none, .mv (.con (.val (.int .i64 0))), 0⟩])
  (.block 0
    (.loop [2, 3, 5]
      (.seq (.seq (.regN [2, 3, 5] [
        ⟨(some 37), none, .mv (.tmp 5), 0⟩,
        ⟨(some 38), none, .fldA 3 (.tmp 2), 0⟩,
        ⟨(some 39), none, .ld1 (some 2) (.tmp 38), 0⟩,
        ⟨(some 40), none, .len false (.tmp 39), 0⟩,
        ⟨(some 41), none, .bini .lss (.tmp 37) (.tmp 40), 0⟩])
      (.cond (.tmp 41)
        .skip
        (.exit 0)))
      (.seq (.block 1
        (.seq (.regD [2, 3, 5] 0 [
          ⟨(some 44), none, .fldA 3 (.tmp 2), 0⟩,
          ⟨(some 45), none, .ld1 (some 2) (.tmp 44), 0⟩,
          ⟨(some 46), none, .mv (.tmp 5), 0⟩,
          ⟨(some 47), none, .ixA 2 (.tmp 45) (.tmp 46), 0⟩,
          ⟨(some 48), none, .ldA none 2 (.tmp 47), 0⟩,
          ⟨(some 49), none, .fldA 3 (.tmp 3), 0⟩,
          ⟨(some 50), none, .ld1 (some 3) (.tmp 49), 0⟩,
          ⟨(some 51), none, .mv (.tmp 5), 0⟩,
          ⟨(some 52), none, .ixA 2 (.tmp 50) (.tmp 51), 0⟩,
          ⟨(some 53), none, .ldA none 2 (.tmp 52), 0⟩,
          ⟨(some 6), none, .allocR [(.val (.int .i64 0)), .e0], 0⟩,
          ⟨(some 7), none, .allocR [(.val (.int .i64 0)), .e0], 0⟩,
          ⟨none, none, .st (some 6) 2 (.tmp 6) (.tmp 48), 0⟩,
          ⟨none, none, .st (some 7) 2 (.tmp 7) (.tmp 53), 0⟩])
        (.seq (.seq (.regN [2, 3, 5, 6, 7] [
          ⟨(some 54), none, .fldA 0 (.tmp 6), 0⟩,
          ⟨(some 55), none, .ld1 (some 6) (.tmp 54), 0⟩,
          ⟨(some 56), none, .fldA 0 (.tmp 7), 0⟩,
          ⟨(some 57), none, .ld1 (some 7) (.tmp 56), 0⟩,
          ⟨(some 58), none, .bini .neq (.tmp 55) (.tmp 57), 0⟩,
          ⟨(some 59), none, .mv (.tmp 58), 0⟩,
          ⟨(some 60), (some (59, false)), .fldA 1 (.tmp 6), 0⟩,
          ⟨(some 61), (some (59, false)), .ld1 (some 6) (.tmp 60), 0⟩,
          ⟨(some 62), (some (59, false)), .len false (.tmp 61), 0⟩,
          ⟨(some 63), (some (59, false)), .fldA 1 (.tmp 7), 0⟩,
          ⟨(some 64), (some (59, false)), .ld1 (some 7) (.tmp 63), 0⟩,
          ⟨(some 65), (some (59, false)), .len false (.tmp 64), 0⟩,
          ⟨(some 66), (some (59, false)), .bini .neq (.tmp 62) (.tmp 65), 0⟩,
          ⟨(some 67), none, .pick (.tmp 59) (.con (.val (.bool true))) (.tmp 66), 0⟩])
        (.cond (.tmp 67)
          (.seq (.regN [] [
            ⟨(some 4), none, .mv (.con (.val (.bool false))), 0⟩])
          .ret)
          .skip))
        (.seq (.regN [2, 3, 5, 6, 7] [
          ⟨(some 8), none, .mv (.con (.val (.int .i64 0))), 0⟩])
        (.block 2
          (.loop [2, 3, 5, 6, 7, 8]
            (.seq (.seq (.regN [2, 3, 5, 6, 7, 8] [
              ⟨(some 68), none, .mv (.tmp 8), 0⟩,
              ⟨(some 69), none, .fldA 1 (.tmp 6), 0⟩,
              ⟨(some 70), none, .ld1 (some 6) (.tmp 69), 0⟩,
              ⟨(some 71), none, .len false (.tmp 70), 0⟩,
              ⟨(some 72), none, .bini .lss (.tmp 68) (.tmp 71), 0⟩])
            (.cond (.tmp 72)
              .skip
              (.exit 2)))
            (.seq (.block 3
              (.seq (.regD [2, 3, 5, 6, 7, 8] 0 [
                ⟨(some 75), none, .fldA 1 (.tmp 6), 0⟩,
                ⟨(some 76), none, .ld1 (some 6) (.tmp 75), 0⟩,
                ⟨(some 77), none, .mv (.tmp 8), 0⟩,
                ⟨(some 78), none, .ixA 1 (.tmp 76) (.tmp 77), 0⟩,
                ⟨(some 79), none, .ld1 none (.tmp 78), 0⟩,
                ⟨(some 80), none, .fldA 1 (.tmp 7), 0⟩,
                ⟨(some 81), none, .ld1 (some 7) (.tmp 80), 0⟩,
                ⟨(some 82), none, .mv (.tmp 8), 0⟩,
                ⟨(some 83), none, .ixA 1 (.tmp 81) (.tmp 82), 0⟩,
                ⟨(some 84), none, .ld1 none (.tmp 83), 0⟩,
                ⟨(some 85), none, .bini .neq (.tmp 79) (.tmp 84), 0⟩])
              (.cond (.tmp 85)
                (.seq (.regN [] [
                  ⟨(some 4), none, .mv (.con (.val (.bool false))), 0⟩])
                .ret)
                .skip)))
            (.regN [2, 3, 5, 6, 7, 8] [
              ⟨(some 73), none, .mv (.tmp 8), 0⟩,
              ⟨(some 74), none, .bini .add (.tmp 73) (.con (.val (.int .i64 1))), 0⟩,
              ⟨(some 8), none, .mv (.tmp 74), 0⟩])))))))))
      (.regN [2, 3, 5] [
        ⟨(some 42), none, .mv (.tmp 5), 0⟩,
        ⟨(some 43), none, .bini .add (.tmp 42) (.con (.val (.int .i64 1))), 0⟩,
        ⟨(some 5), none, .mv (.tmp 43), 0⟩]))))))
  (.seq (.regN [] [
    ⟨(some 4), none, .mv (.con (.val (.bool true))), 0⟩])
  .ret)))),
  [.tmp 4], true⟩
theorem c3 : compF Try.prog 3 ⟨[34, 45], [(1, 1), (29, 1), (32, 1), (36, 1), (43, 1), (48, 1), (54, 1), (60, 1), (8, 8), (66, 8), (72, 8), (77, 1), (87, 8), (93, 1), (102, 8), (109, 1), (115, 8), (121, 8), (144, 1)], [], 0⟩ [[0], [1], [], [1], [], [1], [1, 3], [], [1, 3], [1, 3, 4], [1, 3, 4, 5], [1, 3, 4, 5], [1, 3, 4, 5], [1, 3, 4, 5], [1, 3, 4], [1, 3, 4, 6], [1, 3, 4, 6], [1, 3, 4, 6], [1, 3, 4, 6, 7], [1, 3, 4, 6, 7], [1, 3, 4, 6, 7], [1, 3, 4, 6, 7, 8], [1, 3, 4, 6, 7, 8, 9], [1, 3, 4, 6, 7, 8, 9], [1, 3, 4, 6, 7, 8, 9], [1, 3, 4, 6, 7, 8, 9, 10], [1, 3, 4, 6, 7, 8, 9, 10], [1, 3, 4, 6, 7, 8, 9, 10], [1, 3, 4, 6, 7, 8, 9, 10, 11], [1, 3, 4, 6, 7, 8, 9, 10, 11], [1, 3, 4, 6, 7, 8, 9, 10, 11], [1, 3, 4, 6, 7, 8, 9, 10, 11], [1, 3, 4, 6, 7, 8, 9], [1, 3, 4, 6, 7], [1, 3, 4, 6], [1, 4], [1, 4, 12, 13], [1, 4, 12, 13, 14], [1, 4, 12, 13, 14], [1, 4, 12, 13, 14], [12, 13, 14], [1, 4, 12, 13, 14], [12, 13]] true = some t3 := by kernel_rfl
theorem c9 : compF Try.prog 9 ⟨[], [], [], 0⟩ [[], [], [2]] true = some t9 := by kernel_rfl
theorem c23 : compF Try.prog 23 ⟨[], [(0, 0)], [], 0⟩ [[], [0]] true = some t23 := by kernel_rfl
theorem c13 : compF Try.prog 13 ⟨[4, 1, 5, 15, 25], [(1, 1), (4, 4), (13, 1), (5, 5), (23, 1), (28, 1), (32, 1)], [], 0⟩ [[0], [1], [], [1], [1, 4], [1, 4, 5], [1, 4, 5, 17, 18], [1, 4, 5, 17, 18], [1, 4, 5, 17, 18], [1, 4, 5, 6, 17, 18], [1, 4, 5, 17, 18], [1, 4, 5], [1, 5], [5, 33, 34], [5, 33, 34], [5, 33, 34], [5, 7, 33, 34], [7], [5, 33, 34], []] true = some t13 := by kernel_rfl
theorem c11 : compF Try.prog 11 ⟨[1], [(5, 1), (9, 1), (14, 1), (19, 1), (24, 1), (27, 1), (29, 1), (31, 1), (33, 1), (38, 1), (4, 4), (45, 4), (49, 4), (51, 1), (56, 4)], [], 0⟩ [[0], [1], [], [1], [], [1], [], [1], [1, 39, 40, 41], [1, 39, 40, 41], [1, 39, 40, 41], [1, 4, 39, 40, 41], [], [1, 39, 40, 41], []] true = some t11 := by kernel_rfl
theorem c33 : compF Try.prog 33 ⟨[], [], [], 0⟩ [[0, 1], [0, 1]] true = some t33 := by kernel_rfl
theorem c50 : compF Try.prog 50 ⟨[], [], [], 0⟩ [[0, 1], [0, 1], [0, 1, 7, 8], [0, 1, 7, 8], [0, 1, 7, 8], [0, 1, 5, 7, 8], [5], [0, 1, 7, 8], []] true = some t50 := by kernel_rfl
theorem c34 : compF Try.prog 34 ⟨[], [(3, 1)], [], 0⟩ [[0], [1]] true = some t34 := by kernel_rfl
theorem c36 : compF Try.prog 36 ⟨[], [], [], 0⟩ [[0, 1], [0, 1]] true = some t36 := by kernel_rfl
theorem c35 : compF Try.prog 35 ⟨[], [], [], 0⟩ [[0, 1], [0, 1]] true = some t35 := by kernel_rfl
theorem c51 : compF Try.prog 51 ⟨[], [], [], 0⟩ [[0, 1], [0, 1], [0, 1, 7, 8], [0, 1, 7, 8], [0, 1, 7, 8], [0, 1, 5, 7, 8], [5], [0, 1, 7, 8], []] true = some t51 := by kernel_rfl
theorem c12 : compF Try.prog 12 ⟨[], [(1, 1)], [], 0⟩ [[0], [1]] true = some t12 := by kernel_rfl
theorem c37 : compF Try.prog 37 ⟨[6, 5, 3, 2, 12], [(2, 2), (10, 2), (5, 5), (6, 6), (14, 2)], [], 0⟩ [[0, 1], [2, 3], [], [2, 3], [2, 3, 5], [2, 5, 6], [5]] true = some t37 := by kernel_rfl
theorem c52 : compF Try.prog 52 ⟨[], [], [], 0⟩ [[0, 1, 2, 3], [0, 1, 2, 3]] true = some t52 := by kernel_rfl
theorem c53 : compF Try.prog 53 ⟨[], [(6, 3), (11, 3), (17, 3)], [], 0⟩ [[0, 1, 2], [1, 2, 3], [], [1, 3], []] true = some t53 := by kernel_rfl
theorem c38 : compF Try.prog 38 ⟨[], [(6, 6)], [], 0⟩ [[0, 1], [0, 1, 4], [0, 1, 4], [0, 1], [0, 1, 4], [0, 1, 4, 8, 9, 10], [0, 1, 4, 8, 9, 10], [0, 1, 4, 8, 9, 10], [0, 1, 4, 6, 8, 9, 10], [0, 1, 4, 8, 9, 10]] true = some t38 := by kernel_rfl
theorem c39 : compF Try.prog 39 ⟨[], [(12, 4), (18, 4)], [], 0⟩ [[0, 1, 2, 3], [1, 2, 3, 4, 5], [1, 2, 3, 4, 5, 6], [1, 5, 6, 20, 21, 22], [1, 5, 6, 20, 21, 22], [1, 5, 6, 20, 21, 22], [1, 5, 6, 8, 20, 21, 22], [1, 5, 6, 8, 20, 21, 22, 29, 30, 31], [1, 5, 6, 8, 20, 21, 22, 29, 30, 31], [1, 5, 6, 8, 20, 21, 22, 29, 30, 31], [1, 5, 6, 8, 9, 10, 20, 21, 22, 29, 30, 31], [1, 6, 8, 9, 20, 21, 22, 29, 30, 31], [1, 5, 6, 8, 20, 21, 22, 29, 30, 31], [1, 5, 6, 20, 21, 22], [5]] true = some t39 := by kernel_rfl
theorem c40 : compF Try.prog 40 ⟨[], [(16, 3), (21, 3), (28, 3)], [], 0⟩ [[0, 1, 2], [1, 2, 3, 6], [1, 3, 6, 9, 10, 11], [1, 3, 6, 9, 10, 11], [1, 3, 6, 9, 10, 11], [1, 3, 6, 8, 9, 10, 11], [1, 3, 6, 8, 9, 10, 11], [1, 3, 6, 8, 9, 10, 11], [1, 3, 6, 9, 10, 11], [6]] true = some t40 := by kernel_rfl
theorem c15 : compF Try.prog 15 ⟨[], [], [], 0⟩ [[0, 1], [0, 1], [], [0, 1], [0, 1, 5], [0, 1, 5], [0, 1, 5], [], [0, 1, 5], []] true = some t15 := by kernel_rfl
theorem c10 : compF Try.prog 10 ⟨[], [(4, 1), (9, 1), (15, 1), (24, 1), (34, 1), (43, 1), (47, 1), (52, 1), (57, 1), (62, 1), (66, 1), (71, 1), (77, 1), (81, 1)], [], 0⟩ [[0], [1], [], [1], [1, 3], [1, 3], [1, 3], [], [1, 3], [1], [], [1]] true = some t10 := by kernel_rfl
theorem c4 : compF Try.prog 4 ⟨[22, 25, 28], [(1, 1), (20, 1), (23, 1), (26, 1), (32, 1), (38, 1), (44, 1), (8, 8), (50, 8), (53, 8), (59, 8), (66, 8), (69, 8), (75, 8), (82, 8), (88, 8), (95, 8), (100, 1), (104, 8), (109, 1)], [], 0⟩ [[0], [1], [], [1], [], [1], [1, 3, 4, 5], [1, 3, 4, 5], [1, 3, 4, 5, 6], [1, 3, 4, 5, 6], [1, 3, 4, 5, 6], [1, 3, 4, 5, 6, 7], [1, 3, 4, 5, 6, 7], [1, 3, 4, 5, 6, 7], [1, 3, 4, 5, 6, 7, 8], [1, 3, 4, 5, 6, 7, 8], [1, 3, 4, 5, 6, 7, 8], [1, 3, 4, 5, 6, 7, 8, 9], [1, 3, 4, 5, 6, 7, 8, 9], [1, 3, 4, 5, 6, 7, 8, 9], [1, 3, 4, 5, 6, 7, 8, 9], [1, 3, 4, 5, 6, 7, 8, 9], [1, 3, 4, 5, 6, 7], [1, 3, 4, 5, 6], [1, 3, 4, 5]] true = some t4 := by kernel_rfl
theorem c14 : compF Try.prog 14 ⟨[], [(20, 4), (32, 4), (41, 4)], [], 0⟩ [[0, 1, 2, 3], [1, 2, 3, 4], [1, 2, 3, 4, 9], [1, 2, 3, 4, 9], [1, 2, 3, 4, 9], [], [1, 2, 3, 4, 9], []] true = some t14 := by kernel_rfl
theorem c16 : compF Try.prog 16 ⟨[], [(1, 1)], [], 0⟩ [[0], [1]] true = some t16 := by kernel_rfl
theorem c17 : compF Try.prog 17 ⟨[1, 3, 9], [(1, 1), (7, 1), (3, 3), (12, 1)], [], 0⟩ [[0], [1], [], [1], [1, 3], [1, 3], [3]] true = some t17 := by kernel_rfl
theorem c41 : compF Try.prog 41 ⟨[], [(8, 3), (13, 3)], [], 0⟩ [[0, 1, 2], [1, 2, 3, 4], [], [1, 2, 3, 4], [1, 2, 4, 14, 15, 16], [1, 2, 4, 14, 15, 16], [1, 2, 4, 14, 15, 16], [1, 2, 4, 6, 14, 15, 16], [1, 2, 6, 14, 15, 16], [1, 2, 4, 14, 15, 16], [4]] true = some t41 := by kernel_rfl
theorem c5 : compF Try.prog 5 ⟨[], [(1, 1), (35, 1), (41, 1), (48, 1), (59, 1), (73, 1), (111, 1), (121, 1), (161, 1)], [], 0⟩ [[0], [1], [], [1], [], [1], [1, 3, 4, 5], [], [1, 3, 4, 5], [1, 3, 4, 5, 6], [1, 3, 4, 5, 6], [1, 3, 4, 5, 6], [1, 3, 4, 5, 6, 7, 8], [1, 3, 4, 5, 6, 7, 8, 9], [1, 3, 4, 5, 6, 7, 8, 9, 10], [1, 3, 4, 5, 6, 7, 8, 9, 10], [1, 3, 4, 5, 6, 7, 8, 9, 10], [1, 3, 4, 5, 6, 7, 8, 9, 10, 11], [1, 3, 4, 5, 6, 7, 8, 9, 10, 11], [1, 3, 4, 5, 6, 7, 8, 9, 10, 11, 12], [1, 3, 4, 5, 6, 7, 8, 9, 10, 11, 12], [1, 3, 4, 5, 6, 7, 8, 9, 10, 11, 12], [], [1, 3, 4, 5, 6, 7, 8, 9, 10, 11, 12], [1, 3, 4, 5, 6, 7, 8, 9, 10], [1, 3, 4, 5, 6, 7, 8], [], [1, 3, 4, 5, 6], [1, 4, 5], [1, 4, 5, 13, 14], [1, 4, 5, 13, 14, 15], [1, 4, 5, 13, 14, 15], [1, 4, 5, 13, 14, 15], [1, 4, 5, 13, 14, 15, 16], [13, 14, 15], [1, 4, 5, 13, 14, 15], [13, 14]] true = some t5 := by kernel_rfl
theorem c18 : compF Try.prog 18 ⟨[], [(2, 2), (10, 2), (6, 6), (18, 6)], [], 0⟩ [[0, 1], [1, 2, 4], [], [1, 2, 4], [1, 4, 11, 12, 13], [1, 4, 11, 12, 13], [1, 4, 11, 12, 13], [1, 4, 5, 6, 11, 12, 13], [1, 4, 5, 11, 12, 13], [1, 4, 11, 12, 13], [4]] true = some t18 := by kernel_rfl
theorem c19 : compF Try.prog 19 ⟨[], [(1, 1), (14, 1)], [], 0⟩ [[0], [1], [], [1], [1, 4, 5], [4, 5, 15, 16], [4, 5, 15, 16], [4, 5, 15, 16], [4, 5, 6, 15, 16], [6], [4, 5, 15, 16], []] true = some t19 := by kernel_rfl
theorem c6 : compF Try.prog 6 ⟨[25], [(1, 1), (22, 1), (27, 1), (72, 1), (8, 8), (9, 9), (113, 9), (119, 9), (129, 9), (139, 9)], [], 0⟩ [[0], [1], [], [1], [], [1], [1, 3], [1, 3, 4], [1, 3, 4], [1, 3, 4], [1, 3, 4, 5], [1, 3, 4, 5, 6], [1, 3, 4, 5, 6], [1, 3, 4, 5, 6], [], [1, 3, 4, 5, 6], [1, 3, 4, 5, 6], [1, 3, 4], [1, 3], [1, 3, 7], [1, 3, 7], [1, 3, 7], [], [1, 3, 7], [1], [1, 8], [1, 8, 9], [], [1, 8, 9], [1, 8, 9, 10], [1, 8, 9, 10], [1, 8, 9, 10], [1, 8, 9, 10], [1, 8, 9, 10, 11], [1, 8, 9, 10, 11], [1, 8, 9, 10, 11], [1, 8, 9, 10, 11], [1, 8, 9, 10], [1, 8, 9]] true = some t6 := by kernel_rfl
theorem c20 : compF Try.prog 20 ⟨[], [(4, 1), (7, 1), (9, 1), (15, 1), (18, 1), (1, 1), (2, 2)], [], 0⟩ [[0], [1, 2], [1, 2], [1, 2, 3], [1, 2, 3], [1, 2, 3], [1, 2, 3], [1, 2]] true = some t20 := by kernel_rfl
theorem c42 : compF Try.prog 42 ⟨[], [], [], 0⟩ [[0], [0]] true = some t42 := by kernel_rfl
theorem c43 : compF Try.prog 43 ⟨[], [], [], 0⟩ [[0], [0]] true = some t43 := by kernel_rfl
theorem c21 : compF Try.prog 21 ⟨[], [(4, 1), (7, 1), (8, 1), (14, 1), (17, 1), (1, 1), (2, 2)], [], 0⟩ [[0], [1, 2], [1, 2], [1, 2, 10, 11], [1, 2, 10, 11], [1, 2, 10, 11], [1, 2, 3, 10, 11], [1, 2, 10, 11], [1, 2]] false = some t21 := by kernel_rfl
theorem c22 : compF Try.prog 22 ⟨[], [(5, 2), (7, 3), (11, 2), (13, 3), (18, 2), (20, 3), (25, 2), (27, 3)], [], 0⟩ [[0, 1], [2, 3]] true = some t22 := by kernel_rfl
theorem c46 : compF Try.prog 46 ⟨[], [(8, 8), (9, 9)], [], 0⟩ [[0, 1, 2], [0, 1, 2], [], [0, 1, 2], [1, 2, 15, 16, 17], [1, 2, 15, 16, 17], [1, 2, 15, 16, 17], [1, 2, 7, 8, 15, 16, 17], [1, 2, 8, 9, 15, 16, 17], [], [1, 2, 15, 16, 17], []] true = some t46 := by kernel_rfl
theorem c47 : compF Try.prog 47 ⟨[], [(5, 2), (7, 3), (11, 2), (13, 3)], [], 0⟩ [[0, 1], [2, 3]] true = some t47 := by kernel_rfl
theorem c48 : compF Try.prog 48 ⟨[], [], [], 0⟩ [[0, 1], [0, 1], [], [0, 1], [0, 1, 12, 13], [0, 1, 12, 13], [0, 1, 12, 13], [0, 1, 5, 12, 13], [], [0, 1, 12, 13], []] true = some t48 := by kernel_rfl
theorem c7 : compF Try.prog 7 ⟨[], [(1, 1), (20, 1), (6, 6), (27, 6), (9, 9), (38, 9), (10, 10), (40, 10), (11, 11), (47, 11), (52, 11), (60, 11)], [26, 39], 0⟩ [[], [], [], [], [1], [1, 3], [1, 3], [1, 3, 4, 5], [1, 3, 4, 5, 6], [1, 3, 4, 5, 6], [1, 3, 4, 5, 6, 7, 8], [1, 3, 4, 5, 6, 7, 8, 9], [1, 3, 4, 5, 6, 7, 8, 9], [1, 3, 4, 5, 6, 7, 8, 9, 10], [1, 3, 4, 5, 6, 7, 8, 9, 10], [1, 3, 4, 5, 6, 7, 8, 9, 10, 11], [], [1, 3, 4, 5, 6, 7, 8, 9, 10, 11], [1, 3, 4, 5, 6, 7, 8, 9, 10, 11]] true = some t7 := by kernel_rfl
theorem c1023 : compF Try.prog 23 ⟨[6], [(0, 0)], [], 0⟩ [[], [0]] false = some t1023 := by kernel_rfl
theorem c24 : compF Try.prog 24 ⟨[], [], [], 0⟩ [[0, 1], [0, 1], [], [0, 1], [0, 1, 5], [0, 1, 5], [0, 1, 5], [], [0, 1, 5], []] true = some t24 := by kernel_rfl
theorem c8 : compF Try.prog 8 ⟨[], [(3, 3), (4, 4)], [], 0⟩ [[0, 1, 2], [2, 3, 4], [], [2, 3, 4], [], [2, 3, 4], [2, 3, 4, 7, 8], [2, 3, 4, 7, 8, 9, 10], [2, 3, 4, 7, 8, 9, 10, 11, 12], [2, 3, 4, 7, 8, 9, 10, 11, 12, 13, 14]] true = some t8 := by kernel_rfl
theorem c25 : compF Try.prog 25 ⟨[], [(1, 1), (15, 1)], [], 0⟩ [[0], [1], [], [1], [1, 4, 5], [1, 4, 5, 6], [1, 4, 5, 6], [1, 4, 5, 6], [6], [1, 4, 5, 6], []] true = some t25 := by kernel_rfl
theorem c27 : compF Try.prog 27 ⟨[], [(7, 1), (11, 1), (16, 1), (21, 1), (27, 1), (33, 1), (41, 1), (45, 1), (50, 1), (55, 1), (61, 1), (67, 1), (5, 5), (72, 5), (76, 5), (78, 1), (83, 5), (89, 5), (96, 5), (101, 1), (103, 1)], [], 0⟩ [[0], [1], [], [1], [1, 3], [1, 3], [1, 3], [], [1, 3], [1], [], [1], [1, 4], [1, 4], [1, 4], [1, 4, 5], [], [1, 4, 5], [1, 4, 5, 6], [1, 4, 5, 6], [1, 4, 5, 6], [], [1, 4, 5, 6], [1, 4], []] true = some t27 := by kernel_rfl
theorem c30 : compF Try.prog 30 ⟨[], [(1, 1)], [], 0⟩ [[0], [1]] true = some t30 := by kernel_rfl
theorem c49 : compF Try.prog 49 ⟨[17], [(2, 2), (15, 2), (20, 2), (26, 2), (8, 8), (32, 8), (38, 8), (47, 8), (53, 2), (61, 2), (67, 2), (76, 8)], [], 0⟩ [[0, 1], [1, 2], [], [1, 2], [1, 2, 5], [1, 2, 5, 6], [1, 2, 5, 6], [1, 2, 5], [1, 2, 5, 6], [1, 2, 5, 6, 7], [1, 2, 5, 6, 7], [1, 2, 5, 6, 7], [1, 2, 5, 6, 7, 8], [1, 2, 5, 6, 7, 8, 9], [1, 2, 5, 6, 7, 8, 9, 10], [1, 2, 5, 6, 7, 8, 9, 10], [1, 2, 5, 6, 7, 8, 10], [1, 2, 5, 6, 7, 8, 10, 11], [1, 2, 5, 6, 7, 8, 9, 10], [1, 2, 5, 6, 7, 8, 9], [1, 2, 5, 7, 8], [1, 2, 5, 6, 7], [5]] true = some t49 := by kernel_rfl
theorem c31 : compF Try.prog 31 ⟨[14], [(1, 1), (12, 1), (19, 1), (25, 1), (6, 6), (31, 6), (37, 6), (44, 6), (49, 1)], [], 0⟩ [[0], [1], [], [1], [1, 3], [1, 3], [1, 3, 4], [1, 3, 4], [1, 3], [1, 3, 4], [1, 3, 4, 5], [1, 3, 4, 5], [1, 3, 4, 5], [1, 3, 4, 5, 6], [1, 3, 4, 5, 6, 7], [1, 3, 4, 5, 6, 7], [1, 3, 4, 5, 6, 7], [1, 3, 4, 5, 6, 7, 8], [1, 3, 5, 6, 7, 8], [1, 3, 4, 5, 6, 7], [1, 3, 4, 5], [3]] true = some t31 := by kernel_rfl
theorem c26 : compF Try.prog 26 ⟨[22, 33], [(1, 1), (20, 1), (24, 1), (31, 1), (36, 1), (42, 1), (8, 8), (48, 8), (53, 8), (58, 1), (64, 8), (69, 1), (73, 8), (85, 1), (91, 1), (97, 1), (134, 1)], [], 0⟩ [[0], [1], [], [1], [1, 4], [1, 4, 5], [1, 4, 5, 6], [1, 4, 5, 6], [1, 4, 5, 6], [1, 4, 5, 6], [1, 4, 5], [1, 4, 5, 7], [1, 4, 5, 7], [1, 4, 5, 7], [1, 4, 5, 7, 8], [1, 4, 5, 7, 8, 9], [1, 4, 5, 7, 8, 9], [1, 4, 5, 7, 8, 9], [1, 4, 5, 7, 8, 9, 10], [1, 4, 5, 7, 8, 9, 10], [1, 4, 5, 7, 8, 9], [1, 4, 5, 7], [1, 5], [1, 5, 11], [1, 5, 11], [1, 5, 11], [1, 5, 11, 12], [1, 5, 11, 12], [1, 5, 11, 12], [1, 5, 11, 12, 13], [1, 5, 11, 12, 13], [1, 5, 11, 12, 13], [1, 5, 11, 12, 13], [1, 5, 11, 12], [1, 5, 11], [1, 5], [1, 5, 14], [1, 5, 14], [1, 5, 14], [14], [1, 5, 14], []] true = some t26 := by kernel_rfl
theorem c29 : compF Try.prog 29 ⟨[], [(1, 1)], [], 0⟩ [[0], [1]] true = some t29 := by kernel_rfl
theorem c28 : compF Try.prog 28 ⟨[], [(2, 2), (11, 2), (17, 2)], [], 0⟩ [[0, 1], [1, 2], [], [1, 2], [1, 2, 5], [1, 2, 5, 6], [1, 2, 5, 6], [1, 2, 5, 6], [1, 2, 5, 6], [1, 2, 5, 6], [5]] true = some t28 := by kernel_rfl
theorem c32 : compF Try.prog 32 ⟨[], [(9, 2), (11, 3), (15, 2), (17, 3), (22, 2), (24, 3), (29, 2), (32, 3), (38, 2), (44, 2), (49, 3), (6, 6), (7, 7), (54, 6), (56, 7), (60, 6), (63, 7), (69, 6), (75, 6), (80, 7)], [], 0⟩ [[0, 1], [2, 3], [], [2, 3], [2, 3, 5], [2, 3, 5], [2, 3, 5], [2, 3, 5, 6, 7], [], [2, 3, 5, 6, 7], [2, 3, 5, 6, 7, 8], [2, 3, 5, 6, 7, 8], [2, 3, 5, 6, 7, 8], [], [2, 3, 5, 6, 7, 8], [2, 3, 5], []] true = some t32 := by kernel_rfl
def tab : List (Nat × AFn) := [(3, t3), (9, t9), (23, t23), (13, t13), (11, t11), (33, t33), (50, t50), (34, t34), (36, t36), (35, t35), (51, t51), (12, t12), (37, t37), (52, t52), (53, t53), (38, t38), (39, t39), (40, t40), (15, t15), (10, t10), (4, t4), (14, t14), (16, t16), (17, t17), (41, t41), (5, t5), (18, t18), (19, t19), (6, t6), (20, t20), (42, t42), (43, t43), (21, t21), (22, t22), (46, t46), (47, t47), (48, t48), (7, t7), (1023, t1023), (24, t24), (8, t8), (25, t25), (27, t27), (30, t30), (49, t49), (31, t31), (26, t26), (29, t29), (28, t28), (32, t32)]
def A : FuncId → Option AFn := assoc tab
theorem fnsOk : FnsOk Try.prog A := assoc_ok (mem_cons_ok ⟨_, _, c3⟩ (mem_cons_ok ⟨_, _, c9⟩ (mem_cons_ok ⟨_, _, c23⟩ (mem_cons_ok ⟨_, _, c13⟩ (mem_cons_ok ⟨_, _, c11⟩ (mem_cons_ok ⟨_, _, c33⟩ (mem_cons_ok ⟨_, _, c50⟩ (mem_cons_ok ⟨_, _, c34⟩ (mem_cons_ok ⟨_, _, c36⟩ (mem_cons_ok ⟨_, _, c35⟩ (mem_cons_ok ⟨_, _, c51⟩ (mem_cons_ok ⟨_, _, c12⟩ (mem_cons_ok ⟨_, _, c37⟩ (mem_cons_ok ⟨_, _, c52⟩ (mem_cons_ok ⟨_, _, c53⟩ (mem_cons_ok ⟨_, _, c38⟩ (mem_cons_ok ⟨_, _, c39⟩ (mem_cons_ok ⟨_, _, c40⟩ (mem_cons_ok ⟨_, _, c15⟩ (mem_cons_ok ⟨_, _, c10⟩ (mem_cons_ok ⟨_, _, c4⟩ (mem_cons_ok ⟨_, _, c14⟩ (mem_cons_ok ⟨_, _, c16⟩ (mem_cons_ok ⟨_, _, c17⟩ (mem_cons_ok ⟨_, _, c41⟩ (mem_cons_ok ⟨_, _, c5⟩ (mem_cons_ok ⟨_, _, c18⟩ (mem_cons_ok ⟨_, _, c19⟩ (mem_cons_ok ⟨_, _, c6⟩ (mem_cons_ok ⟨_, _, c20⟩ (mem_cons_ok ⟨_, _, c42⟩ (mem_cons_ok ⟨_, _, c43⟩ (mem_cons_ok ⟨_, _, c21⟩ (mem_cons_ok ⟨_, _, c22⟩ (mem_cons_ok ⟨_, _, c46⟩ (mem_cons_ok ⟨_, _, c47⟩ (mem_cons_ok ⟨_, _, c48⟩ (mem_cons_ok ⟨_, _, c7⟩ (mem_cons_ok ⟨_, _, c1023⟩ (mem_cons_ok ⟨_, _, c24⟩ (mem_cons_ok ⟨_, _, c8⟩ (mem_cons_ok ⟨_, _, c25⟩ (mem_cons_ok ⟨_, _, c27⟩ (mem_cons_ok ⟨_, _, c30⟩ (mem_cons_ok ⟨_, _, c49⟩ (mem_cons_ok ⟨_, _, c31⟩ (mem_cons_ok ⟨_, _, c26⟩ (mem_cons_ok ⟨_, _, c29⟩ (mem_cons_ok ⟨_, _, c28⟩ (mem_cons_ok ⟨_, _, c32⟩ (mem_nil_ok)))))))))))))))))))))))))))))))))))))))))))))))))))
def prims : List (Nat × Nat × Nat) := [(44, (2, 32)), (45, (1, 8))]
theorem p44 : IsClone Try.prog (44, 2, 32) := ⟨by decide, Try.f44, 22, 4, 34, [(.val (.int .i64 0)), .e0], by kernel_rfl, by decide +kernel, by kernel_rfl, by kernel_rfl, by kernel_rfl, by kernel_rfl, by kernel_rfl, by kernel_rfl, by kernel_rfl, by kernel_rfl, rfl, by decide, by decide⟩
theorem p45 : IsClone Try.prog (45, 1, 8) := ⟨by decide, Try.f45, 32, 4, 3, [(.val (.int .i64 0))], by kernel_rfl, by decide +kernel, by kernel_rfl, by kernel_rfl, by kernel_rfl, by kernel_rfl, by kernel_rfl, by kernel_rfl, by kernel_rfl, by kernel_rfl, rfl, by decide, by decide⟩
theorem primsOk : ∀ p ∈ prims, IsClone Try.prog p := List.forall_mem_cons.2 ⟨p44, List.forall_mem_cons.2 ⟨p45, fun _ h => by cases h⟩⟩
abbrev X : Orc := primX prims
noncomputable abbrev C : Orc := callW X A
theorem orcOk : OrcOk Try.prog C := callW_ok (by kernel_rfl) (primX_ok (by kernel_rfl) primsOk) (primX_fr _) fnsOk
theorem laidOut : laidOutB Try.prog = true := by kernel_rfl
theorem own : ownKnob Try.prog.godebug = none := by kernel_rfl
theorem A3 : A 3 = some t3 := rfl
theorem A9 : A 9 = some t9 := rfl
theorem A23 : A 23 = some t23 := rfl
theorem A13 : A 13 = some t13 := rfl
theorem A11 : A 11 = some t11 := rfl
theorem A33 : A 33 = some t33 := rfl
theorem A50 : A 50 = some t50 := rfl
theorem A34 : A 34 = some t34 := rfl
theorem A36 : A 36 = some t36 := rfl
theorem A35 : A 35 = some t35 := rfl
theorem A51 : A 51 = some t51 := rfl
theorem A12 : A 12 = some t12 := rfl
theorem A37 : A 37 = some t37 := rfl
theorem A52 : A 52 = some t52 := rfl
theorem A53 : A 53 = some t53 := rfl
theorem A38 : A 38 = some t38 := rfl
theorem A39 : A 39 = some t39 := rfl
theorem A40 : A 40 = some t40 := rfl
theorem A15 : A 15 = some t15 := rfl
theorem A10 : A 10 = some t10 := rfl
theorem A4 : A 4 = some t4 := rfl
theorem A14 : A 14 = some t14 := rfl
theorem A16 : A 16 = some t16 := rfl
theorem A17 : A 17 = some t17 := rfl
theorem A41 : A 41 = some t41 := rfl
theorem A5 : A 5 = some t5 := rfl
theorem A18 : A 18 = some t18 := rfl
theorem A19 : A 19 = some t19 := rfl
theorem A6 : A 6 = some t6 := rfl
theorem A20 : A 20 = some t20 := rfl
theorem A42 : A 42 = some t42 := rfl
theorem A43 : A 43 = some t43 := rfl
theorem A21 : A 21 = some t21 := rfl
theorem A22 : A 22 = some t22 := rfl
theorem A46 : A 46 = some t46 := rfl
theorem A47 : A 47 = some t47 := rfl
theorem A48 : A 48 = some t48 := rfl
theorem A7 : A 7 = some t7 := rfl
theorem A1023 : A 1023 = some t1023 := rfl
theorem A24 : A 24 = some t24 := rfl
theorem A8 : A 8 = some t8 := rfl
theorem A25 : A 25 = some t25 := rfl
theorem A27 : A 27 = some t27 := rfl
theorem A30 : A 30 = some t30 := rfl
theorem A49 : A 49 = some t49 := rfl
theorem A31 : A 31 = some t31 := rfl
theorem A26 : A 26 = some t26 := rfl
theorem A29 : A 29 = some t29 := rfl
theorem A28 : A 28 = some t28 := rfl
theorem A32 : A 32 = some t32 := rfl
end Go.Proofs.Ytikedgpcgacgoaa
