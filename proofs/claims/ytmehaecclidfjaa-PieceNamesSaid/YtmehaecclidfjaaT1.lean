/- The functions of a program, compiled: printed by wip/hm/tools/Gen.lean. -/
import Derived.Test.YtmehaecclidfjaaHmG10
import Derived.Test.YtmehaecclidfjaaHmG11
import Derived.Test.YtmehaecclidfjaaJoin
import Derived.Test.YtmehaecclidfjaaRows
namespace Go.Proofs.Ytmehaecclidfjaa
open Go Go.Hm
/-- viewport/viewportlaw08.PieceUndone  -/
def t3L1 : AC := (.seq (.seq (.regN [1, 5, 7, 9] [
        ⟨(some 36), none, .mv (.tmp 9), 0, false⟩,
        ⟨(some 37), none, .mv (.tmp 1), 0, false⟩,
        ⟨(some 38), none, .len false (.tmp 37), 0, false⟩,
        ⟨(some 39), none, .bini .lss (.tmp 36) (.tmp 38), 0, false⟩])
      (.cond (.tmp 39)
        .skip
        (.exit 0)))
      (.seq (.block 1
        (.regD [1, 5, 7, 9] 0 [
          ⟨(some 42), none, .mv (.tmp 7), 0, false⟩,
          ⟨(some 43), none, .mv (.tmp 1), 0, false⟩,
          ⟨(some 44), none, .mv (.tmp 9), 0, false⟩,
          ⟨(some 45), none, .ixA 4 (.tmp 43) (.tmp 44), 0, false⟩,
          ⟨(some 46), none, .fldA 1 (.tmp 45), 0, false⟩,
          ⟨(some 47), none, .ld1 none (.tmp 46), 0, false⟩,
          ⟨(some 48), none, .mv (.tmp 1), 0, false⟩,
          ⟨(some 49), none, .mv (.tmp 9), 0, false⟩,
          ⟨(some 50), none, .ixA 4 (.tmp 48) (.tmp 49), 0, false⟩,
          ⟨(some 51), none, .fldA 2 (.tmp 50), 0, false⟩,
          ⟨(some 52), none, .ld1 none (.tmp 51), 0, false⟩,
          ⟨(some 53), none, .mv (.tmp 1), 0, false⟩,
          ⟨(some 54), none, .mv (.tmp 9), 0, false⟩,
          ⟨(some 55), none, .ixA 4 (.tmp 53) (.tmp 54), 0, false⟩,
          ⟨(some 56), none, .fldA 3 (.tmp 55), 0, false⟩,
          ⟨(some 57), none, .ld1 none (.tmp 56), 0, false⟩,
          ⟨(some 58), none, .call 12 [(.tmp 42), (.tmp 47), (.tmp 52), (.tmp 57)], 0, true⟩]))
      (.regN [1, 5, 7, 9] [
        ⟨(some 40), none, .mv (.tmp 9), 0, false⟩,
        ⟨(some 41), none, .bini .add (.tmp 40) (.con (.val (.int .i64 1))), 0, false⟩,
        ⟨(some 9), none, .mv (.tmp 41), 0, false⟩])))
def t3B : AC := (.seq (.regN [0, 1, 2] [
    ⟨(some 5), none, .boxR 4 (.tmp 2), 0, false⟩,
    ⟨(some 6), none, .mv (.con (.val (.bool false))), 0, false⟩])
  (.seq (.seq (.regN [0, 1, 5] [
    ⟨(some 15), none, .call 8 [], 0, false⟩,
    ⟨(some 16), none, .not (.tmp 15), 0, false⟩])
  (.cond (.tmp 16)
    (.seq (.regN [] [
      ⟨(some 6), none, .mv (.con (.val (.bool false))), 0, false⟩])
    .ret)
    .skip))
  (.seq (.seq (.regD [0, 1, 5] 0 [
    ⟨(some 17), none, .mv (.tmp 0), 0, false⟩,
    ⟨(some 18), none, .mv (.tmp 1), 0, false⟩,
    ⟨(some 19), none, .call 10 [(.tmp 18)], 0, true⟩,
    ⟨(some 20), none, .ldA (some 5) 4 (.tmp 5), 0, false⟩,
    ⟨(some 21), none, .buildS 1 [(.val (.int .i64 0)), (.val (.int .i64 0)), (.val (.int .i64 0)), (.val (.string ⟨#[]⟩))] [(0, 4, (.tmp 20))], 0, false⟩,
    ⟨(some 22), none, .app 4 40 (.tmp 19) (.tmp 21), 0, false⟩,
    ⟨(some 23), none, .call 9 [(.tmp 17), (.tmp 22)], 0, true⟩,
    ⟨(some 24), none, .not (.tmp 23), 0, false⟩])
  (.cond (.tmp 24)
    (.seq (.regN [] [
      ⟨(some 6), none, .mv (.con (.val (.bool true))), 0, false⟩])
    .ret)
    .skip))
  (.seq (.regN [0, 1, 5] [
    ⟨(some 26), none, .mv (.tmp 0), 0, false⟩,
    ⟨(some 27), none, .call 11 [(.tmp 26)], 0, false⟩,
    ⟨(some 25), none, .mv (.tmp 27), 0, false⟩,
    ⟨(some 28), none, .ext (.tmp 25) 0, 0, false⟩,
    ⟨(some 29), none, .ext (.tmp 25) 1, 0, false⟩,
    ⟨(some 7), none, .mv (.tmp 28), 0, false⟩,
    ⟨(some 8), none, .mv (.tmp 29), 0, false⟩])
  (.seq (.seq (.regN [1, 5, 7, 8] [
    ⟨(some 30), none, .mv (.tmp 8), 0, false⟩,
    ⟨(some 31), none, .bini .neq (.tmp 30) (.con (.val (.int .i64 0))), 0, false⟩,
    ⟨(some 32), none, .mv (.tmp 31), 0, false⟩,
    ⟨(some 33), (some (32, false)), .mv (.tmp 7), 0, false⟩,
    ⟨(some 34), (some (32, false)), .eqp false (.tmp 33) (.con (.val (.pointer none))), 0, false⟩,
    ⟨(some 35), none, .pick (.tmp 32) (.con (.val (.bool true))) (.tmp 34), 0, false⟩])
  (.cond (.tmp 35)
    (.seq (.regN [] [
      ⟨(some 6), none, .mv (.con (.val (.bool false))), 0, false⟩])
    .ret)
    .skip))
  (.seq (.seq (.regN [1, 5, 7] [
    ⟨(some 9), none, .mv (.con (.val (.int .i64 0))), 0, false⟩])
  (.block 0
    (.loop [1, 5, 7, 9] t3L1)))
  (.seq (.regN [5, 7] [
    ⟨(some 59), none, .mv (.tmp 7), 0, false⟩,
    ⟨(some 60), none, .call 13 [(.tmp 59)], 0, false⟩,
    ⟨(some 10), none, .mv (.tmp 60), 0, false⟩])
  (.seq (.regN [5, 7, 10] [
    ⟨(some 62), none, .mv (.tmp 7), 0, false⟩,
    ⟨(some 63), none, .fldA 1 (.tmp 5), 0, false⟩,
    ⟨(some 64), none, .ld1 (some 5) (.tmp 63), 0, false⟩,
    ⟨(some 65), none, .fldA 1 (.tmp 5), 0, false⟩,
    ⟨(some 66), none, .ld1 (some 5) (.tmp 65), 0, false⟩,
    ⟨(some 67), none, .fldA 2 (.tmp 5), 0, false⟩,
    ⟨(some 68), none, .ld1 (some 5) (.tmp 67), 0, false⟩,
    ⟨(some 69), none, .mm false [(.tmp 68), (.con (.val (.int .i64 1048576)))], 0, false⟩,
    ⟨(some 70), none, .bini .add (.tmp 66) (.tmp 69), 0, false⟩,
    ⟨(some 71), none, .call 14 [(.tmp 62), (.tmp 64), (.tmp 70)], 0, false⟩,
    ⟨(some 61), none, .mv (.tmp 71), 0, false⟩,
    ⟨(some 72), none, .ext (.tmp 61) 0, 0, false⟩,
    ⟨(some 73), none, .ext (.tmp 61) 1, 0, false⟩,
    ⟨(some 11), none, .mv (.tmp 72), 0, false⟩,
    ⟨(some 12), none, .mv (.tmp 73), 0, false⟩])
  (.seq (.seq (.regN [5, 7, 10, 11] [
    ⟨(some 74), none, .mv (.tmp 7), 0, false⟩,
    ⟨(some 75), none, .fldA 1 (.tmp 5), 0, false⟩,
    ⟨(some 76), none, .ld1 (some 5) (.tmp 75), 0, false⟩,
    ⟨(some 77), none, .fldA 2 (.tmp 5), 0, false⟩,
    ⟨(some 78), none, .ld1 (some 5) (.tmp 77), 0, false⟩,
    ⟨(some 79), none, .fldA 3 (.tmp 5), 0, false⟩,
    ⟨(some 80), none, .ld1 (some 5) (.tmp 79), 0, false⟩,
    ⟨(some 81), none, .call 12 [(.tmp 74), (.tmp 76), (.tmp 78), (.tmp 80)], 0, false⟩,
    ⟨(some 82), none, .bini .neq (.tmp 81) (.con (.val (.int .i64 0))), 0, false⟩])
  (.cond (.tmp 82)
    (.seq (.regN [7, 10] [
      ⟨(some 83), none, .mv (.tmp 7), 0, false⟩,
      ⟨(some 84), none, .call 13 [(.tmp 83)], 0, false⟩,
      ⟨(some 85), none, .mv (.tmp 10), 0, false⟩,
      ⟨(some 86), none, .bins .eql (.tmp 84) (.tmp 85), 0, false⟩,
      ⟨(some 6), none, .mv (.tmp 86), 0, false⟩])
    .ret)
    .skip))
  (.seq (.regN [5, 7, 10, 11] [
    ⟨(some 87), none, .mv (.tmp 7), 0, false⟩,
    ⟨(some 88), none, .call 13 [(.tmp 87)], 0, false⟩,
    ⟨(some 13), none, .mv (.tmp 88), 0, false⟩])
  (.seq (.seq (.regN [5, 7, 10, 11, 13] [
    ⟨(some 89), none, .fldA 1 (.tmp 5), 0, false⟩,
    ⟨(some 90), none, .ld1 (some 5) (.tmp 89), 0, false⟩,
    ⟨(some 91), none, .bini .lss (.tmp 90) (.con (.val (.int .i64 0))), 0, false⟩,
    ⟨(some 92), none, .mv (.tmp 91), 0, false⟩,
    ⟨(some 93), (some (92, false)), .fldA 1 (.tmp 5), 0, false⟩,
    ⟨(some 94), (some (92, false)), .ld1 (some 5) (.tmp 93), 0, false⟩,
    ⟨(some 95), (some (92, false)), .mv (.tmp 10), 0, false⟩,
    ⟨(some 96), (some (92, false)), .len true (.tmp 95), 0, false⟩,
    ⟨(some 97), (some (92, false)), .bini .gtr (.tmp 94) (.tmp 96), 0, false⟩,
    ⟨(some 98), none, .pick (.tmp 92) (.con (.val (.bool true))) (.tmp 97), 0, false⟩,
    ⟨(some 99), none, .mv (.tmp 98), 0, false⟩,
    ⟨(some 100), (some (99, false)), .fldA 2 (.tmp 5), 0, false⟩,
    ⟨(some 101), (some (99, false)), .ld1 (some 5) (.tmp 100), 0, false⟩,
    ⟨(some 102), (some (99, false)), .bini .lss (.tmp 101) (.con (.val (.int .i64 0))), 0, false⟩,
    ⟨(some 103), none, .pick (.tmp 99) (.con (.val (.bool true))) (.tmp 102), 0, false⟩,
    ⟨(some 104), none, .mv (.tmp 103), 0, false⟩,
    ⟨(some 105), (some (104, false)), .fldA 2 (.tmp 5), 0, false⟩,
    ⟨(some 106), (some (104, false)), .ld1 (some 5) (.tmp 105), 0, false⟩,
    ⟨(some 107), (some (104, false)), .mv (.tmp 10), 0, false⟩,
    ⟨(some 108), (some (104, false)), .len true (.tmp 107), 0, false⟩,
    ⟨(some 109), (some (104, false)), .fldA 1 (.tmp 5), 0, false⟩,
    ⟨(some 110), (some (104, false)), .ld1 (some 5) (.tmp 109), 0, false⟩,
    ⟨(some 111), (some (104, false)), .bini .sub (.tmp 108) (.tmp 110), 0, false⟩,
    ⟨(some 112), (some (104, false)), .bini .gtr (.tmp 106) (.tmp 111), 0, false⟩,
    ⟨(some 113), none, .pick (.tmp 104) (.con (.val (.bool true))) (.tmp 112), 0, false⟩])
  (.cond (.tmp 113)
    (.seq (.regN [] [
      ⟨(some 6), none, .mv (.con (.val (.bool false))), 0, false⟩])
    .ret)
    .skip))
  (.seq (.seq (.regD [5, 7, 10, 11, 13] 0 [
    ⟨(some 114), none, .mv (.tmp 13), 0, false⟩,
    ⟨(some 115), none, .mv (.tmp 10), 0, false⟩,
    ⟨(some 116), none, .fldA 1 (.tmp 5), 0, false⟩,
    ⟨(some 117), none, .ld1 (some 5) (.tmp 116), 0, false⟩,
    ⟨(some 118), none, .slS (.tmp 115) none (some (.tmp 117)), 0, false⟩,
    ⟨(some 119), none, .fldA 3 (.tmp 5), 0, false⟩,
    ⟨(some 120), none, .ld1 (some 5) (.tmp 119), 0, false⟩,
    ⟨(some 121), none, .bins .add (.tmp 118) (.tmp 120), 0, false⟩,
    ⟨(some 122), none, .mv (.tmp 10), 0, false⟩,
    ⟨(some 123), none, .fldA 1 (.tmp 5), 0, false⟩,
    ⟨(some 124), none, .ld1 (some 5) (.tmp 123), 0, false⟩,
    ⟨(some 125), none, .fldA 2 (.tmp 5), 0, false⟩,
    ⟨(some 126), none, .ld1 (some 5) (.tmp 125), 0, false⟩,
    ⟨(some 127), none, .bini .add (.tmp 124) (.tmp 126), 0, false⟩,
    ⟨(some 128), none, .slS (.tmp 122) (some (.tmp 127)) none, 0, false⟩,
    ⟨(some 129), none, .bins .add (.tmp 121) (.tmp 128), 0, false⟩,
    ⟨(some 130), none, .bins .neq (.tmp 114) (.tmp 129), 0, false⟩,
    ⟨(some 131), none, .mv (.tmp 130), 0, false⟩,
    ⟨(some 132), (some (131, false)), .mv (.tmp 11), 0, false⟩,
    ⟨(some 133), (some (131, false)), .len true (.tmp 132), 0, false⟩,
    ⟨(some 134), (some (131, false)), .fldA 2 (.tmp 5), 0, false⟩,
    ⟨(some 135), (some (131, false)), .ld1 (some 5) (.tmp 134), 0, false⟩,
    ⟨(some 136), (some (131, false)), .bini .neq (.tmp 133) (.tmp 135), 0, false⟩,
    ⟨(some 137), none, .pick (.tmp 131) (.con (.val (.bool true))) (.tmp 136), 0, false⟩])
  (.cond (.tmp 137)
    (.seq (.regN [] [
      ⟨(some 6), none, .mv (.con (.val (.bool false))), 0, false⟩])
    .ret)
    .skip))
  (.seq (.regN [5, 7, 10, 11] [
    ⟨(some 138), none, .mv (.tmp 7), 0, false⟩,
    ⟨(some 139), none, .fldA 1 (.tmp 5), 0, false⟩,
    ⟨(some 140), none, .ld1 (some 5) (.tmp 139), 0, false⟩,
    ⟨(some 141), none, .fldA 3 (.tmp 5), 0, false⟩,
    ⟨(some 142), none, .ld1 (some 5) (.tmp 141), 0, false⟩,
    ⟨(some 143), none, .len true (.tmp 142), 0, false⟩,
    ⟨(some 144), none, .mv (.tmp 11), 0, false⟩,
    ⟨(some 145), none, .call 12 [(.tmp 138), (.tmp 140), (.tmp 143), (.tmp 144)], 0, false⟩,
    ⟨(some 14), none, .mv (.tmp 145), 0, false⟩])
  (.seq (.regN [7, 10, 14] [
    ⟨(some 146), none, .mv (.tmp 14), 0, false⟩,
    ⟨(some 147), none, .bini .eql (.tmp 146) (.con (.val (.int .i64 0))), 0, false⟩,
    ⟨(some 148), none, .mv (.tmp 147), 0, false⟩,
    ⟨(some 149), (some (148, true)), .mv (.tmp 7), 0, false⟩,
    ⟨(some 150), (some (148, true)), .call 13 [(.tmp 149)], 0, false⟩,
    ⟨(some 151), (some (148, true)), .mv (.tmp 10), 0, false⟩,
    ⟨(some 152), (some (148, true)), .bins .eql (.tmp 150) (.tmp 151), 0, false⟩,
    ⟨(some 153), none, .pick (.tmp 148) (.tmp 152) (.con (.val (.bool false))), 0, false⟩,
    ⟨(some 6), none, .mv (.tmp 153), 0, false⟩])
  .ret))))))))))))))
def t3 : AFn := ⟨3, t3B,
  [.tmp 6], true⟩
/-- viewport/viewportlaw08.lives  -/
def t8B : AC := (.seq (.regN [] [
    ⟨(some 0), none, .mv (.con (.val (.bool false))), 0, false⟩])
  (.seq (.regN [] [
    ⟨(some 5), none, .call 11 [(.con (.val (.string ⟨#[97, 98, 99]⟩)))], 0, false⟩,
    ⟨(some 4), none, .mv (.tmp 5), 0, false⟩,
    ⟨(some 6), none, .ext (.tmp 4) 0, 0, false⟩,
    ⟨(some 7), none, .ext (.tmp 4) 1, 0, false⟩,
    ⟨(some 1), none, .mv (.tmp 6), 0, false⟩,
    ⟨(some 2), none, .mv (.tmp 7), 0, false⟩])
  (.seq (.seq (.regN [1, 2] [
    ⟨(some 8), none, .mv (.tmp 1), 0, false⟩,
    ⟨(some 9), none, .eqp false (.tmp 8) (.con (.val (.pointer none))), 0, false⟩])
  (.cond (.tmp 9)
    (.seq (.regN [] [
      ⟨(some 0), none, .mv (.con (.val (.bool false))), 0, false⟩])
    .ret)
    .skip))
  (.seq (.regN [1, 2] [
    ⟨(some 10), none, .mv (.tmp 1), 0, false⟩,
    ⟨(some 11), none, .call 12 [(.tmp 10), (.con (.val (.int .i64 1))), (.con (.val (.int .i64 1))), (.con (.val (.string ⟨#[120, 121]⟩)))], 0, false⟩,
    ⟨(some 3), none, .mv (.tmp 11), 0, false⟩])
  (.seq (.regN [1, 2, 3] [
    ⟨(some 12), none, .mv (.tmp 2), 0, false⟩,
    ⟨(some 13), none, .bini .eql (.tmp 12) (.con (.val (.int .i64 0))), 0, false⟩,
    ⟨(some 14), none, .mv (.tmp 13), 0, false⟩,
    ⟨(some 15), (some (14, true)), .mv (.tmp 3), 0, false⟩,
    ⟨(some 16), (some (14, true)), .bini .eql (.tmp 15) (.con (.val (.int .i64 0))), 0, false⟩,
    ⟨(some 17), none, .pick (.tmp 14) (.tmp 16) (.con (.val (.bool false))), 0, false⟩,
    ⟨(some 18), none, .mv (.tmp 17), 0, false⟩,
    ⟨(some 19), (some (18, true)), .mv (.tmp 1), 0, false⟩,
    ⟨(some 20), (some (18, true)), .call 13 [(.tmp 19)], 0, false⟩,
    ⟨(some 21), (some (18, true)), .bins .eql (.tmp 20) (.con (.val (.string ⟨#[97, 120, 121, 99]⟩))), 0, false⟩,
    ⟨(some 22), none, .pick (.tmp 18) (.tmp 21) (.con (.val (.bool false))), 0, false⟩,
    ⟨(some 23), none, .mv (.tmp 22), 0, false⟩,
    ⟨(some 24), (some (23, true)), .mv (.tmp 1), 0, false⟩,
    ⟨(some 25), (some (23, true)), .call 17 [(.tmp 24)], 0, false⟩,
    ⟨(some 26), (some (23, true)), .bini .eql (.tmp 25) (.con (.val (.int .i64 4))), 0, false⟩,
    ⟨(some 27), none, .pick (.tmp 23) (.tmp 26) (.con (.val (.bool false))), 0, false⟩,
    ⟨(some 0), none, .mv (.tmp 27), 0, false⟩])
  .ret)))))
def t8 : AFn := ⟨0, t8B,
  [.tmp 0], true⟩
/-- viewport/piece.New  -/
def t11B : AC := (.seq (.regN [0] [
    ⟨(some 2), none, .mv (.con (.val (.pointer none))), 0, false⟩,
    ⟨(some 3), none, .mv (.con (.val (.int .i64 0))), 0, false⟩])
  (.seq (.seq (.regN [0] [
    ⟨(some 5), none, .mv (.tmp 0), 0, false⟩,
    ⟨(some 6), none, .len true (.tmp 5), 0, false⟩,
    ⟨(some 7), none, .bini .gtr (.tmp 6) (.con (.val (.int .i64 65536))), 0, false⟩])
  (.cond (.tmp 7)
    (.seq (.regN [] [
      ⟨(some 2), none, .mv (.con (.val (.pointer none))), 0, false⟩,
      ⟨(some 3), none, .mv (.con (.val (.int .i64 3))), 0, false⟩])
    .ret)
    .skip))
  (.seq (.regN [0] [
    ⟨(some 8), none, .mv (.tmp 0), 0, false⟩,
    ⟨(some 9), none, .mv (.tmp 0), 0, false⟩,
    ⟨(some 10), none, .len true (.tmp 9), 0, false⟩,
    ⟨(some 11), none, .build [(.val (.string ⟨#[]⟩)), (.val (.string ⟨#[]⟩)), (.val (.pointer none)), (.val (.int .i64 0))] [(0, 1, (.tmp 8)), (3, 1, (.tmp 10))], 0, false⟩,
    ⟨(some 12), none, .boxH 4 (.tmp 11), 0, false⟩,
    ⟨(some 4), none, .mv (.tmp 12), 0, false⟩])
  (.seq (.seq (.regN [0, 4, 12] [
    ⟨(some 13), none, .mv (.tmp 0), 0, false⟩,
    ⟨(some 14), none, .bins .neq (.tmp 13) (.con (.val (.string ⟨#[]⟩))), 0, false⟩])
  (.cond (.tmp 14)
    (.regN [0, 4, 12] [
      ⟨(some 15), none, .mv (.tmp 4), 0, false⟩,
      ⟨(some 16), none, .mv (.tmp 0), 0, false⟩,
      ⟨(some 17), none, .len true (.tmp 16), 0, false⟩,
      ⟨(some 18), none, .build [(.val (.bool false)), (.val (.int .i64 0)), (.val (.int .i64 0)), (.val (.pointer none))] [(2, 1, (.tmp 17))], 0, false⟩,
      ⟨(some 19), none, .boxH 4 (.tmp 18), 0, false⟩,
      ⟨(some 20), none, .nilc (.tmp 15), 0, false⟩,
      ⟨(some 21), none, .fldA 2 (.tmp 20), 0, false⟩,
      ⟨none, none, .st none 1 (.tmp 21) (.tmp 19), 0, false⟩])
    .skip))
  (.seq (.regN [4, 12] [
    ⟨(some 22), none, .mv (.tmp 4), 0, false⟩,
    ⟨(some 2), none, .mv (.tmp 22), 0, false⟩,
    ⟨(some 3), none, .mv (.con (.val (.int .i64 0))), 0, false⟩])
  .ret)))))
def t11 : AFn := ⟨1, t11B,
  [.tmp 2, .tmp 3], false⟩
/-- (*viewport/piece.Table).Edit  -/
def t12B : AC := (.seq (.regN [0, 1, 2, 3, 73] [
    ⟨(some 8), none, .mv (.con (.val (.int .i64 0))), 0, false⟩])
  (.seq (.block 0
    (.seq (.regN [0, 1, 2, 3, 73] [
      ⟨(some 11), none, .mv (.tmp 0), 0, false⟩,
      ⟨(some 12), none, .eqp false (.tmp 11) (.con (.val (.pointer none))), 0, false⟩,
      ⟨(some 10), none, .mv (.tmp 12), 0, false⟩])
    (.cond (.tmp 10)
      (.seq (.regN [] [
        ⟨(some 8), none, .mv (.con (.val (.int .i64 1))), 0, false⟩])
      .ret)
      (.seq (.regN [0, 1, 2, 3, 73] [
        ⟨(some 14), none, .mv (.tmp 1), 0, false⟩,
        ⟨(some 15), none, .bini .lss (.tmp 14) (.con (.val (.int .i64 0))), 0, false⟩,
        ⟨(some 16), none, .mv (.tmp 15), 0, false⟩,
        ⟨(some 17), (some (16, false)), .mv (.tmp 2), 0, false⟩,
        ⟨(some 18), (some (16, false)), .bini .lss (.tmp 17) (.con (.val (.int .i64 0))), 0, false⟩,
        ⟨(some 19), none, .pick (.tmp 16) (.con (.val (.bool true))) (.tmp 18), 0, false⟩,
        ⟨(some 20), none, .mv (.tmp 19), 0, false⟩,
        ⟨(some 21), (some (20, false)), .mv (.tmp 1), 0, false⟩,
        ⟨(some 22), (some (20, false)), .mv (.tmp 0), 0, false⟩,
        ⟨(some 23), (some (20, false)), .nilc (.tmp 22), 0, false⟩,
        ⟨(some 24), (some (20, false)), .fldA 3 (.tmp 23), 0, false⟩,
        ⟨(some 25), (some (20, false)), .ld1 none (.tmp 24), 0, false⟩,
        ⟨(some 26), (some (20, false)), .bini .gtr (.tmp 21) (.tmp 25), 0, false⟩,
        ⟨(some 27), none, .pick (.tmp 20) (.con (.val (.bool true))) (.tmp 26), 0, false⟩,
        ⟨(some 28), none, .mv (.tmp 27), 0, false⟩,
        ⟨(some 29), (some (28, false)), .mv (.tmp 2), 0, false⟩,
        ⟨(some 30), (some (28, false)), .mv (.tmp 0), 0, false⟩,
        ⟨(some 31), (some (28, false)), .nilc (.tmp 30), 0, false⟩,
        ⟨(some 32), (some (28, false)), .fldA 3 (.tmp 31), 0, false⟩,
        ⟨(some 33), (some (28, false)), .ld1 none (.tmp 32), 0, false⟩,
        ⟨(some 34), (some (28, false)), .mv (.tmp 1), 0, false⟩,
        ⟨(some 35), (some (28, false)), .bini .sub (.tmp 33) (.tmp 34), 0, false⟩,
        ⟨(some 36), (some (28, false)), .bini .gtr (.tmp 29) (.tmp 35), 0, false⟩,
        ⟨(some 37), none, .pick (.tmp 28) (.con (.val (.bool true))) (.tmp 36), 0, false⟩,
        ⟨(some 13), none, .mv (.tmp 37), 0, false⟩])
      (.cond (.tmp 13)
        (.seq (.regN [] [
          ⟨(some 8), none, .mv (.con (.val (.int .i64 2))), 0, false⟩])
        .ret)
        (.seq (.regN [0, 1, 2, 3, 73] [
          ⟨(some 39), none, .mv (.tmp 0), 0, false⟩,
          ⟨(some 40), none, .nilc (.tmp 39), 0, false⟩,
          ⟨(some 41), none, .fldA 3 (.tmp 40), 0, false⟩,
          ⟨(some 42), none, .ld1 none (.tmp 41), 0, false⟩,
          ⟨(some 43), none, .mv (.tmp 2), 0, false⟩,
          ⟨(some 44), none, .bini .sub (.tmp 42) (.tmp 43), 0, false⟩,
          ⟨(some 45), none, .mv (.tmp 3), 0, false⟩,
          ⟨(some 46), none, .len true (.tmp 45), 0, false⟩,
          ⟨(some 47), none, .bini .add (.tmp 44) (.tmp 46), 0, false⟩,
          ⟨(some 48), none, .bini .gtr (.tmp 47) (.con (.val (.int .i64 65536))), 0, false⟩,
          ⟨(some 38), none, .mv (.tmp 48), 0, false⟩])
        (.cond (.tmp 38)
          (.seq (.regN [] [
            ⟨(some 8), none, .mv (.con (.val (.int .i64 3))), 0, false⟩])
          .ret)
          .skip)))))))
  (.seq (.regN [0, 1, 2, 3, 73] [
    ⟨(some 49), none, .mv (.tmp 0), 0, false⟩,
    ⟨(some 50), none, .mv (.tmp 1), 0, false⟩,
    ⟨(some 51), none, .mv (.tmp 2), 0, false⟩,
    ⟨(some 52), none, .bini .add (.tmp 50) (.tmp 51), 0, false⟩,
    ⟨(some 53), none, .call 26 [(.tmp 49), (.tmp 52)], 0, false⟩,
    ⟨(some 54), none, .nilc (.tmp 53), 0, false⟩,
    ⟨(some 55), none, .ld1 none (.tmp 54), 0, false⟩,
    ⟨(some 9), none, .mv (.tmp 55), 0, false⟩])
  (.seq (.seq (.regN [0, 1, 2, 3, 9, 73] [
    ⟨(some 56), none, .mv (.tmp 3), 0, false⟩,
    ⟨(some 57), none, .bins .neq (.tmp 56) (.con (.val (.string ⟨#[]⟩))), 0, false⟩])
  (.cond (.tmp 57)
    (.seq (.regD [0, 1, 2, 3, 9, 73] 1 [
      ⟨(some 58), none, .mv (.tmp 0), 0, false⟩,
      ⟨(some 59), none, .nilc (.tmp 58), 0, false⟩,
      ⟨(some 60), none, .fldA 1 (.tmp 59), 0, false⟩,
      ⟨(some 61), none, .ld1 none (.tmp 60), 0, false⟩,
      ⟨(some 62), none, .len true (.tmp 61), 0, false⟩,
      ⟨(some 63), none, .mv (.tmp 0), 0, false⟩,
      ⟨(some 64), none, .nilc (.tmp 63), 0, false⟩,
      ⟨(some 65), none, .fldA 1 (.tmp 64), 0, false⟩,
      ⟨(some 66), none, .ld1 none (.tmp 65), 0, false⟩,
      ⟨(some 67), none, .len true (.tmp 66), 0, false⟩,
      ⟨(some 68), none, .mv (.tmp 3), 0, false⟩,
      ⟨(some 69), none, .len true (.tmp 68), 0, false⟩,
      ⟨(some 70), none, .bini .add (.tmp 67) (.tmp 69), 0, false⟩,
      ⟨(some 71), none, .mv (.tmp 9), 0, false⟩,
      ⟨(some 72), none, .build [(.val (.bool false)), (.val (.int .i64 0)), (.val (.int .i64 0)), (.val (.pointer none))] [(0, 1, (.con (.val (.bool true)))), (1, 1, (.tmp 62)), (2, 1, (.tmp 70)), (3, 1, (.tmp 71))], 0, false⟩,
      ⟨(some 73), none, .boxH 4 (.tmp 72), 0, false⟩,
      ⟨(some 9), none, .mv (.tmp 73), 0, false⟩])
    (.regN [0, 1, 2, 3, 9, 73] [
      ⟨(some 74), none, .mv (.tmp 0), 0, false⟩,
      ⟨(some 75), none, .nilc (.tmp 74), 0, false⟩,
      ⟨(some 76), none, .fldA 1 (.tmp 75), 0, false⟩,
      ⟨(some 77), none, .ld1 none (.tmp 76), 0, false⟩,
      ⟨(some 78), none, .mv (.tmp 3), 0, false⟩,
      ⟨(some 79), none, .bins .add (.tmp 77) (.tmp 78), 0, false⟩,
      ⟨(some 80), none, .nilc (.tmp 74), 0, false⟩,
      ⟨(some 81), none, .fldA 1 (.tmp 80), 0, false⟩,
      ⟨none, none, .st none 1 (.tmp 81) (.tmp 79), 0, false⟩]))
    .skip))
  (.seq (.regN [0, 1, 2, 3, 9, 73] [
    ⟨(some 82), none, .mv (.tmp 0), 0, false⟩,
    ⟨(some 83), none, .mv (.tmp 1), 0, false⟩,
    ⟨(some 84), none, .call 26 [(.tmp 82), (.tmp 83)], 0, false⟩,
    ⟨(some 85), none, .mv (.tmp 9), 0, false⟩,
    ⟨(some 86), none, .nilc (.tmp 84), 0, false⟩,
    ⟨none, none, .st none 1 (.tmp 86) (.tmp 85), 0, false⟩])
  (.seq (.regN [0, 2, 3] [
    ⟨(some 87), none, .mv (.tmp 0), 0, false⟩,
    ⟨(some 88), none, .nilc (.tmp 87), 0, false⟩,
    ⟨(some 89), none, .fldA 3 (.tmp 88), 0, false⟩,
    ⟨(some 90), none, .ld1 none (.tmp 89), 0, false⟩,
    ⟨(some 91), none, .mv (.tmp 3), 0, false⟩,
    ⟨(some 92), none, .len true (.tmp 91), 0, false⟩,
    ⟨(some 93), none, .mv (.tmp 2), 0, false⟩,
    ⟨(some 94), none, .bini .sub (.tmp 92) (.tmp 93), 0, false⟩,
    ⟨(some 95), none, .bini .add (.tmp 90) (.tmp 94), 0, false⟩,
    ⟨(some 96), none, .nilc (.tmp 87), 0, false⟩,
    ⟨(some 97), none, .fldA 3 (.tmp 96), 0, false⟩,
    ⟨none, none, .st none 1 (.tmp 97) (.tmp 95), 0, false⟩])
  (.seq (.regN [] [
    ⟨(some 8), none, .mv (.con (.val (.int .i64 0))), 0, false⟩])
  .ret)))))))
def t12 : AFn := ⟨4, t12B,
  [.tmp 8], false⟩
/-- (*viewport/piece.Table).cut  -/
def t26L1 : AC := (.seq (.seq (.regN [1, 5] [
        ⟨(some 10), none, .mv (.tmp 5), 0, false⟩,
        ⟨(some 11), none, .nilc (.tmp 10), 0, false⟩,
        ⟨(some 12), none, .ld1 none (.tmp 11), 0, false⟩,
        ⟨(some 13), none, .eqp true (.tmp 12) (.con (.val (.pointer none))), 0, false⟩,
        ⟨(some 14), none, .mv (.tmp 13), 0, false⟩,
        ⟨(some 15), (some (14, true)), .mv (.tmp 1), 0, false⟩,
        ⟨(some 16), (some (14, true)), .bini .gtr (.tmp 15) (.con (.val (.int .i64 0))), 0, false⟩,
        ⟨(some 17), none, .pick (.tmp 14) (.tmp 16) (.con (.val (.bool false))), 0, false⟩])
      (.cond (.tmp 17)
        .skip
        (.exit 0)))
      (.block 1
        (.seq (.regN [1, 5] [
          ⟨(some 18), none, .mv (.tmp 5), 0, false⟩,
          ⟨(some 19), none, .nilc (.tmp 18), 0, false⟩,
          ⟨(some 20), none, .ld1 none (.tmp 19), 0, false⟩,
          ⟨(some 6), none, .mv (.tmp 20), 0, false⟩])
        (.seq (.seq (.regD [1, 6] 0 [
          ⟨(some 21), none, .mv (.tmp 1), 0, false⟩,
          ⟨(some 22), none, .mv (.tmp 6), 0, false⟩,
          ⟨(some 23), none, .nilc (.tmp 22), 0, false⟩,
          ⟨(some 24), none, .fldA 2 (.tmp 23), 0, false⟩,
          ⟨(some 25), none, .ld1 none (.tmp 24), 0, false⟩,
          ⟨(some 26), none, .mv (.tmp 6), 0, false⟩,
          ⟨(some 27), none, .nilc (.tmp 26), 0, false⟩,
          ⟨(some 28), none, .fldA 1 (.tmp 27), 0, false⟩,
          ⟨(some 29), none, .ld1 none (.tmp 28), 0, false⟩,
          ⟨(some 30), none, .bini .sub (.tmp 25) (.tmp 29), 0, false⟩,
          ⟨(some 31), none, .bini .lss (.tmp 21) (.tmp 30), 0, false⟩])
        (.cond (.tmp 31)
          (.seq (.regD [1, 6] 1 [
            ⟨(some 32), none, .mv (.tmp 6), 0, false⟩,
            ⟨(some 33), none, .mv (.tmp 6), 0, false⟩,
            ⟨(some 34), none, .nilc (.tmp 33), 0, false⟩,
            ⟨(some 35), none, .fldA 0 (.tmp 34), 0, false⟩,
            ⟨(some 36), none, .ld1 none (.tmp 35), 0, false⟩,
            ⟨(some 37), none, .mv (.tmp 6), 0, false⟩,
            ⟨(some 38), none, .nilc (.tmp 37), 0, false⟩,
            ⟨(some 39), none, .fldA 1 (.tmp 38), 0, false⟩,
            ⟨(some 40), none, .ld1 none (.tmp 39), 0, false⟩,
            ⟨(some 41), none, .mv (.tmp 1), 0, false⟩,
            ⟨(some 42), none, .bini .add (.tmp 40) (.tmp 41), 0, false⟩,
            ⟨(some 43), none, .mv (.tmp 6), 0, false⟩,
            ⟨(some 44), none, .nilc (.tmp 43), 0, false⟩,
            ⟨(some 45), none, .fldA 2 (.tmp 44), 0, false⟩,
            ⟨(some 46), none, .ld1 none (.tmp 45), 0, false⟩,
            ⟨(some 47), none, .mv (.tmp 6), 0, false⟩,
            ⟨(some 48), none, .nilc (.tmp 47), 0, false⟩,
            ⟨(some 49), none, .fldA 3 (.tmp 48), 0, false⟩,
            ⟨(some 50), none, .ld1 none (.tmp 49), 0, false⟩,
            ⟨(some 51), none, .build [(.val (.bool false)), (.val (.int .i64 0)), (.val (.int .i64 0)), (.val (.pointer none))] [(0, 1, (.tmp 36)), (1, 1, (.tmp 42)), (2, 1, (.tmp 46)), (3, 1, (.tmp 50))], 0, false⟩,
            ⟨(some 52), none, .boxH 4 (.tmp 51), 0, false⟩,
            ⟨(some 53), none, .nilc (.tmp 32), 0, false⟩,
            ⟨(some 54), none, .fldA 3 (.tmp 53), 0, false⟩,
            ⟨none, none, .st none 1 (.tmp 54) (.tmp 52), 0, false⟩])
          (.seq (.regN [1, 6] [
            ⟨(some 55), none, .mv (.tmp 6), 0, false⟩,
            ⟨(some 56), none, .mv (.tmp 6), 0, false⟩,
            ⟨(some 57), none, .nilc (.tmp 56), 0, false⟩,
            ⟨(some 58), none, .fldA 1 (.tmp 57), 0, false⟩,
            ⟨(some 59), none, .ld1 none (.tmp 58), 0, false⟩,
            ⟨(some 60), none, .mv (.tmp 1), 0, false⟩,
            ⟨(some 61), none, .bini .add (.tmp 59) (.tmp 60), 0, false⟩,
            ⟨(some 62), none, .nilc (.tmp 55), 0, false⟩,
            ⟨(some 63), none, .fldA 2 (.tmp 62), 0, false⟩,
            ⟨none, none, .st none 1 (.tmp 63) (.tmp 61), 0, false⟩])
          (.seq (.regN [6] [
            ⟨(some 64), none, .mv (.tmp 6), 0, false⟩,
            ⟨(some 65), none, .nilc (.tmp 64), 0, false⟩,
            ⟨(some 66), none, .fldA 3 (.tmp 65), 0, false⟩,
            ⟨(some 4), none, .mv (.tmp 66), 0, false⟩])
          .ret)))
          .skip))
        (.seq (.regD [1, 6] 0 [
          ⟨(some 67), none, .mv (.tmp 1), 0, false⟩,
          ⟨(some 68), none, .mv (.tmp 6), 0, false⟩,
          ⟨(some 69), none, .nilc (.tmp 68), 0, false⟩,
          ⟨(some 70), none, .fldA 2 (.tmp 69), 0, false⟩,
          ⟨(some 71), none, .ld1 none (.tmp 70), 0, false⟩,
          ⟨(some 72), none, .mv (.tmp 6), 0, false⟩,
          ⟨(some 73), none, .nilc (.tmp 72), 0, false⟩,
          ⟨(some 74), none, .fldA 1 (.tmp 73), 0, false⟩,
          ⟨(some 75), none, .ld1 none (.tmp 74), 0, false⟩,
          ⟨(some 76), none, .bini .sub (.tmp 71) (.tmp 75), 0, false⟩,
          ⟨(some 77), none, .bini .sub (.tmp 67) (.tmp 76), 0, false⟩,
          ⟨(some 1), none, .mv (.tmp 77), 0, false⟩])
        (.regN [1, 6] [
          ⟨(some 78), none, .mv (.tmp 6), 0, false⟩,
          ⟨(some 79), none, .nilc (.tmp 78), 0, false⟩,
          ⟨(some 80), none, .fldA 3 (.tmp 79), 0, false⟩,
          ⟨(some 5), none, .mv (.tmp 80), 0, false⟩]))))))
def t26B : AC := (.seq (.regN [0, 1] [
    ⟨(some 4), none, .mv (.con (.val (.pointer none))), 0, false⟩])
  (.seq (.regN [0, 1] [
    ⟨(some 7), none, .mv (.tmp 0), 0, false⟩,
    ⟨(some 8), none, .nilc (.tmp 7), 0, false⟩,
    ⟨(some 9), none, .fldA 2 (.tmp 8), 0, false⟩,
    ⟨(some 5), none, .mv (.tmp 9), 0, false⟩])
  (.seq (.block 0
    (.loop [1, 5] t26L1))
  (.seq (.regN [5] [
    ⟨(some 81), none, .mv (.tmp 5), 0, false⟩,
    ⟨(some 4), none, .mv (.tmp 81), 0, false⟩])
  .ret))))
def t26 : AFn := ⟨2, t26B,
  [.tmp 4], false⟩
/-- (*viewport/piece.Table).Text  -/
def t13B : AC := (.seq (.regN [0] [
    ⟨(some 2), none, .mv (.con (.val (.string ⟨#[]⟩))), 0, false⟩])
  (.seq (.regN [0] [
    ⟨(some 3), none, .mv (.tmp 0), 0, false⟩,
    ⟨(some 4), none, .call 28 [(.tmp 3)], 0, false⟩,
    ⟨(some 5), none, .call 27 [(.tmp 4), (.con (.val (.string ⟨#[]⟩)))], 0, false⟩,
    ⟨(some 2), none, .mv (.tmp 5), 0, false⟩])
  .ret))
def t13 : AFn := ⟨1, t13B,
  [.tmp 2], true⟩
/-- (*viewport/piece.Table).pieces  -/
def t28L1 : AC := (.seq (.seq (.regN [0, 2, 3] [
        ⟨(some 10), none, .mv (.tmp 3), 0, false⟩,
        ⟨(some 11), none, .eqp true (.tmp 10) (.con (.val (.pointer none))), 0, false⟩])
      (.cond (.tmp 11)
        .skip
        (.exit 0)))
      (.seq (.block 1
        (.seq (.regN [0, 2, 3] [
          ⟨(some 16), none, .mv (.tmp 3), 0, false⟩,
          ⟨(some 17), none, .nilc (.tmp 16), 0, false⟩,
          ⟨(some 18), none, .fldA 0 (.tmp 17), 0, false⟩,
          ⟨(some 19), none, .ld1 none (.tmp 18), 0, false⟩])
        (.cond (.tmp 19)
          (.regD [0, 2, 3] 0 [
            ⟨(some 20), none, .mv (.tmp 2), 0, false⟩,
            ⟨(some 21), none, .mv (.tmp 0), 0, false⟩,
            ⟨(some 22), none, .nilc (.tmp 21), 0, false⟩,
            ⟨(some 23), none, .fldA 1 (.tmp 22), 0, false⟩,
            ⟨(some 24), none, .ld1 none (.tmp 23), 0, false⟩,
            ⟨(some 25), none, .mv (.tmp 3), 0, false⟩,
            ⟨(some 26), none, .nilc (.tmp 25), 0, false⟩,
            ⟨(some 27), none, .fldA 1 (.tmp 26), 0, false⟩,
            ⟨(some 28), none, .ld1 none (.tmp 27), 0, false⟩,
            ⟨(some 29), none, .mv (.tmp 3), 0, false⟩,
            ⟨(some 30), none, .nilc (.tmp 29), 0, false⟩,
            ⟨(some 31), none, .fldA 2 (.tmp 30), 0, false⟩,
            ⟨(some 32), none, .ld1 none (.tmp 31), 0, false⟩,
            ⟨(some 33), none, .slS (.tmp 24) (some (.tmp 28)) (some (.tmp 32)), 0, false⟩,
            ⟨(some 34), none, .buildS 1 [(.val (.string ⟨#[]⟩))] [(0, 1, (.tmp 33))], 0, false⟩,
            ⟨(some 35), none, .app 1 16 (.tmp 20) (.tmp 34), 0, false⟩,
            ⟨(some 2), none, .mv (.tmp 35), 0, false⟩])
          (.regD [0, 2, 3] 0 [
            ⟨(some 36), none, .mv (.tmp 2), 0, false⟩,
            ⟨(some 37), none, .mv (.tmp 0), 0, false⟩,
            ⟨(some 38), none, .nilc (.tmp 37), 0, false⟩,
            ⟨(some 39), none, .fldA 0 (.tmp 38), 0, false⟩,
            ⟨(some 40), none, .ld1 none (.tmp 39), 0, false⟩,
            ⟨(some 41), none, .mv (.tmp 3), 0, false⟩,
            ⟨(some 42), none, .nilc (.tmp 41), 0, false⟩,
            ⟨(some 43), none, .fldA 1 (.tmp 42), 0, false⟩,
            ⟨(some 44), none, .ld1 none (.tmp 43), 0, false⟩,
            ⟨(some 45), none, .mv (.tmp 3), 0, false⟩,
            ⟨(some 46), none, .nilc (.tmp 45), 0, false⟩,
            ⟨(some 47), none, .fldA 2 (.tmp 46), 0, false⟩,
            ⟨(some 48), none, .ld1 none (.tmp 47), 0, false⟩,
            ⟨(some 49), none, .slS (.tmp 40) (some (.tmp 44)) (some (.tmp 48)), 0, false⟩,
            ⟨(some 50), none, .buildS 1 [(.val (.string ⟨#[]⟩))] [(0, 1, (.tmp 49))], 0, false⟩,
            ⟨(some 51), none, .app 1 16 (.tmp 36) (.tmp 50), 0, false⟩,
            ⟨(some 2), none, .mv (.tmp 51), 0, false⟩]))))
      (.regN [0, 2, 3] [
        ⟨(some 12), none, .mv (.tmp 3), 0, false⟩,
        ⟨(some 13), none, .nilc (.tmp 12), 0, false⟩,
        ⟨(some 14), none, .fldA 3 (.tmp 13), 0, false⟩,
        ⟨(some 15), none, .ld1 none (.tmp 14), 0, false⟩,
        ⟨(some 3), none, .mv (.tmp 15), 0, false⟩])))
def t28B : AC := (.seq (.regN [0] [
    ⟨(some 2), none, .mv (.con .e0), 0, false⟩])
  (.seq (.seq (.regN [0, 2] [
    ⟨(some 4), none, .mv (.tmp 0), 0, false⟩,
    ⟨(some 5), none, .eqp false (.tmp 4) (.con (.val (.pointer none))), 0, false⟩])
  (.cond (.tmp 5)
    (.seq (.regN [] [
      ⟨(some 2), none, .mv (.con .e0), 0, false⟩])
    .ret)
    .skip))
  (.seq (.seq (.regN [0, 2] [
    ⟨(some 6), none, .mv (.tmp 0), 0, false⟩,
    ⟨(some 7), none, .nilc (.tmp 6), 0, false⟩,
    ⟨(some 8), none, .fldA 2 (.tmp 7), 0, false⟩,
    ⟨(some 9), none, .ld1 none (.tmp 8), 0, false⟩,
    ⟨(some 3), none, .mv (.tmp 9), 0, false⟩])
  (.block 0
    (.loop [0, 2, 3] t28L1)))
  (.seq (.regN [2] [
    ⟨(some 52), none, .mv (.tmp 2), 0, false⟩,
    ⟨(some 2), none, .mv (.tmp 52), 0, false⟩])
  .ret))))
def t28 : AFn := ⟨1, t28B,
  [.tmp 2], true⟩
/-- (*viewport/piece.Table).Len  -/
def t17B : AC := (.seq (.regN [0] [
    ⟨(some 2), none, .mv (.con (.val (.int .i64 0))), 0, false⟩])
  (.seq (.seq (.regN [0] [
    ⟨(some 3), none, .mv (.tmp 0), 0, false⟩,
    ⟨(some 4), none, .eqp false (.tmp 3) (.con (.val (.pointer none))), 0, false⟩])
  (.cond (.tmp 4)
    (.seq (.regN [] [
      ⟨(some 2), none, .mv (.con (.val (.int .i64 0))), 0, false⟩])
    .ret)
    .skip))
  (.seq (.regN [0] [
    ⟨(some 5), none, .mv (.tmp 0), 0, false⟩,
    ⟨(some 6), none, .nilc (.tmp 5), 0, false⟩,
    ⟨(some 7), none, .fldA 3 (.tmp 6), 0, false⟩,
    ⟨(some 8), none, .ld1 none (.tmp 7), 0, false⟩,
    ⟨(some 2), none, .mv (.tmp 8), 0, false⟩])
  .ret)))
def t17 : AFn := ⟨1, t17B,
  [.tmp 2], true⟩
/-- viewport/viewportkit.Own[viewport/viewportlaw08.Act]  -/
def t10B : AC := (.seq (.regN [0] [
    ⟨(some 2), none, .mv (.con .e0), 0, false⟩])
  (.seq (.regN [0] [
    ⟨(some 3), none, .buildS 0 [] [], 0, false⟩,
    ⟨(some 4), none, .mv (.tmp 0), 0, false⟩,
    ⟨(some 5), none, .app 4 40 (.tmp 3) (.tmp 4), 0, false⟩,
    ⟨(some 2), none, .mv (.tmp 5), 0, false⟩])
  .ret))
def t10 : AFn := ⟨1, t10B,
  [.tmp 2], false⟩
/-- viewport/viewportlaw08.light  -/
def t9L1 : AC := (.seq (.seq (.regN [0, 1, 5] [
        ⟨(some 6), none, .mv (.tmp 5), 0, false⟩,
        ⟨(some 7), none, .mv (.tmp 1), 0, false⟩,
        ⟨(some 8), none, .len false (.tmp 7), 0, false⟩,
        ⟨(some 9), none, .bini .lss (.tmp 6) (.tmp 8), 0, false⟩])
      (.cond (.tmp 9)
        .skip
        (.exit 0)))
      (.seq (.block 1
        (.seq (.regN [0, 1, 5] [
          ⟨(some 12), none, .mv (.tmp 1), 0, false⟩,
          ⟨(some 13), none, .mv (.tmp 5), 0, false⟩,
          ⟨(some 14), none, .ixA 4 (.tmp 12) (.tmp 13), 0, false⟩,
          ⟨(some 15), none, .fldA 3 (.tmp 14), 0, false⟩,
          ⟨(some 16), none, .ld1 none (.tmp 15), 0, false⟩,
          ⟨(some 17), none, .len true (.tmp 16), 0, false⟩,
          ⟨(some 18), none, .bini .gtr (.tmp 17) (.con (.val (.int .i64 60))), 0, false⟩])
        (.cond (.tmp 18)
          (.seq (.regN [] [
            ⟨(some 4), none, .mv (.con (.val (.bool false))), 0, false⟩])
          .ret)
          .skip)))
      (.regN [0, 1, 5] [
        ⟨(some 10), none, .mv (.tmp 5), 0, false⟩,
        ⟨(some 11), none, .bini .add (.tmp 10) (.con (.val (.int .i64 1))), 0, false⟩,
        ⟨(some 5), none, .mv (.tmp 11), 0, false⟩])))
def t9B : AC := (.seq (.regN [0, 1] [
    ⟨(some 4), none, .mv (.con (.val (.bool false))), 0, false⟩])
  (.seq (.seq (.regN [0, 1] [
    ⟨(some 5), none, .mv (.con (.val (.int .i64 0))), 0, false⟩])
  (.block 0
    (.loop [0, 1, 5] t9L1)))
  (.seq (.regN [0, 1] [
    ⟨(some 19), none, .mv (.tmp 0), 0, false⟩,
    ⟨(some 20), none, .len true (.tmp 19), 0, false⟩,
    ⟨(some 21), none, .bini .leq (.tmp 20) (.con (.val (.int .i64 300))), 0, false⟩,
    ⟨(some 22), none, .mv (.tmp 21), 0, false⟩,
    ⟨(some 23), (some (22, true)), .mv (.tmp 1), 0, false⟩,
    ⟨(some 24), (some (22, true)), .len false (.tmp 23), 0, false⟩,
    ⟨(some 25), (some (22, true)), .bini .leq (.tmp 24) (.con (.val (.int .i64 60))), 0, false⟩,
    ⟨(some 26), none, .pick (.tmp 22) (.tmp 25) (.con (.val (.bool false))), 0, false⟩,
    ⟨(some 4), none, .mv (.tmp 26), 0, false⟩])
  .ret)))
def t9 : AFn := ⟨2, t9B,
  [.tmp 4], true⟩
/-- (*viewport/piece.Table).Slice  -/
def t14B : AC := (.seq (.regN [0, 1, 2] [
    ⟨(some 6), none, .mv (.con (.val (.string ⟨#[]⟩))), 0, false⟩,
    ⟨(some 7), none, .mv (.con (.val (.int .i64 0))), 0, false⟩])
  (.seq (.block 0
    (.seq (.regN [0, 1, 2] [
      ⟨(some 9), none, .mv (.tmp 0), 0, false⟩,
      ⟨(some 10), none, .eqp false (.tmp 9) (.con (.val (.pointer none))), 0, false⟩,
      ⟨(some 8), none, .mv (.tmp 10), 0, false⟩])
    (.cond (.tmp 8)
      (.seq (.regN [] [
        ⟨(some 6), none, .mv (.con (.val (.string ⟨#[]⟩))), 0, false⟩,
        ⟨(some 7), none, .mv (.con (.val (.int .i64 1))), 0, false⟩])
      .ret)
      (.seq (.regN [0, 1, 2] [
        ⟨(some 12), none, .mv (.tmp 1), 0, false⟩,
        ⟨(some 13), none, .bini .lss (.tmp 12) (.con (.val (.int .i64 0))), 0, false⟩,
        ⟨(some 14), none, .mv (.tmp 13), 0, false⟩,
        ⟨(some 15), (some (14, false)), .mv (.tmp 1), 0, false⟩,
        ⟨(some 16), (some (14, false)), .mv (.tmp 2), 0, false⟩,
        ⟨(some 17), (some (14, false)), .bini .gtr (.tmp 15) (.tmp 16), 0, false⟩,
        ⟨(some 18), none, .pick (.tmp 14) (.con (.val (.bool true))) (.tmp 17), 0, false⟩,
        ⟨(some 19), none, .mv (.tmp 18), 0, false⟩,
        ⟨(some 20), (some (19, false)), .mv (.tmp 2), 0, false⟩,
        ⟨(some 21), (some (19, false)), .mv (.tmp 0), 0, false⟩,
        ⟨(some 22), (some (19, false)), .nilc (.tmp 21), 0, false⟩,
        ⟨(some 23), (some (19, false)), .fldA 3 (.tmp 22), 0, false⟩,
        ⟨(some 24), (some (19, false)), .ld1 none (.tmp 23), 0, false⟩,
        ⟨(some 25), (some (19, false)), .bini .gtr (.tmp 20) (.tmp 24), 0, false⟩,
        ⟨(some 26), none, .pick (.tmp 19) (.con (.val (.bool true))) (.tmp 25), 0, false⟩,
        ⟨(some 11), none, .mv (.tmp 26), 0, false⟩])
      (.cond (.tmp 11)
        (.seq (.regN [] [
          ⟨(some 6), none, .mv (.con (.val (.string ⟨#[]⟩))), 0, false⟩,
          ⟨(some 7), none, .mv (.con (.val (.int .i64 2))), 0, false⟩])
        .ret)
        .skip)))))
  (.seq (.regN [0, 1, 2] [
    ⟨(some 27), none, .mv (.tmp 0), 0, false⟩,
    ⟨(some 28), none, .call 13 [(.tmp 27)], 0, false⟩,
    ⟨(some 29), none, .mv (.tmp 1), 0, false⟩,
    ⟨(some 30), none, .mv (.tmp 2), 0, false⟩,
    ⟨(some 31), none, .slS (.tmp 28) (some (.tmp 29)) (some (.tmp 30)), 0, false⟩,
    ⟨(some 6), none, .mv (.tmp 31), 0, false⟩,
    ⟨(some 7), none, .mv (.con (.val (.int .i64 0))), 0, false⟩])
  .ret)))
def t14 : AFn := ⟨3, t14B,
  [.tmp 6, .tmp 7], true⟩
/-- viewport/viewportlaw08.PieceSlices  -/
def t5L1 : AC := (.seq (.seq (.regN [1, 2, 3, 4, 11, 13] [
        ⟨(some 44), none, .mv (.tmp 13), 0, false⟩,
        ⟨(some 45), none, .mv (.tmp 1), 0, false⟩,
        ⟨(some 46), none, .len false (.tmp 45), 0, false⟩,
        ⟨(some 47), none, .bini .lss (.tmp 44) (.tmp 46), 0, false⟩])
      (.cond (.tmp 47)
        .skip
        (.exit 0)))
      (.seq (.block 1
        (.regD [1, 2, 3, 4, 11, 13] 0 [
          ⟨(some 50), none, .mv (.tmp 11), 0, false⟩,
          ⟨(some 51), none, .mv (.tmp 1), 0, false⟩,
          ⟨(some 52), none, .mv (.tmp 13), 0, false⟩,
          ⟨(some 53), none, .ixA 4 (.tmp 51) (.tmp 52), 0, false⟩,
          ⟨(some 54), none, .fldA 1 (.tmp 53), 0, false⟩,
          ⟨(some 55), none, .ld1 none (.tmp 54), 0, false⟩,
          ⟨(some 56), none, .mv (.tmp 1), 0, false⟩,
          ⟨(some 57), none, .mv (.tmp 13), 0, false⟩,
          ⟨(some 58), none, .ixA 4 (.tmp 56) (.tmp 57), 0, false⟩,
          ⟨(some 59), none, .fldA 2 (.tmp 58), 0, false⟩,
          ⟨(some 60), none, .ld1 none (.tmp 59), 0, false⟩,
          ⟨(some 61), none, .mv (.tmp 1), 0, false⟩,
          ⟨(some 62), none, .mv (.tmp 13), 0, false⟩,
          ⟨(some 63), none, .ixA 4 (.tmp 61) (.tmp 62), 0, false⟩,
          ⟨(some 64), none, .fldA 3 (.tmp 63), 0, false⟩,
          ⟨(some 65), none, .ld1 none (.tmp 64), 0, false⟩,
          ⟨(some 66), none, .call 12 [(.tmp 50), (.tmp 55), (.tmp 60), (.tmp 65)], 0, true⟩]))
      (.regN [1, 2, 3, 4, 11, 13] [
        ⟨(some 48), none, .mv (.tmp 13), 0, false⟩,
        ⟨(some 49), none, .bini .add (.tmp 48) (.con (.val (.int .i64 1))), 0, false⟩,
        ⟨(some 13), none, .mv (.tmp 49), 0, false⟩])))
def t5B : AC := (.seq (.regN [0, 1, 2, 3, 4] [
    ⟨(some 10), none, .mv (.con (.val (.bool false))), 0, false⟩])
  (.seq (.seq (.regN [0, 1, 2, 3, 4] [
    ⟨(some 27), none, .call 8 [], 0, false⟩,
    ⟨(some 28), none, .not (.tmp 27), 0, false⟩])
  (.cond (.tmp 28)
    (.seq (.regN [] [
      ⟨(some 10), none, .mv (.con (.val (.bool false))), 0, false⟩])
    .ret)
    .skip))
  (.seq (.seq (.regN [0, 1, 2, 3, 4] [
    ⟨(some 29), none, .mv (.tmp 0), 0, false⟩,
    ⟨(some 30), none, .mv (.tmp 1), 0, false⟩,
    ⟨(some 31), none, .call 9 [(.tmp 29), (.tmp 30)], 0, false⟩,
    ⟨(some 32), none, .not (.tmp 31), 0, false⟩])
  (.cond (.tmp 32)
    (.seq (.regN [] [
      ⟨(some 10), none, .mv (.con (.val (.bool true))), 0, false⟩])
    .ret)
    .skip))
  (.seq (.regN [0, 1, 2, 3, 4] [
    ⟨(some 34), none, .mv (.tmp 0), 0, false⟩,
    ⟨(some 35), none, .call 11 [(.tmp 34)], 0, false⟩,
    ⟨(some 33), none, .mv (.tmp 35), 0, false⟩,
    ⟨(some 36), none, .ext (.tmp 33) 0, 0, false⟩,
    ⟨(some 37), none, .ext (.tmp 33) 1, 0, false⟩,
    ⟨(some 11), none, .mv (.tmp 36), 0, false⟩,
    ⟨(some 12), none, .mv (.tmp 37), 0, false⟩])
  (.seq (.seq (.regN [1, 2, 3, 4, 11, 12] [
    ⟨(some 38), none, .mv (.tmp 12), 0, false⟩,
    ⟨(some 39), none, .bini .neq (.tmp 38) (.con (.val (.int .i64 0))), 0, false⟩,
    ⟨(some 40), none, .mv (.tmp 39), 0, false⟩,
    ⟨(some 41), (some (40, false)), .mv (.tmp 11), 0, false⟩,
    ⟨(some 42), (some (40, false)), .eqp false (.tmp 41) (.con (.val (.pointer none))), 0, false⟩,
    ⟨(some 43), none, .pick (.tmp 40) (.con (.val (.bool true))) (.tmp 42), 0, false⟩])
  (.cond (.tmp 43)
    (.seq (.regN [] [
      ⟨(some 10), none, .mv (.con (.val (.bool false))), 0, false⟩])
    .ret)
    .skip))
  (.seq (.seq (.regN [1, 2, 3, 4, 11] [
    ⟨(some 13), none, .mv (.con (.val (.int .i64 0))), 0, false⟩])
  (.block 0
    (.loop [1, 2, 3, 4, 11, 13] t5L1)))
  (.seq (.regN [2, 3, 4, 11] [
    ⟨(some 67), none, .mv (.tmp 11), 0, false⟩,
    ⟨(some 68), none, .call 17 [(.tmp 67)], 0, false⟩,
    ⟨(some 14), none, .mv (.tmp 68), 0, false⟩])
  (.seq (.regN [2, 3, 4, 11, 14] [
    ⟨(some 69), none, .mv (.tmp 2), 0, false⟩,
    ⟨(some 70), none, .mv (.tmp 14), 0, false⟩,
    ⟨(some 71), none, .bini .add (.tmp 70) (.con (.val (.int .i64 1))), 0, false⟩,
    ⟨(some 72), none, .call 16 [(.tmp 69), (.tmp 71)], 0, false⟩,
    ⟨(some 73), none, .mv (.tmp 3), 0, false⟩,
    ⟨(some 74), none, .mv (.tmp 14), 0, false⟩,
    ⟨(some 75), none, .bini .add (.tmp 74) (.con (.val (.int .i64 1))), 0, false⟩,
    ⟨(some 76), none, .call 16 [(.tmp 73), (.tmp 75)], 0, false⟩,
    ⟨(some 77), none, .mv (.tmp 4), 0, false⟩,
    ⟨(some 78), none, .mv (.tmp 14), 0, false⟩,
    ⟨(some 79), none, .bini .add (.tmp 78) (.con (.val (.int .i64 1))), 0, false⟩,
    ⟨(some 80), none, .call 16 [(.tmp 77), (.tmp 79)], 0, false⟩,
    ⟨(some 2), none, .mv (.tmp 72), 0, false⟩,
    ⟨(some 3), none, .mv (.tmp 76), 0, false⟩,
    ⟨(some 4), none, .mv (.tmp 80), 0, false⟩])
  (.seq (.seq (.regN [2, 3, 4, 11, 14] [
    ⟨(some 81), none, .mv (.tmp 2), 0, false⟩,
    ⟨(some 82), none, .mv (.tmp 3), 0, false⟩,
    ⟨(some 83), none, .bini .gtr (.tmp 81) (.tmp 82), 0, false⟩])
  (.cond (.tmp 83)
    (.regN [2, 3, 4, 11, 14] [
      ⟨(some 84), none, .mv (.tmp 3), 0, false⟩,
      ⟨(some 85), none, .mv (.tmp 2), 0, false⟩,
      ⟨(some 2), none, .mv (.tmp 84), 0, false⟩,
      ⟨(some 3), none, .mv (.tmp 85), 0, false⟩])
    .skip))
  (.seq (.seq (.regN [2, 3, 4, 11, 14] [
    ⟨(some 86), none, .mv (.tmp 3), 0, false⟩,
    ⟨(some 87), none, .mv (.tmp 4), 0, false⟩,
    ⟨(some 88), none, .bini .gtr (.tmp 86) (.tmp 87), 0, false⟩])
  (.cond (.tmp 88)
    (.regN [2, 3, 4, 11, 14] [
      ⟨(some 89), none, .mv (.tmp 4), 0, false⟩,
      ⟨(some 90), none, .mv (.tmp 3), 0, false⟩,
      ⟨(some 3), none, .mv (.tmp 89), 0, false⟩,
      ⟨(some 4), none, .mv (.tmp 90), 0, false⟩])
    .skip))
  (.seq (.seq (.regN [2, 3, 4, 11, 14] [
    ⟨(some 91), none, .mv (.tmp 2), 0, false⟩,
    ⟨(some 92), none, .mv (.tmp 3), 0, false⟩,
    ⟨(some 93), none, .bini .gtr (.tmp 91) (.tmp 92), 0, false⟩])
  (.cond (.tmp 93)
    (.regN [2, 3, 4, 11, 14] [
      ⟨(some 94), none, .mv (.tmp 3), 0, false⟩,
      ⟨(some 95), none, .mv (.tmp 2), 0, false⟩,
      ⟨(some 2), none, .mv (.tmp 94), 0, false⟩,
      ⟨(some 3), none, .mv (.tmp 95), 0, false⟩])
    .skip))
  (.seq (.regN [2, 3, 4, 11, 14] [
    ⟨(some 97), none, .mv (.tmp 11), 0, false⟩,
    ⟨(some 98), none, .mv (.tmp 2), 0, false⟩,
    ⟨(some 99), none, .mv (.tmp 3), 0, false⟩,
    ⟨(some 100), none, .call 14 [(.tmp 97), (.tmp 98), (.tmp 99)], 0, false⟩,
    ⟨(some 96), none, .mv (.tmp 100), 0, false⟩,
    ⟨(some 101), none, .ext (.tmp 96) 0, 0, false⟩,
    ⟨(some 102), none, .ext (.tmp 96) 1, 0, false⟩,
    ⟨(some 15), none, .mv (.tmp 101), 0, false⟩,
    ⟨(some 16), none, .mv (.tmp 102), 0, false⟩])
  (.seq (.regN [2, 3, 4, 11, 14, 15, 16] [
    ⟨(some 104), none, .mv (.tmp 11), 0, false⟩,
    ⟨(some 105), none, .mv (.tmp 3), 0, false⟩,
    ⟨(some 106), none, .mv (.tmp 4), 0, false⟩,
    ⟨(some 107), none, .call 14 [(.tmp 104), (.tmp 105), (.tmp 106)], 0, false⟩,
    ⟨(some 103), none, .mv (.tmp 107), 0, false⟩,
    ⟨(some 108), none, .ext (.tmp 103) 0, 0, false⟩,
    ⟨(some 109), none, .ext (.tmp 103) 1, 0, false⟩,
    ⟨(some 17), none, .mv (.tmp 108), 0, false⟩,
    ⟨(some 18), none, .mv (.tmp 109), 0, false⟩])
  (.seq (.regN [2, 3, 4, 11, 14, 15, 16, 17, 18] [
    ⟨(some 111), none, .mv (.tmp 11), 0, false⟩,
    ⟨(some 112), none, .mv (.tmp 2), 0, false⟩,
    ⟨(some 113), none, .mv (.tmp 4), 0, false⟩,
    ⟨(some 114), none, .call 14 [(.tmp 111), (.tmp 112), (.tmp 113)], 0, false⟩,
    ⟨(some 110), none, .mv (.tmp 114), 0, false⟩,
    ⟨(some 115), none, .ext (.tmp 110) 0, 0, false⟩,
    ⟨(some 116), none, .ext (.tmp 110) 1, 0, false⟩,
    ⟨(some 19), none, .mv (.tmp 115), 0, false⟩,
    ⟨(some 20), none, .mv (.tmp 116), 0, false⟩])
  (.seq (.regN [2, 3, 11, 14, 15, 16, 17, 18, 19, 20] [
    ⟨(some 118), none, .mv (.tmp 11), 0, false⟩,
    ⟨(some 119), none, .mv (.tmp 14), 0, false⟩,
    ⟨(some 120), none, .call 14 [(.tmp 118), (.con (.val (.int .i64 0))), (.tmp 119)], 0, false⟩,
    ⟨(some 117), none, .mv (.tmp 120), 0, false⟩,
    ⟨(some 121), none, .ext (.tmp 117) 0, 0, false⟩,
    ⟨(some 122), none, .ext (.tmp 117) 1, 0, false⟩,
    ⟨(some 21), none, .mv (.tmp 121), 0, false⟩,
    ⟨(some 22), none, .mv (.tmp 122), 0, false⟩])
  (.seq (.seq (.regN [2, 3, 11, 14, 15, 16, 17, 18, 19, 20, 21, 22] [
    ⟨(some 123), none, .mv (.tmp 16), 0, false⟩,
    ⟨(some 124), none, .bini .neq (.tmp 123) (.con (.val (.int .i64 0))), 0, false⟩,
    ⟨(some 125), none, .mv (.tmp 124), 0, false⟩,
    ⟨(some 126), (some (125, false)), .mv (.tmp 18), 0, false⟩,
    ⟨(some 127), (some (125, false)), .bini .neq (.tmp 126) (.con (.val (.int .i64 0))), 0, false⟩,
    ⟨(some 128), none, .pick (.tmp 125) (.con (.val (.bool true))) (.tmp 127), 0, false⟩,
    ⟨(some 129), none, .mv (.tmp 128), 0, false⟩,
    ⟨(some 130), (some (129, false)), .mv (.tmp 20), 0, false⟩,
    ⟨(some 131), (some (129, false)), .bini .neq (.tmp 130) (.con (.val (.int .i64 0))), 0, false⟩,
    ⟨(some 132), none, .pick (.tmp 129) (.con (.val (.bool true))) (.tmp 131), 0, false⟩,
    ⟨(some 133), none, .mv (.tmp 132), 0, false⟩,
    ⟨(some 134), (some (133, false)), .mv (.tmp 22), 0, false⟩,
    ⟨(some 135), (some (133, false)), .bini .neq (.tmp 134) (.con (.val (.int .i64 0))), 0, false⟩,
    ⟨(some 136), none, .pick (.tmp 133) (.con (.val (.bool true))) (.tmp 135), 0, false⟩,
    ⟨(some 137), none, .mv (.tmp 136), 0, false⟩,
    ⟨(some 138), (some (137, false)), .mv (.tmp 19), 0, false⟩,
    ⟨(some 139), (some (137, false)), .mv (.tmp 15), 0, false⟩,
    ⟨(some 140), (some (137, false)), .mv (.tmp 17), 0, false⟩,
    ⟨(some 141), (some (137, false)), .bins .add (.tmp 139) (.tmp 140), 0, false⟩,
    ⟨(some 142), (some (137, false)), .bins .neq (.tmp 138) (.tmp 141), 0, false⟩,
    ⟨(some 143), none, .pick (.tmp 137) (.con (.val (.bool true))) (.tmp 142), 0, false⟩,
    ⟨(some 144), none, .mv (.tmp 143), 0, false⟩,
    ⟨(some 145), (some (144, false)), .mv (.tmp 21), 0, false⟩,
    ⟨(some 146), (some (144, false)), .mv (.tmp 11), 0, false⟩,
    ⟨(some 147), (some (144, false)), .call 13 [(.tmp 146)], 0, false⟩,
    ⟨(some 148), (some (144, false)), .bins .neq (.tmp 145) (.tmp 147), 0, false⟩,
    ⟨(some 149), none, .pick (.tmp 144) (.con (.val (.bool true))) (.tmp 148), 0, false⟩,
    ⟨(some 150), none, .mv (.tmp 149), 0, false⟩,
    ⟨(some 151), (some (150, false)), .mv (.tmp 15), 0, false⟩,
    ⟨(some 152), (some (150, false)), .len true (.tmp 151), 0, false⟩,
    ⟨(some 153), (some (150, false)), .mv (.tmp 3), 0, false⟩,
    ⟨(some 154), (some (150, false)), .mv (.tmp 2), 0, false⟩,
    ⟨(some 155), (some (150, false)), .bini .sub (.tmp 153) (.tmp 154), 0, false⟩,
    ⟨(some 156), (some (150, false)), .bini .neq (.tmp 152) (.tmp 155), 0, false⟩,
    ⟨(some 157), none, .pick (.tmp 150) (.con (.val (.bool true))) (.tmp 156), 0, false⟩])
  (.cond (.tmp 157)
    (.seq (.regN [] [
      ⟨(some 10), none, .mv (.con (.val (.bool false))), 0, false⟩])
    .ret)
    .skip))
  (.seq (.regN [2, 11, 14] [
    ⟨(some 159), none, .mv (.tmp 11), 0, false⟩,
    ⟨(some 160), none, .mv (.tmp 2), 0, false⟩,
    ⟨(some 161), none, .call 18 [(.tmp 159), (.tmp 160)], 0, false⟩,
    ⟨(some 158), none, .mv (.tmp 161), 0, false⟩,
    ⟨(some 162), none, .ext (.tmp 158) 0, 0, false⟩,
    ⟨(some 163), none, .ext (.tmp 158) 1, 0, false⟩,
    ⟨(some 23), none, .mv (.tmp 162), 0, false⟩,
    ⟨(some 24), none, .mv (.tmp 163), 0, false⟩])
  (.seq (.regN [2, 11, 14, 23, 24] [
    ⟨(some 165), none, .mv (.tmp 11), 0, false⟩,
    ⟨(some 166), none, .mv (.tmp 2), 0, false⟩,
    ⟨(some 167), none, .mv (.tmp 2), 0, false⟩,
    ⟨(some 168), none, .bini .add (.tmp 167) (.con (.val (.int .i64 1))), 0, false⟩,
    ⟨(some 169), none, .call 14 [(.tmp 165), (.tmp 166), (.tmp 168)], 0, false⟩,
    ⟨(some 164), none, .mv (.tmp 169), 0, false⟩,
    ⟨(some 170), none, .ext (.tmp 164) 0, 0, false⟩,
    ⟨(some 171), none, .ext (.tmp 164) 1, 0, false⟩,
    ⟨(some 25), none, .mv (.tmp 170), 0, false⟩,
    ⟨(some 26), none, .mv (.tmp 171), 0, false⟩])
  (.seq (.regN [2, 14, 23, 24, 25, 26] [
    ⟨(some 172), none, .mv (.tmp 24), 0, false⟩,
    ⟨(some 173), none, .mv (.tmp 2), 0, false⟩,
    ⟨(some 174), none, .mv (.tmp 14), 0, false⟩,
    ⟨(some 175), none, .bini .lss (.tmp 173) (.tmp 174), 0, false⟩,
    ⟨(some 176), none, .eqb false (.tmp 172) (.tmp 175), 0, false⟩,
    ⟨(some 177), none, .mv (.tmp 176), 0, false⟩,
    ⟨(some 178), (some (177, true)), .mv (.tmp 26), 0, false⟩,
    ⟨(some 179), (some (177, true)), .bini .eql (.tmp 178) (.con (.val (.int .i64 0))), 0, false⟩,
    ⟨(some 180), (some (177, true)), .mv (.tmp 24), 0, false⟩,
    ⟨(some 181), (some (177, true)), .eqb false (.tmp 179) (.tmp 180), 0, false⟩,
    ⟨(some 182), none, .pick (.tmp 177) (.tmp 181) (.con (.val (.bool false))), 0, false⟩,
    ⟨(some 183), none, .mv (.tmp 182), 0, false⟩,
    ⟨(some 184), (some (183, true)), .mv (.tmp 24), 0, false⟩,
    ⟨(some 185), (some (183, true)), .not (.tmp 184), 0, false⟩,
    ⟨(some 186), (some (183, true)), .mv (.tmp 185), 0, false⟩,
    ⟨(some 187), (some (186, false)), .mv (.tmp 25), 0, false⟩,
    ⟨(some 188), (some (186, false)), .mv (.tmp 23), 0, false⟩,
    ⟨(some 189), (some (186, false)), .buildS 1 [(.val (.int .u8 0))] [(0, 1, (.tmp 188))], 0, false⟩,
    ⟨(some 190), (some (186, false)), .b2s (.tmp 189), 0, false⟩,
    ⟨(some 191), (some (186, false)), .bins .eql (.tmp 187) (.tmp 190), 0, false⟩,
    ⟨(some 192), (some (183, true)), .pick (.tmp 186) (.con (.val (.bool true))) (.tmp 191), 0, false⟩,
    ⟨(some 193), none, .pick (.tmp 183) (.tmp 192) (.con (.val (.bool false))), 0, false⟩,
    ⟨(some 10), none, .mv (.tmp 193), 0, false⟩])
  .ret)))))))))))))))))))
def t5 : AFn := ⟨5, t5B,
  [.tmp 10], true⟩
/-- viewport/viewportkit.Pick  -/
def t16B : AC := (.seq (.regN [0, 1] [
    ⟨(some 4), none, .mv (.con (.val (.int .i64 0))), 0, false⟩])
  (.seq (.seq (.regN [0, 1] [
    ⟨(some 6), none, .mv (.tmp 1), 0, false⟩,
    ⟨(some 7), none, .bini .lss (.tmp 6) (.con (.val (.int .i64 1))), 0, false⟩])
  (.cond (.tmp 7)
    (.seq (.regN [] [
      ⟨(some 4), none, .mv (.con (.val (.int .i64 0))), 0, false⟩])
    .ret)
    .skip))
  (.seq (.regN [0, 1] [
    ⟨(some 8), none, .mv (.tmp 0), 0, false⟩,
    ⟨(some 9), none, .mv (.tmp 1), 0, false⟩,
    ⟨(some 10), none, .bini .rem (.tmp 8) (.tmp 9), 0, false⟩,
    ⟨(some 5), none, .mv (.tmp 10), 0, false⟩])
  (.seq (.seq (.regN [1, 5] [
    ⟨(some 11), none, .mv (.tmp 5), 0, false⟩,
    ⟨(some 12), none, .bini .lss (.tmp 11) (.con (.val (.int .i64 0))), 0, false⟩])
  (.cond (.tmp 12)
    (.regN [1, 5] [
      ⟨(some 13), none, .mv (.tmp 5), 0, false⟩,
      ⟨(some 14), none, .mv (.tmp 1), 0, false⟩,
      ⟨(some 15), none, .bini .add (.tmp 13) (.tmp 14), 0, false⟩,
      ⟨(some 5), none, .mv (.tmp 15), 0, false⟩])
    .skip))
  (.seq (.regN [5] [
    ⟨(some 16), none, .mv (.tmp 5), 0, false⟩,
    ⟨(some 4), none, .mv (.tmp 16), 0, false⟩])
  .ret)))))
def t16 : AFn := ⟨2, t16B,
  [.tmp 4], true⟩
/-- (*viewport/piece.Table).Byte  -/
def t18L1 : AC := (.seq (.regN [1, 17, 18, 19] [
        ⟨(some 20), none, .bini .lss (.tmp 19) (.tmp 18), 0, false⟩])
      (.seq (.cond (.tmp 20)
        .skip
        (.exit 0))
      (.seq (.block 1
        (.seq (.regN [1, 17, 18, 19] [
          ⟨(some 21), none, .ixA 1 (.tmp 17) (.tmp 19), 0, false⟩,
          ⟨(some 22), none, .ld1 none (.tmp 21), 0, false⟩,
          ⟨(some 7), none, .mv (.tmp 22), 0, false⟩])
        (.seq (.seq (.regN [1, 7, 17, 18, 19] [
          ⟨(some 23), none, .mv (.tmp 1), 0, false⟩,
          ⟨(some 24), none, .mv (.tmp 7), 0, false⟩,
          ⟨(some 25), none, .len true (.tmp 24), 0, false⟩,
          ⟨(some 26), none, .bini .lss (.tmp 23) (.tmp 25), 0, false⟩])
        (.cond (.tmp 26)
          (.seq (.regN [1, 7] [
            ⟨(some 27), none, .mv (.tmp 7), 0, false⟩,
            ⟨(some 28), none, .mv (.tmp 1), 0, false⟩,
            ⟨(some 29), none, .ixS (.tmp 27) (.tmp 28), 0, false⟩,
            ⟨(some 4), none, .mv (.tmp 29), 0, false⟩,
            ⟨(some 5), none, .mv (.con (.val (.bool true))), 0, false⟩])
          .ret)
          .skip))
        (.regN [1, 7, 17, 18, 19] [
          ⟨(some 30), none, .mv (.tmp 1), 0, false⟩,
          ⟨(some 31), none, .mv (.tmp 7), 0, false⟩,
          ⟨(some 32), none, .len true (.tmp 31), 0, false⟩,
          ⟨(some 33), none, .bini .sub (.tmp 30) (.tmp 32), 0, false⟩,
          ⟨(some 1), none, .mv (.tmp 33), 0, false⟩]))))
      (.regN [1, 17, 18, 19] [
        ⟨(some 34), none, .bini .add (.tmp 19) (.con (.val (.int .i64 1))), 0, false⟩,
        ⟨(some 19), none, .mv (.tmp 34), 0, false⟩]))))
def t18B : AC := (.seq (.regN [0, 1] [
    ⟨(some 4), none, .mv (.con (.val (.int .u8 0))), 0, false⟩,
    ⟨(some 5), none, .mv (.con (.val (.bool false))), 0, false⟩])
  (.seq (.seq (.regN [0, 1] [
    ⟨(some 8), none, .mv (.tmp 1), 0, false⟩,
    ⟨(some 9), none, .bini .lss (.tmp 8) (.con (.val (.int .i64 0))), 0, false⟩,
    ⟨(some 10), none, .mv (.tmp 9), 0, false⟩,
    ⟨(some 11), (some (10, false)), .mv (.tmp 1), 0, false⟩,
    ⟨(some 12), (some (10, false)), .mv (.tmp 0), 0, false⟩,
    ⟨(some 13), (some (10, false)), .call 17 [(.tmp 12)], 0, false⟩,
    ⟨(some 14), (some (10, false)), .bini .geq (.tmp 11) (.tmp 13), 0, false⟩,
    ⟨(some 15), none, .pick (.tmp 10) (.con (.val (.bool true))) (.tmp 14), 0, false⟩])
  (.cond (.tmp 15)
    (.seq (.regN [] [
      ⟨(some 4), none, .mv (.con (.val (.int .u8 0))), 0, false⟩,
      ⟨(some 5), none, .mv (.con (.val (.bool false))), 0, false⟩])
    .ret)
    .skip))
  (.seq (.seq (.regN [0, 1] [
    ⟨(some 16), none, .mv (.tmp 0), 0, false⟩,
    ⟨(some 17), none, .call 28 [(.tmp 16)], 0, false⟩,
    ⟨(some 18), none, .len false (.tmp 17), 0, false⟩,
    ⟨(some 19), none, .mv (.con (.val (.int .i64 0))), 0, false⟩])
  (.block 0
    (.loop [1, 17, 18, 19] t18L1)))
  (.seq (.regN [] [
    ⟨(some 4), none, .mv (.con (.val (.int .u8 0))), 0, false⟩,
    ⟨(some 5), none, .mv (.con (.val (.bool false))), 0, false⟩])
  .ret))))
def t18 : AFn := ⟨2, t18B,
  [.tmp 4, .tmp 5], true⟩
/-- viewport/viewportlaw08.PieceSnap  -/
def t4L1 : AC := (.seq (.seq (.regN [1, 5, 6, 7, 9] [
        ⟨(some 32), none, .mv (.tmp 9), 0, false⟩,
        ⟨(some 33), none, .mv (.tmp 1), 0, false⟩,
        ⟨(some 34), none, .len false (.tmp 33), 0, false⟩,
        ⟨(some 35), none, .bini .lss (.tmp 32) (.tmp 34), 0, false⟩])
      (.cond (.tmp 35)
        .skip
        (.exit 0)))
      (.seq (.block 1
        (.regD [1, 5, 6, 7, 9] 0 [
          ⟨(some 38), none, .ld1 none (.tmp 7), 0, false⟩,
          ⟨(some 39), none, .mv (.tmp 1), 0, false⟩,
          ⟨(some 40), none, .mv (.tmp 9), 0, false⟩,
          ⟨(some 41), none, .ixA 4 (.tmp 39) (.tmp 40), 0, false⟩,
          ⟨(some 42), none, .fldA 1 (.tmp 41), 0, false⟩,
          ⟨(some 43), none, .ld1 none (.tmp 42), 0, false⟩,
          ⟨(some 44), none, .mv (.tmp 1), 0, false⟩,
          ⟨(some 45), none, .mv (.tmp 9), 0, false⟩,
          ⟨(some 46), none, .ixA 4 (.tmp 44) (.tmp 45), 0, false⟩,
          ⟨(some 47), none, .fldA 2 (.tmp 46), 0, false⟩,
          ⟨(some 48), none, .ld1 none (.tmp 47), 0, false⟩,
          ⟨(some 49), none, .mv (.tmp 1), 0, false⟩,
          ⟨(some 50), none, .mv (.tmp 9), 0, false⟩,
          ⟨(some 51), none, .ixA 4 (.tmp 49) (.tmp 50), 0, false⟩,
          ⟨(some 52), none, .fldA 3 (.tmp 51), 0, false⟩,
          ⟨(some 53), none, .ld1 none (.tmp 52), 0, false⟩,
          ⟨(some 54), none, .call 12 [(.tmp 38), (.tmp 43), (.tmp 48), (.tmp 53)], 0, true⟩]))
      (.regN [1, 5, 6, 7, 9] [
        ⟨(some 36), none, .mv (.tmp 9), 0, false⟩,
        ⟨(some 37), none, .bini .add (.tmp 36) (.con (.val (.int .i64 1))), 0, false⟩,
        ⟨(some 9), none, .mv (.tmp 37), 0, false⟩])))
def t4B : AC := (.seq (.regN [0, 1, 2] [
    ⟨(some 5), none, .boxH 1 (.tmp 2), 0, false⟩,
    ⟨(some 6), none, .allocH [(.val (.bool false))], 0, false⟩])
  (.seq (.seq (.regN [0, 1, 5, 6] [
    ⟨(some 15), none, .call 1008 [], 0, false⟩,
    ⟨(some 16), none, .not (.tmp 15), 0, false⟩])
  (.cond (.tmp 16)
    (.seq (.regN [6] [
      ⟨none, none, .st none 1 (.tmp 6) (.con (.val (.bool false))), 0, false⟩])
    .ret)
    .skip))
  (.seq (.seq (.regN [0, 1, 5, 6] [
    ⟨(some 17), none, .mv (.tmp 0), 0, false⟩,
    ⟨(some 18), none, .mv (.tmp 1), 0, false⟩,
    ⟨(some 19), none, .call 9 [(.tmp 17), (.tmp 18)], 0, false⟩,
    ⟨(some 20), none, .not (.tmp 19), 0, false⟩])
  (.cond (.tmp 20)
    (.seq (.regN [6] [
      ⟨none, none, .st none 1 (.tmp 6) (.con (.val (.bool true))), 0, false⟩])
    .ret)
    .skip))
  (.seq (.regN [0, 1, 5, 6] [
    ⟨(some 22), none, .mv (.tmp 0), 0, false⟩,
    ⟨(some 23), none, .call 11 [(.tmp 22)], 0, false⟩,
    ⟨(some 21), none, .mv (.tmp 23), 0, false⟩,
    ⟨(some 24), none, .ext (.tmp 21) 0, 0, false⟩,
    ⟨(some 25), none, .ext (.tmp 21) 1, 0, false⟩,
    ⟨(some 7), none, .allocH [(.val (.pointer none))], 0, false⟩,
    ⟨none, none, .st none 1 (.tmp 7) (.tmp 24), 0, false⟩,
    ⟨(some 8), none, .mv (.tmp 25), 0, false⟩])
  (.seq (.seq (.regN [1, 5, 6, 7, 8] [
    ⟨(some 26), none, .mv (.tmp 8), 0, false⟩,
    ⟨(some 27), none, .bini .neq (.tmp 26) (.con (.val (.int .i64 0))), 0, false⟩,
    ⟨(some 28), none, .mv (.tmp 27), 0, false⟩,
    ⟨(some 29), (some (28, false)), .ld1 none (.tmp 7), 0, false⟩,
    ⟨(some 30), (some (28, false)), .eqp false (.tmp 29) (.con (.val (.pointer none))), 0, false⟩,
    ⟨(some 31), none, .pick (.tmp 28) (.con (.val (.bool true))) (.tmp 30), 0, false⟩])
  (.cond (.tmp 31)
    (.seq (.regN [6] [
      ⟨none, none, .st none 1 (.tmp 6) (.con (.val (.bool false))), 0, false⟩])
    .ret)
    .skip))
  (.seq (.seq (.regN [1, 5, 6, 7] [
    ⟨(some 9), none, .mv (.con (.val (.int .i64 0))), 0, false⟩])
  (.block 0
    (.loop [1, 5, 6, 7, 9] t4L1)))
  (.seq (.regN [5, 6, 7] [
    ⟨(some 55), none, .ld1 none (.tmp 7), 0, false⟩,
    ⟨(some 56), none, .call 13 [(.tmp 55)], 0, false⟩,
    ⟨(some 10), none, .allocH [(.val (.string ⟨#[]⟩))], 0, false⟩,
    ⟨none, none, .st none 1 (.tmp 10) (.tmp 56), 0, false⟩])
  (.seq (.regN [5, 6, 7, 10] [
    ⟨(some 57), none, .ld1 none (.tmp 7), 0, false⟩,
    ⟨(some 58), none, .call 15 [(.tmp 57)], 0, false⟩,
    ⟨(some 11), none, .mv (.tmp 58), 0, false⟩])
  (.seq (.seq (.regN [5, 6, 7, 10, 11] [
    ⟨(some 59), none, .mv (.tmp 11), 0, false⟩,
    ⟨(some 60), none, .eqf false (.tmp 59) (.con (.val .nilFunc)), 0, false⟩])
  (.cond (.tmp 60)
    (.seq (.regN [6] [
      ⟨none, none, .st none 1 (.tmp 6) (.con (.val (.bool false))), 0, false⟩])
    .ret)
    .skip))
  (.seq (.regN [5, 6, 7, 10, 11] [
    ⟨(some 61), none, .ld1 none (.tmp 5), 0, false⟩,
    ⟨(some 62), none, .call 16 [(.tmp 61), (.con (.val (.int .i64 8)))], 0, false⟩,
    ⟨none, none, .st none 1 (.tmp 5) (.tmp 62), 0, false⟩])
  (.seq (.regN [5, 6, 7, 10, 11] [
    ⟨(some 12), none, .allocH [(.val (.string ⟨#[]⟩))], 0, false⟩,
    ⟨(some 13), none, .allocH [(.val (.int .i64 0))], 0, false⟩,
    ⟨none, none, .st none 1 (.tmp 12) (.con (.val (.string ⟨#[]⟩))), 0, false⟩,
    ⟨none, none, .st none 1 (.tmp 13) (.con (.val (.int .i64 0))), 0, false⟩])
  (.seq (.seq (.regN [5, 6, 7, 10, 11, 12, 13] [
    ⟨(some 63), none, .mv (.tmp 11), 0, false⟩])
  (.block 2
    (.rangeF [5, 6, 7, 10, 12, 13, 63] noIt (.tmp 63) [64]
      (.regN [5, 6, 7, 10, 12, 13, 64] [
        ⟨(some 14), none, .mv (.tmp 64), 0, false⟩])
      (.block 3
        (.seq (.seq (.regN [5, 6, 7, 10, 12, 13, 14] [
          ⟨(some 65), none, .ld1 none (.tmp 13), 0, false⟩,
          ⟨(some 66), none, .ld1 none (.tmp 5), 0, false⟩,
          ⟨(some 67), none, .bini .eql (.tmp 65) (.tmp 66), 0, false⟩])
        (.cond (.tmp 67)
          (.exit 2)
          .skip))
        (.seq (.regN [6, 7, 10, 12, 13, 14] [
          ⟨(some 68), none, .ld1 none (.tmp 12), 0, false⟩,
          ⟨(some 69), none, .mv (.tmp 14), 0, false⟩,
          ⟨(some 70), none, .bins .add (.tmp 68) (.tmp 69), 0, false⟩,
          ⟨none, none, .st none 1 (.tmp 12) (.tmp 70), 0, false⟩])
        (.seq (.regN [6, 7, 10, 12, 13] [
          ⟨(some 71), none, .ld1 none (.tmp 13), 0, false⟩,
          ⟨(some 72), none, .bini .add (.tmp 71) (.con (.val (.int .i64 1))), 0, false⟩,
          ⟨none, none, .st none 1 (.tmp 13) (.tmp 72), 0, false⟩])
        (.seq (.regD [6, 7, 10, 12] 0 [
          ⟨(some 73), none, .ld1 none (.tmp 7), 0, false⟩,
          ⟨(some 74), none, .ld1 none (.tmp 7), 0, false⟩,
          ⟨(some 75), none, .call 17 [(.tmp 74)], 0, false⟩,
          ⟨(some 76), none, .mm false [(.con (.val (.int .i64 2))), (.tmp 75)], 0, false⟩,
          ⟨(some 77), none, .call 12 [(.tmp 73), (.con (.val (.int .i64 0))), (.tmp 76), (.con (.val (.string ⟨#[109, 111, 114, 101]⟩)))], 0, true⟩])
        (.seq (.regN [6, 10, 12] [
          ⟨(some 78), none, .ld1 none (.tmp 12), 0, false⟩,
          ⟨(some 79), none, .len true (.tmp 78), 0, false⟩,
          ⟨(some 80), none, .ld1 none (.tmp 10), 0, false⟩,
          ⟨(some 81), none, .len true (.tmp 80), 0, false⟩,
          ⟨(some 82), none, .bini .gtr (.tmp 79) (.tmp 81), 0, false⟩])
        (.cond (.tmp 82)
          (.seq (.regN [6] [
            ⟨none, none, .st none 1 (.tmp 6) (.con (.val (.bool false))), 0, false⟩])
          .ret)
          .skip))))))))))
  (.seq (.regD [5, 6, 10, 12, 13] 0 [
    ⟨(some 83), none, .ld1 none (.tmp 12), 0, false⟩,
    ⟨(some 84), none, .ld1 none (.tmp 10), 0, false⟩,
    ⟨(some 85), none, .ld1 none (.tmp 12), 0, false⟩,
    ⟨(some 86), none, .len true (.tmp 85), 0, false⟩,
    ⟨(some 87), none, .slS (.tmp 84) none (some (.tmp 86)), 0, false⟩,
    ⟨(some 88), none, .bins .eql (.tmp 83) (.tmp 87), 0, false⟩,
    ⟨(some 89), none, .mv (.tmp 88), 0, false⟩,
    ⟨(some 90), (some (89, true)), .ld1 none (.tmp 13), 0, false⟩,
    ⟨(some 91), (some (89, true)), .ld1 none (.tmp 5), 0, false⟩,
    ⟨(some 92), (some (89, true)), .bini .eql (.tmp 90) (.tmp 91), 0, false⟩,
    ⟨(some 93), (some (89, true)), .mv (.tmp 92), 0, false⟩,
    ⟨(some 94), (some (93, false)), .ld1 none (.tmp 12), 0, false⟩,
    ⟨(some 95), (some (93, false)), .ld1 none (.tmp 10), 0, false⟩,
    ⟨(some 96), (some (93, false)), .bins .eql (.tmp 94) (.tmp 95), 0, false⟩,
    ⟨(some 97), (some (89, true)), .pick (.tmp 93) (.con (.val (.bool true))) (.tmp 96), 0, false⟩,
    ⟨(some 98), none, .pick (.tmp 89) (.tmp 97) (.con (.val (.bool false))), 0, false⟩,
    ⟨none, none, .st none 1 (.tmp 6) (.tmp 98), 0, false⟩])
  .ret)))))))))))))
def t4 : AFn := ⟨3, t4B,
  [.cell 6 1 false], true⟩
/-- viewport/viewportlaw08.lives  -/
def t1008B : AC := (.seq (.regN [] [
    ⟨(some 0), none, .mv (.con (.val (.bool false))), 0, false⟩])
  (.seq (.regN [] [
    ⟨(some 5), none, .call 11 [(.con (.val (.string ⟨#[97, 98, 99]⟩)))], 0, false⟩,
    ⟨(some 4), none, .mv (.tmp 5), 0, false⟩,
    ⟨(some 6), none, .ext (.tmp 4) 0, 0, false⟩,
    ⟨(some 7), none, .ext (.tmp 4) 1, 0, false⟩,
    ⟨(some 1), none, .mv (.tmp 6), 0, false⟩,
    ⟨(some 2), none, .mv (.tmp 7), 0, false⟩])
  (.seq (.seq (.regN [1, 2] [
    ⟨(some 8), none, .mv (.tmp 1), 0, false⟩,
    ⟨(some 9), none, .eqp false (.tmp 8) (.con (.val (.pointer none))), 0, false⟩])
  (.cond (.tmp 9)
    (.seq (.regN [] [
      ⟨(some 0), none, .mv (.con (.val (.bool false))), 0, false⟩])
    .ret)
    .skip))
  (.seq (.regN [1, 2] [
    ⟨(some 10), none, .mv (.tmp 1), 0, false⟩,
    ⟨(some 11), none, .call 12 [(.tmp 10), (.con (.val (.int .i64 1))), (.con (.val (.int .i64 1))), (.con (.val (.string ⟨#[120, 121]⟩)))], 0, false⟩,
    ⟨(some 3), none, .mv (.tmp 11), 0, false⟩])
  (.seq (.regN [1, 2, 3] [
    ⟨(some 12), none, .mv (.tmp 2), 0, false⟩,
    ⟨(some 13), none, .bini .eql (.tmp 12) (.con (.val (.int .i64 0))), 0, false⟩,
    ⟨(some 14), none, .mv (.tmp 13), 0, false⟩,
    ⟨(some 15), (some (14, true)), .mv (.tmp 3), 0, false⟩,
    ⟨(some 16), (some (14, true)), .bini .eql (.tmp 15) (.con (.val (.int .i64 0))), 0, false⟩,
    ⟨(some 17), none, .pick (.tmp 14) (.tmp 16) (.con (.val (.bool false))), 0, false⟩,
    ⟨(some 18), none, .mv (.tmp 17), 0, false⟩,
    ⟨(some 19), (some (18, true)), .mv (.tmp 1), 0, false⟩,
    ⟨(some 20), (some (18, true)), .call 13 [(.tmp 19)], 0, false⟩,
    ⟨(some 21), (some (18, true)), .bins .eql (.tmp 20) (.con (.val (.string ⟨#[97, 120, 121, 99]⟩))), 0, false⟩,
    ⟨(some 22), none, .pick (.tmp 18) (.tmp 21) (.con (.val (.bool false))), 0, false⟩,
    ⟨(some 23), none, .mv (.tmp 22), 0, false⟩,
    ⟨(some 24), (some (23, true)), .mv (.tmp 1), 0, false⟩,
    ⟨(some 25), (some (23, true)), .call 17 [(.tmp 24)], 0, false⟩,
    ⟨(some 26), (some (23, true)), .bini .eql (.tmp 25) (.con (.val (.int .i64 4))), 0, false⟩,
    ⟨(some 27), none, .pick (.tmp 23) (.tmp 26) (.con (.val (.bool false))), 0, false⟩,
    ⟨(some 0), none, .mv (.tmp 27), 0, false⟩])
  .ret)))))
def t1008 : AFn := ⟨0, t1008B,
  [.tmp 0], false⟩
/-- (*viewport/piece.Table).Pieces  -/
def t15B : AC := (.seq (.regN [0] [
    ⟨(some 1), none, .boxH 1 (.tmp 0), 0, false⟩,
    ⟨(some 2), none, .mv (.con (.val .nilFunc)), 0, false⟩])
  (.seq (.regN [1] [
    ⟨(some 3), none, .mkf 29 [(.tmp 1)], 0, false⟩,
    ⟨(some 2), none, .mv (.tmp 3), 0, false⟩])
  .ret))
def t15 : AFn := ⟨1, t15B,
  [.tmp 2], false⟩
/-- (*viewport/piece.Table).Pieces$1  -/
def t29L1 : AC := (.seq (.regN [0, 6, 7, 8] [
        ⟨(some 9), none, .bini .lss (.tmp 8) (.tmp 7), 0, false⟩])
      (.seq (.cond (.tmp 9)
        .skip
        (.exit 0))
      (.seq (.block 1
        (.seq (.regN [0, 6, 7, 8] [
          ⟨(some 10), none, .ixA 1 (.tmp 6) (.tmp 8), 0, false⟩,
          ⟨(some 11), none, .ld1 none (.tmp 10), 0, false⟩,
          ⟨(some 4), none, .mv (.tmp 11), 0, false⟩])
        (.seq (.regN [0, 4, 6, 7, 8] [
          ⟨(some 12), none, .mv (.tmp 0), 0, false⟩,
          ⟨(some 13), none, .mv (.tmp 4), 0, false⟩,
          ⟨(some 14), none, .callv (.tmp 12) [(.tmp 13)], 0, false⟩,
          ⟨(some 15), none, .not (.tmp 14), 0, false⟩])
        (.cond (.tmp 15)
          .ret
          .skip))))
      (.regN [0, 6, 7, 8] [
        ⟨(some 16), none, .bini .add (.tmp 8) (.con (.val (.int .i64 1))), 0, false⟩,
        ⟨(some 8), none, .mv (.tmp 16), 0, false⟩]))))
def t29B : AC := (.seq (.regN [0, 1] [
    ⟨(some 5), none, .ld1 none (.tmp 1), 0, false⟩,
    ⟨(some 6), none, .call 28 [(.tmp 5)], 0, false⟩,
    ⟨(some 7), none, .len false (.tmp 6), 0, false⟩,
    ⟨(some 8), none, .mv (.con (.val (.int .i64 0))), 0, false⟩])
  (.block 0
    (.loop [0, 6, 7, 8] t29L1)))
def t29 : AFn := ⟨2, t29B,
  [], true⟩
/-- viewport/viewportlaw08.PieceNames  -/
def t6B : AC := (.seq (.regN [] [
    ⟨(some 0), none, .mv (.con (.val (.bool false))), 0, false⟩])
  (.seq (.seq (.regN [0] [
    ⟨(some 22), none, .call 8 [], 0, false⟩,
    ⟨(some 23), none, .not (.tmp 22), 0, false⟩])
  (.cond (.tmp 23)
    (.seq (.regN [] [
      ⟨(some 0), none, .mv (.con (.val (.bool false))), 0, false⟩])
    .ret)
    .skip))
  (.seq (.regN [0] [
    ⟨(some 25), none, .call 11 [(.con (.val (.string ⟨#[104, 101, 108, 108, 111]⟩)))], 0, false⟩,
    ⟨(some 24), none, .mv (.tmp 25), 0, false⟩,
    ⟨(some 26), none, .ext (.tmp 24) 0, 0, false⟩,
    ⟨(some 27), none, .ext (.tmp 24) 1, 0, false⟩,
    ⟨(some 1), none, .mv (.tmp 26), 0, false⟩,
    ⟨(some 2), none, .mv (.tmp 27), 0, false⟩])
  (.seq (.regN [0, 1] [
    ⟨(some 29), none, .mks 1 1 [(.val (.int .u8 0))] (.con (.val (.int .i64 65537))), 0, false⟩,
    ⟨(some 30), none, .b2s (.tmp 29), 0, false⟩,
    ⟨(some 31), none, .call 11 [(.tmp 30)], 0, false⟩,
    ⟨(some 28), none, .mv (.tmp 31), 0, false⟩,
    ⟨(some 32), none, .ext (.tmp 28) 0, 0, false⟩,
    ⟨(some 33), none, .ext (.tmp 28) 1, 0, false⟩,
    ⟨(some 3), none, .mv (.tmp 32), 0, false⟩,
    ⟨(some 4), none, .mv (.tmp 33), 0, false⟩])
  (.seq (.regN [0, 1, 4] [
    ⟨(some 34), none, .mv (.tmp 1), 0, false⟩,
    ⟨(some 35), none, .call 12 [(.tmp 34), (.con (.val (.int .i64 6))), (.con (.val (.int .i64 0))), (.con (.val (.string ⟨#[120]⟩)))], 0, false⟩,
    ⟨(some 5), none, .mv (.tmp 35), 0, false⟩])
  (.seq (.regN [0, 1, 4, 5] [
    ⟨(some 36), none, .mv (.tmp 1), 0, false⟩,
    ⟨(some 37), none, .call 12 [(.tmp 36), (.con (.val (.int .i64 2))), (.con (.val (.int .i64 4))), (.con (.val (.string ⟨#[120]⟩)))], 0, false⟩,
    ⟨(some 6), none, .mv (.tmp 37), 0, false⟩])
  (.seq (.regN [0, 1, 4, 5, 6] [
    ⟨(some 38), none, .mv (.tmp 1), 0, false⟩,
    ⟨(some 39), none, .mks 1 1 [(.val (.int .u8 0))] (.con (.val (.int .i64 65532))), 0, false⟩,
    ⟨(some 40), none, .b2s (.tmp 39), 0, false⟩,
    ⟨(some 41), none, .call 12 [(.tmp 38), (.con (.val (.int .i64 0))), (.con (.val (.int .i64 0))), (.tmp 40)], 0, false⟩,
    ⟨(some 7), none, .mv (.tmp 41), 0, false⟩])
  (.seq (.regN [0, 1, 4, 5, 6, 7] [
    ⟨(some 42), none, .mv (.tmp 1), 0, false⟩,
    ⟨(some 43), none, .call 12 [(.tmp 42), (.con (.val (.int .i64 5))), (.con (.val (.int .i64 0))), (.con (.val (.string ⟨#[33]⟩)))], 0, false⟩,
    ⟨(some 8), none, .mv (.tmp 43), 0, false⟩])
  (.seq (.regN [0, 1, 4, 5, 6, 7, 8] [
    ⟨(some 44), none, .mv (.tmp 1), 0, false⟩,
    ⟨(some 45), none, .call 19 [(.tmp 44)], 0, false⟩,
    ⟨(some 9), none, .mv (.tmp 45), 0, false⟩])
  (.seq (.regN [0, 1, 4, 5, 6, 7, 8, 9] [
    ⟨(some 46), none, .mv (.tmp 9), 0, false⟩,
    ⟨(some 47), none, .call 12 [(.tmp 46), (.con (.val (.int .i64 0))), (.con (.val (.int .i64 6))), (.con (.val (.string ⟨#[]⟩)))], 0, false⟩])
  (.seq (.regN [0, 1, 4, 5, 6, 7, 8, 9] [
    ⟨(some 49), none, .mv (.tmp 1), 0, false⟩,
    ⟨(some 50), none, .call 14 [(.tmp 49), (.con (.val (.int .i64 1))), (.con (.val (.int .i64 3)))], 0, false⟩,
    ⟨(some 48), none, .mv (.tmp 50), 0, false⟩,
    ⟨(some 51), none, .ext (.tmp 48) 0, 0, false⟩,
    ⟨(some 52), none, .ext (.tmp 48) 1, 0, false⟩,
    ⟨(some 10), none, .mv (.tmp 51), 0, false⟩,
    ⟨(some 11), none, .mv (.tmp 52), 0, false⟩])
  (.seq (.regN [0, 1, 4, 5, 6, 7, 8, 9, 10, 11] [
    ⟨(some 54), none, .mv (.tmp 1), 0, false⟩,
    ⟨(some 55), none, .call 14 [(.tmp 54), (.con (.val (.int .i64 3))), (.con (.val (.int .i64 2)))], 0, false⟩,
    ⟨(some 53), none, .mv (.tmp 55), 0, false⟩,
    ⟨(some 56), none, .ext (.tmp 53) 0, 0, false⟩,
    ⟨(some 57), none, .ext (.tmp 53) 1, 0, false⟩,
    ⟨(some 12), none, .mv (.tmp 56), 0, false⟩,
    ⟨(some 13), none, .mv (.tmp 57), 0, false⟩])
  (.seq (.regN [0, 1, 4, 5, 6, 7, 8, 9, 10, 11, 13] [
    ⟨(some 59), none, .mv (.tmp 1), 0, false⟩,
    ⟨(some 60), none, .call 18 [(.tmp 59), (.con (.val (.int .i64 5)))], 0, false⟩,
    ⟨(some 58), none, .mv (.tmp 60), 0, false⟩,
    ⟨(some 61), none, .ext (.tmp 58) 0, 0, false⟩,
    ⟨(some 62), none, .ext (.tmp 58) 1, 0, false⟩,
    ⟨(some 14), none, .mv (.tmp 61), 0, false⟩,
    ⟨(some 15), none, .mv (.tmp 62), 0, false⟩])
  (.seq (.regN [0, 1, 4, 5, 6, 7, 8, 9, 10, 11, 13, 14, 15] [
    ⟨(some 64), none, .mv (.tmp 1), 0, false⟩,
    ⟨(some 65), none, .call 18 [(.tmp 64), (.con (.val (.int .i64 6)))], 0, false⟩,
    ⟨(some 63), none, .mv (.tmp 65), 0, false⟩,
    ⟨(some 66), none, .ext (.tmp 63) 0, 0, false⟩,
    ⟨(some 67), none, .ext (.tmp 63) 1, 0, false⟩,
    ⟨(some 16), none, .mv (.tmp 66), 0, false⟩,
    ⟨(some 17), none, .mv (.tmp 67), 0, false⟩])
  (.seq (.regN [0, 1, 4, 5, 6, 7, 8, 9, 10, 11, 13, 14, 15, 17] [
    ⟨(some 68), none, .mv (.tmp 1), 0, false⟩,
    ⟨(some 69), none, .call 20 [(.tmp 68)], 0, false⟩])
  (.seq (.regN [0, 1, 4, 5, 6, 7, 8, 9, 10, 11, 13, 14, 15, 17] [
    ⟨(some 18), none, .allocH [(.val (.int .i64 0))], 0, false⟩,
    ⟨none, none, .st none 1 (.tmp 18) (.con (.val (.int .i64 0))), 0, false⟩])
  (.seq (.regN [0, 1, 4, 5, 6, 7, 8, 9, 10, 11, 13, 14, 15, 17, 18] [
    ⟨(some 70), none, .mv (.tmp 1), 0, false⟩,
    ⟨(some 71), none, .call 15 [(.tmp 70)], 0, false⟩,
    ⟨(some 19), none, .mv (.tmp 71), 0, false⟩])
  (.seq (.seq (.regN [0, 1, 4, 5, 6, 7, 8, 9, 10, 11, 13, 14, 15, 17, 18, 19] [
    ⟨(some 72), none, .mv (.tmp 19), 0, false⟩,
    ⟨(some 73), none, .eqf false (.tmp 72) (.con (.val .nilFunc)), 0, false⟩])
  (.cond (.tmp 73)
    (.seq (.regN [] [
      ⟨(some 0), none, .mv (.con (.val (.bool false))), 0, false⟩])
    .ret)
    .skip))
  (.seq (.seq (.regN [0, 1, 4, 5, 6, 7, 8, 9, 10, 11, 13, 14, 15, 17, 18, 19] [
    ⟨(some 74), none, .mv (.tmp 19), 0, false⟩])
  (.block 0
    (.rangeF [0, 1, 4, 5, 6, 7, 8, 9, 10, 11, 13, 14, 15, 17, 18, 74] noIt (.tmp 74) [75]
      .skip
      (.block 1
        (.regN [18] [
          ⟨(some 76), none, .ld1 none (.tmp 18), 0, false⟩,
          ⟨(some 77), none, .bini .add (.tmp 76) (.con (.val (.int .i64 1))), 0, false⟩,
          ⟨none, none, .st none 1 (.tmp 18) (.tmp 77), 0, false⟩])))))
  (.seq (.regN [1, 4, 5, 6, 7, 8, 9, 10, 11, 13, 14, 15, 17, 18] [
    ⟨(some 79), none, .mv (.tmp 9), 0, false⟩,
    ⟨(some 80), none, .call 21 [(.tmp 79)], 0, false⟩,
    ⟨(some 78), none, .mv (.tmp 80), 0, false⟩,
    ⟨(some 81), none, .ext (.tmp 78) 0, 0, false⟩,
    ⟨(some 82), none, .ext (.tmp 78) 1, 0, false⟩,
    ⟨(some 20), none, .mv (.tmp 81), 0, false⟩,
    ⟨(some 21), none, .mv (.tmp 82), 0, false⟩])
  (.seq (.regN [1, 4, 5, 6, 7, 8, 9, 10, 11, 13, 14, 15, 17, 18, 20, 21] [
    ⟨(some 83), none, .mv (.tmp 4), 0, false⟩,
    ⟨(some 84), none, .bini .eql (.tmp 83) (.con (.val (.int .i64 3))), 0, false⟩,
    ⟨(some 85), none, .mv (.tmp 84), 0, false⟩,
    ⟨(some 86), (some (85, true)), .mv (.tmp 5), 0, false⟩,
    ⟨(some 87), (some (85, true)), .bini .eql (.tmp 86) (.con (.val (.int .i64 2))), 0, false⟩,
    ⟨(some 88), none, .pick (.tmp 85) (.tmp 87) (.con (.val (.bool false))), 0, false⟩,
    ⟨(some 89), none, .mv (.tmp 88), 0, false⟩,
    ⟨(some 90), (some (89, true)), .mv (.tmp 6), 0, false⟩,
    ⟨(some 91), (some (89, true)), .bini .eql (.tmp 90) (.con (.val (.int .i64 2))), 0, false⟩,
    ⟨(some 92), none, .pick (.tmp 89) (.tmp 91) (.con (.val (.bool false))), 0, false⟩,
    ⟨(some 93), none, .mv (.tmp 92), 0, false⟩,
    ⟨(some 94), (some (93, true)), .mv (.tmp 7), 0, false⟩,
    ⟨(some 95), (some (93, true)), .bini .eql (.tmp 94) (.con (.val (.int .i64 3))), 0, false⟩,
    ⟨(some 96), none, .pick (.tmp 93) (.tmp 95) (.con (.val (.bool false))), 0, false⟩,
    ⟨(some 97), none, .mv (.tmp 96), 0, false⟩,
    ⟨(some 98), (some (97, true)), .mv (.tmp 8), 0, false⟩,
    ⟨(some 99), (some (97, true)), .bini .eql (.tmp 98) (.con (.val (.int .i64 0))), 0, false⟩,
    ⟨(some 100), none, .pick (.tmp 97) (.tmp 99) (.con (.val (.bool false))), 0, false⟩,
    ⟨(some 101), none, .mv (.tmp 100), 0, false⟩,
    ⟨(some 102), (some (101, true)), .mv (.tmp 1), 0, false⟩,
    ⟨(some 103), (some (101, true)), .call 13 [(.tmp 102)], 0, false⟩,
    ⟨(some 104), (some (101, true)), .bins .eql (.tmp 103) (.con (.val (.string ⟨#[104, 101, 108, 108, 111, 33]⟩))), 0, false⟩,
    ⟨(some 105), none, .pick (.tmp 101) (.tmp 104) (.con (.val (.bool false))), 0, false⟩,
    ⟨(some 106), none, .mv (.tmp 105), 0, false⟩,
    ⟨(some 107), (some (106, true)), .mv (.tmp 9), 0, false⟩,
    ⟨(some 108), (some (106, true)), .call 17 [(.tmp 107)], 0, false⟩,
    ⟨(some 109), (some (106, true)), .bini .eql (.tmp 108) (.con (.val (.int .i64 0))), 0, false⟩,
    ⟨(some 110), none, .pick (.tmp 106) (.tmp 109) (.con (.val (.bool false))), 0, false⟩,
    ⟨(some 111), none, .mv (.tmp 110), 0, false⟩,
    ⟨(some 112), (some (111, true)), .mv (.tmp 21), 0, false⟩,
    ⟨(some 113), none, .pick (.tmp 111) (.tmp 112) (.con (.val (.bool false))), 0, false⟩,
    ⟨(some 114), none, .mv (.tmp 113), 0, false⟩,
    ⟨(some 115), (some (114, true)), .mv (.tmp 20), 0, false⟩,
    ⟨(some 116), (some (114, true)), .bins .eql (.tmp 115) (.con (.val (.string ⟨#[]⟩))), 0, false⟩,
    ⟨(some 117), none, .pick (.tmp 114) (.tmp 116) (.con (.val (.bool false))), 0, false⟩,
    ⟨(some 118), none, .mv (.tmp 117), 0, false⟩,
    ⟨(some 119), (some (118, true)), .mv (.tmp 11), 0, false⟩,
    ⟨(some 120), (some (118, true)), .bini .eql (.tmp 119) (.con (.val (.int .i64 0))), 0, false⟩,
    ⟨(some 121), none, .pick (.tmp 118) (.tmp 120) (.con (.val (.bool false))), 0, false⟩,
    ⟨(some 122), none, .mv (.tmp 121), 0, false⟩,
    ⟨(some 123), (some (122, true)), .mv (.tmp 10), 0, false⟩,
    ⟨(some 124), (some (122, true)), .bins .eql (.tmp 123) (.con (.val (.string ⟨#[101, 108]⟩))), 0, false⟩,
    ⟨(some 125), none, .pick (.tmp 122) (.tmp 124) (.con (.val (.bool false))), 0, false⟩,
    ⟨(some 126), none, .mv (.tmp 125), 0, false⟩,
    ⟨(some 127), (some (126, true)), .mv (.tmp 13), 0, false⟩,
    ⟨(some 128), (some (126, true)), .bini .eql (.tmp 127) (.con (.val (.int .i64 2))), 0, false⟩,
    ⟨(some 129), none, .pick (.tmp 126) (.tmp 128) (.con (.val (.bool false))), 0, false⟩,
    ⟨(some 130), none, .mv (.tmp 129), 0, false⟩,
    ⟨(some 131), (some (130, true)), .mv (.tmp 15), 0, false⟩,
    ⟨(some 132), none, .pick (.tmp 130) (.tmp 131) (.con (.val (.bool false))), 0, false⟩,
    ⟨(some 133), none, .mv (.tmp 132), 0, false⟩,
    ⟨(some 134), (some (133, true)), .mv (.tmp 14), 0, false⟩,
    ⟨(some 135), (some (133, true)), .bini .eql (.tmp 134) (.con (.val (.int .u8 33))), 0, false⟩,
    ⟨(some 136), none, .pick (.tmp 133) (.tmp 135) (.con (.val (.bool false))), 0, false⟩,
    ⟨(some 137), none, .mv (.tmp 136), 0, false⟩,
    ⟨(some 138), (some (137, true)), .mv (.tmp 17), 0, false⟩,
    ⟨(some 139), (some (137, true)), .not (.tmp 138), 0, false⟩,
    ⟨(some 140), none, .pick (.tmp 137) (.tmp 139) (.con (.val (.bool false))), 0, false⟩,
    ⟨(some 141), none, .mv (.tmp 140), 0, false⟩,
    ⟨(some 142), (some (141, true)), .ld1 none (.tmp 18), 0, false⟩,
    ⟨(some 143), (some (141, true)), .bini .eql (.tmp 142) (.con (.val (.int .i64 1))), 0, false⟩,
    ⟨(some 144), none, .pick (.tmp 141) (.tmp 143) (.con (.val (.bool false))), 0, false⟩,
    ⟨(some 0), none, .mv (.tmp 144), 0, false⟩])
  .ret)))))))))))))))))))))
def t6 : AFn := ⟨0, t6B,
  [.tmp 0], true⟩
/-- (*viewport/piece.Table).Clone  -/
def t19L1 : AC := (.seq (.seq (.regN [3, 4] [
        ⟨(some 12), none, .mv (.tmp 4), 0, false⟩,
        ⟨(some 13), none, .nilc (.tmp 12), 0, false⟩,
        ⟨(some 14), none, .ld1 none (.tmp 13), 0, false⟩,
        ⟨(some 15), none, .eqp true (.tmp 14) (.con (.val (.pointer none))), 0, false⟩])
      (.cond (.tmp 15)
        .skip
        (.exit 0)))
      (.seq (.block 1
        (.seq (.regN [3, 4] [
          ⟨(some 21), none, .mv (.tmp 4), 0, false⟩,
          ⟨(some 22), none, .nilc (.tmp 21), 0, false⟩,
          ⟨(some 23), none, .ld1 none (.tmp 22), 0, false⟩,
          ⟨(some 24), none, .nilc (.tmp 23), 0, false⟩,
          ⟨(some 25), none, .ldA none 4 (.tmp 24), 0, false⟩,
          ⟨(some 5), none, .allocH [(.val (.bool false)), (.val (.int .i64 0)), (.val (.int .i64 0)), (.val (.pointer none))], 0, false⟩,
          ⟨none, none, .st none 4 (.tmp 5) (.tmp 25), 0, false⟩])
        (.regN [3, 4, 5] [
          ⟨(some 26), none, .mv (.tmp 4), 0, false⟩,
          ⟨(some 27), none, .nilc (.tmp 26), 0, false⟩,
          ⟨none, none, .st none 1 (.tmp 27) (.tmp 5), 0, false⟩])))
      (.regN [3, 4] [
        ⟨(some 16), none, .mv (.tmp 4), 0, false⟩,
        ⟨(some 17), none, .nilc (.tmp 16), 0, false⟩,
        ⟨(some 18), none, .ld1 none (.tmp 17), 0, false⟩,
        ⟨(some 19), none, .nilc (.tmp 18), 0, false⟩,
        ⟨(some 20), none, .fldA 3 (.tmp 19), 0, false⟩,
        ⟨(some 4), none, .mv (.tmp 20), 0, false⟩])))
def t19B : AC := (.seq (.regN [0] [
    ⟨(some 2), none, .mv (.con (.val (.pointer none))), 0, false⟩])
  (.seq (.seq (.regN [0] [
    ⟨(some 6), none, .mv (.tmp 0), 0, false⟩,
    ⟨(some 7), none, .eqp false (.tmp 6) (.con (.val (.pointer none))), 0, false⟩])
  (.cond (.tmp 7)
    (.seq (.regN [] [
      ⟨(some 2), none, .mv (.con (.val (.pointer none))), 0, false⟩])
    .ret)
    .skip))
  (.seq (.regN [0] [
    ⟨(some 8), none, .mv (.tmp 0), 0, false⟩,
    ⟨(some 9), none, .nilc (.tmp 8), 0, false⟩,
    ⟨(some 10), none, .ldA none 4 (.tmp 9), 0, false⟩,
    ⟨(some 3), none, .allocH [(.val (.string ⟨#[]⟩)), (.val (.string ⟨#[]⟩)), (.val (.pointer none)), (.val (.int .i64 0))], 0, false⟩,
    ⟨none, none, .st none 4 (.tmp 3) (.tmp 10), 0, false⟩])
  (.seq (.seq (.regN [3] [
    ⟨(some 11), none, .fldA 2 (.tmp 3), 0, false⟩,
    ⟨(some 4), none, .mv (.tmp 11), 0, false⟩])
  (.block 0
    (.loop [3, 4] t19L1)))
  (.seq (.regN [3] [
    ⟨(some 2), none, .mv (.tmp 3), 0, false⟩])
  .ret)))))
def t19 : AFn := ⟨1, t19B,
  [.tmp 2], false⟩
/-- (*viewport/piece.Table).Pack  -/
def t20B : AC := (.seq (.regN [0] [
    ⟨(some 4), none, .mv (.tmp 0), 0, false⟩,
    ⟨(some 5), none, .eqp true (.tmp 4) (.con (.val (.pointer none))), 0, false⟩])
  (.cond (.tmp 5)
    (.seq (.regN [0] [
      ⟨(some 7), none, .mv (.tmp 0), 0, false⟩,
      ⟨(some 8), none, .call 13 [(.tmp 7)], 0, false⟩,
      ⟨(some 9), none, .call 11 [(.tmp 8)], 0, false⟩,
      ⟨(some 6), none, .mv (.tmp 9), 0, false⟩,
      ⟨(some 10), none, .ext (.tmp 6) 0, 0, false⟩,
      ⟨(some 11), none, .ext (.tmp 6) 1, 0, false⟩,
      ⟨(some 2), none, .mv (.tmp 10), 0, false⟩,
      ⟨(some 3), none, .mv (.tmp 11), 0, false⟩])
    (.regN [0, 2] [
      ⟨(some 12), none, .mv (.tmp 0), 0, false⟩,
      ⟨(some 13), none, .mv (.tmp 2), 0, false⟩,
      ⟨(some 14), none, .nilc (.tmp 13), 0, false⟩,
      ⟨(some 15), none, .ldA none 4 (.tmp 14), 0, false⟩,
      ⟨(some 16), none, .nilc (.tmp 12), 0, false⟩,
      ⟨none, none, .st none 4 (.tmp 16) (.tmp 15), 0, false⟩]))
    .skip))
def t20 : AFn := ⟨1, t20B,
  [], false⟩
/-- viewport/viewportlaw08.all  -/
def t21B : AC := (.seq (.regN [0] [
    ⟨(some 2), none, .allocH [(.val (.string ⟨#[]⟩))], 0, false⟩,
    ⟨(some 3), none, .allocH [(.val (.bool false))], 0, false⟩])
  (.seq (.regN [0, 2, 3] [
    ⟨(some 8), none, .mv (.tmp 0), 0, false⟩,
    ⟨(some 9), none, .call 15 [(.tmp 8)], 0, false⟩,
    ⟨(some 4), none, .mv (.tmp 9), 0, false⟩])
  (.seq (.seq (.regN [2, 3, 4] [
    ⟨(some 10), none, .mv (.tmp 4), 0, false⟩,
    ⟨(some 11), none, .eqf false (.tmp 10) (.con (.val .nilFunc)), 0, false⟩])
  (.cond (.tmp 11)
    (.seq (.regN [2, 3] [
      ⟨none, none, .st none 1 (.tmp 2) (.con (.val (.string ⟨#[]⟩))), 0, false⟩,
      ⟨none, none, .st none 1 (.tmp 3) (.con (.val (.bool false))), 0, false⟩])
    .ret)
    .skip))
  (.seq (.regN [2, 3, 4] [
    ⟨(some 5), none, .allocH [(.val (.string ⟨#[]⟩))], 0, false⟩,
    ⟨(some 6), none, .allocH [(.val (.int .i64 0))], 0, false⟩,
    ⟨none, none, .st none 1 (.tmp 5) (.con (.val (.string ⟨#[]⟩))), 0, false⟩,
    ⟨none, none, .st none 1 (.tmp 6) (.con (.val (.int .i64 0))), 0, false⟩])
  (.seq (.seq (.regN [2, 3, 4, 5, 6] [
    ⟨(some 12), none, .mv (.tmp 4), 0, false⟩])
  (.block 0
    (.rangeF [2, 3, 5, 6, 12] noIt (.tmp 12) [13]
      (.regN [2, 3, 5, 6, 13] [
        ⟨(some 7), none, .mv (.tmp 13), 0, false⟩])
      (.block 1
        (.seq (.regN [2, 3, 5, 6, 7] [
          ⟨(some 14), none, .ld1 none (.tmp 6), 0, false⟩,
          ⟨(some 15), none, .bini .add (.tmp 14) (.con (.val (.int .i64 1))), 0, false⟩,
          ⟨none, none, .st none 1 (.tmp 6) (.tmp 15), 0, false⟩])
        (.seq (.seq (.regN [2, 3, 5, 6, 7] [
          ⟨(some 16), none, .mv (.tmp 7), 0, false⟩,
          ⟨(some 17), none, .bins .eql (.tmp 16) (.con (.val (.string ⟨#[]⟩))), 0, false⟩,
          ⟨(some 18), none, .mv (.tmp 17), 0, false⟩,
          ⟨(some 19), (some (18, false)), .ld1 none (.tmp 6), 0, false⟩,
          ⟨(some 20), (some (18, false)), .bini .gtr (.tmp 19) (.con (.val (.int .i64 65536))), 0, false⟩,
          ⟨(some 21), none, .pick (.tmp 18) (.con (.val (.bool true))) (.tmp 20), 0, false⟩])
        (.cond (.tmp 21)
          (.seq (.regN [2, 3] [
            ⟨none, none, .st none 1 (.tmp 2) (.con (.val (.string ⟨#[]⟩))), 0, false⟩,
            ⟨none, none, .st none 1 (.tmp 3) (.con (.val (.bool false))), 0, false⟩])
          .ret)
          .skip))
        (.regN [5, 7] [
          ⟨(some 22), none, .ld1 none (.tmp 5), 0, false⟩,
          ⟨(some 23), none, .mv (.tmp 7), 0, false⟩,
          ⟨(some 24), none, .bins .add (.tmp 22) (.tmp 23), 0, false⟩,
          ⟨none, none, .st none 1 (.tmp 5) (.tmp 24), 0, false⟩])))))))
  (.seq (.regN [2, 3, 5] [
    ⟨(some 25), none, .ld1 none (.tmp 5), 0, false⟩,
    ⟨none, none, .st none 1 (.tmp 2) (.tmp 25), 0, false⟩,
    ⟨none, none, .st none 1 (.tmp 3) (.con (.val (.bool true))), 0, false⟩])
  .ret))))))
def t21 : AFn := ⟨1, t21B,
  [.cell 2 1 false, .cell 3 1 false], true⟩
/-- viewport/viewportlaw08.PieceScript  -/
def t7L1 : AC := (.seq (.seq (.regN [1, 2, 3, 4, 11, 13, 15] [
        ⟨(some 54), none, .mv (.tmp 15), 0, false⟩,
        ⟨(some 55), none, .mv (.tmp 1), 0, false⟩,
        ⟨(some 56), none, .len false (.tmp 55), 0, false⟩,
        ⟨(some 57), none, .bini .lss (.tmp 54) (.tmp 56), 0, false⟩])
      (.cond (.tmp 57)
        .skip
        (.exit 0)))
      (.seq (.block 1
        (.seq (.seq (.regN [1, 2, 3, 4, 11, 13, 15] [
          ⟨(some 60), none, .mv (.tmp 1), 0, false⟩,
          ⟨(some 61), none, .mv (.tmp 15), 0, false⟩,
          ⟨(some 62), none, .ixA 4 (.tmp 60) (.tmp 61), 0, false⟩,
          ⟨(some 63), none, .fldA 0 (.tmp 62), 0, false⟩,
          ⟨(some 64), none, .ld1 none (.tmp 63), 0, false⟩,
          ⟨(some 65), none, .call 16 [(.tmp 64), (.con (.val (.int .i64 5)))], 0, false⟩])
        (.block 2
          (.seq (.regN [1, 2, 3, 4, 11, 13, 15, 65] [
            ⟨(some 102), none, .bini .eql (.tmp 65) (.con (.val (.int .i64 3))), 0, false⟩,
            ⟨(some 101), none, .mv (.tmp 102), 0, false⟩])
          (.cond (.tmp 101)
            (.regN [1, 2, 3, 4, 11, 13, 15] [
              ⟨(some 103), none, .mv (.tmp 11), 0, false⟩,
              ⟨(some 104), none, .call 20 [(.tmp 103)], 0, false⟩])
            (.seq (.regN [1, 2, 3, 4, 11, 13, 15, 65] [
              ⟨(some 106), none, .bini .eql (.tmp 65) (.con (.val (.int .i64 4))), 0, false⟩,
              ⟨(some 105), none, .mv (.tmp 106), 0, false⟩])
            (.cond (.tmp 105)
              (.seq (.regN [1, 2, 3, 4, 11, 13, 15] [
                ⟨(some 107), none, .mv (.tmp 11), 0, false⟩,
                ⟨(some 108), none, .call 19 [(.tmp 107)], 0, false⟩,
                ⟨(some 16), none, .mv (.tmp 108), 0, false⟩])
              (.seq (.regN [1, 2, 3, 4, 11, 13, 15, 16] [
                ⟨(some 109), none, .mv (.tmp 11), 0, false⟩,
                ⟨(some 110), none, .mv (.tmp 11), 0, false⟩,
                ⟨(some 111), none, .call 17 [(.tmp 110)], 0, false⟩,
                ⟨(some 112), none, .call 12 [(.tmp 109), (.con (.val (.int .i64 0))), (.tmp 111), (.con (.val (.string ⟨#[122, 122]⟩)))], 0, false⟩])
              (.seq (.regN [1, 2, 3, 4, 13, 15, 16] [
                ⟨(some 113), none, .mv (.tmp 16), 0, false⟩,
                ⟨(some 11), none, .mv (.tmp 113), 0, false⟩])
              (.seq (.regN [1, 2, 3, 4, 11, 13, 15] [
                ⟨(some 114), none, .mv (.tmp 11), 0, false⟩,
                ⟨(some 115), none, .eqp false (.tmp 114) (.con (.val (.pointer none))), 0, false⟩])
              (.cond (.tmp 115)
                (.seq (.regN [] [
                  ⟨(some 10), none, .mv (.con (.val (.bool false))), 0, false⟩])
                .ret)
                .skip)))))
              (.seq (.regD [1, 2, 3, 4, 11, 13, 15] 0 [
                ⟨(some 66), none, .mv (.tmp 11), 0, false⟩,
                ⟨(some 67), none, .mv (.tmp 1), 0, false⟩,
                ⟨(some 68), none, .mv (.tmp 15), 0, false⟩,
                ⟨(some 69), none, .ixA 4 (.tmp 67) (.tmp 68), 0, false⟩,
                ⟨(some 70), none, .fldA 1 (.tmp 69), 0, false⟩,
                ⟨(some 71), none, .ld1 none (.tmp 70), 0, false⟩,
                ⟨(some 72), none, .mv (.tmp 1), 0, false⟩,
                ⟨(some 73), none, .mv (.tmp 15), 0, false⟩,
                ⟨(some 74), none, .ixA 4 (.tmp 72) (.tmp 73), 0, false⟩,
                ⟨(some 75), none, .fldA 2 (.tmp 74), 0, false⟩,
                ⟨(some 76), none, .ld1 none (.tmp 75), 0, false⟩,
                ⟨(some 77), none, .mv (.tmp 1), 0, false⟩,
                ⟨(some 78), none, .mv (.tmp 15), 0, false⟩,
                ⟨(some 79), none, .ixA 4 (.tmp 77) (.tmp 78), 0, false⟩,
                ⟨(some 80), none, .fldA 3 (.tmp 79), 0, false⟩,
                ⟨(some 81), none, .ld1 none (.tmp 80), 0, false⟩,
                ⟨(some 82), none, .call 12 [(.tmp 66), (.tmp 71), (.tmp 76), (.tmp 81)], 0, true⟩,
                ⟨(some 83), none, .mv (.tmp 13), 0, false⟩,
                ⟨(some 84), none, .mv (.tmp 1), 0, false⟩,
                ⟨(some 85), none, .mv (.tmp 15), 0, false⟩,
                ⟨(some 86), none, .ixA 4 (.tmp 84) (.tmp 85), 0, false⟩,
                ⟨(some 87), none, .fldA 1 (.tmp 86), 0, false⟩,
                ⟨(some 88), none, .ld1 none (.tmp 87), 0, true⟩,
                ⟨(some 89), none, .mv (.tmp 1), 0, false⟩,
                ⟨(some 90), none, .mv (.tmp 15), 0, false⟩,
                ⟨(some 91), none, .ixA 4 (.tmp 89) (.tmp 90), 0, false⟩,
                ⟨(some 92), none, .fldA 2 (.tmp 91), 0, false⟩,
                ⟨(some 93), none, .ld1 none (.tmp 92), 0, true⟩,
                ⟨(some 94), none, .mv (.tmp 1), 0, false⟩,
                ⟨(some 95), none, .mv (.tmp 15), 0, false⟩,
                ⟨(some 96), none, .ixA 4 (.tmp 94) (.tmp 95), 0, false⟩,
                ⟨(some 97), none, .fldA 3 (.tmp 96), 0, false⟩,
                ⟨(some 98), none, .ld1 none (.tmp 97), 0, true⟩,
                ⟨(some 99), none, .call 23 [(.tmp 83), (.tmp 88), (.tmp 93), (.tmp 98)], 0, true⟩,
                ⟨(some 100), none, .bini .neq (.tmp 82) (.tmp 99), 0, false⟩])
              (.cond (.tmp 100)
                (.seq (.regN [] [
                  ⟨(some 10), none, .mv (.con (.val (.bool false))), 0, false⟩])
                .ret)
                .skip))))))))
        (.seq (.regN [1, 2, 3, 4, 11, 13, 15] [
          ⟨(some 117), none, .mv (.tmp 11), 0, false⟩,
          ⟨(some 118), none, .mv (.tmp 2), 0, false⟩,
          ⟨(some 119), none, .mv (.tmp 3), 0, false⟩,
          ⟨(some 120), none, .call 14 [(.tmp 117), (.tmp 118), (.tmp 119)], 0, false⟩,
          ⟨(some 116), none, .mv (.tmp 120), 0, false⟩,
          ⟨(some 121), none, .ext (.tmp 116) 0, 0, false⟩,
          ⟨(some 122), none, .ext (.tmp 116) 1, 0, false⟩,
          ⟨(some 17), none, .mv (.tmp 121), 0, false⟩,
          ⟨(some 18), none, .mv (.tmp 122), 0, false⟩])
        (.seq (.regN [1, 2, 3, 4, 11, 13, 15, 17, 18] [
          ⟨(some 124), none, .mv (.tmp 13), 0, false⟩,
          ⟨(some 125), none, .mv (.tmp 2), 0, false⟩,
          ⟨(some 126), none, .mv (.tmp 3), 0, false⟩,
          ⟨(some 127), none, .call 24 [(.tmp 124), (.tmp 125), (.tmp 126)], 0, false⟩,
          ⟨(some 123), none, .mv (.tmp 127), 0, false⟩,
          ⟨(some 128), none, .ext (.tmp 123) 0, 0, false⟩,
          ⟨(some 129), none, .ext (.tmp 123) 1, 0, false⟩,
          ⟨(some 19), none, .mv (.tmp 128), 0, false⟩,
          ⟨(some 20), none, .mv (.tmp 129), 0, false⟩])
        (.seq (.regN [1, 2, 3, 4, 11, 13, 15, 17, 18, 19, 20] [
          ⟨(some 131), none, .mv (.tmp 11), 0, false⟩,
          ⟨(some 132), none, .mv (.tmp 4), 0, false⟩,
          ⟨(some 133), none, .call 18 [(.tmp 131), (.tmp 132)], 0, false⟩,
          ⟨(some 130), none, .mv (.tmp 133), 0, false⟩,
          ⟨(some 134), none, .ext (.tmp 130) 0, 0, false⟩,
          ⟨(some 135), none, .ext (.tmp 130) 1, 0, false⟩,
          ⟨(some 21), none, .mv (.tmp 134), 0, false⟩,
          ⟨(some 22), none, .mv (.tmp 135), 0, false⟩])
        (.seq (.regN [1, 2, 3, 4, 11, 13, 15, 17, 18, 19, 20, 21, 22] [
          ⟨(some 137), none, .mv (.tmp 13), 0, false⟩,
          ⟨(some 138), none, .mv (.tmp 4), 0, false⟩,
          ⟨(some 139), none, .call 25 [(.tmp 137), (.tmp 138)], 0, false⟩,
          ⟨(some 136), none, .mv (.tmp 139), 0, false⟩,
          ⟨(some 140), none, .ext (.tmp 136) 0, 0, false⟩,
          ⟨(some 141), none, .ext (.tmp 136) 1, 0, false⟩,
          ⟨(some 23), none, .mv (.tmp 140), 0, false⟩,
          ⟨(some 24), none, .mv (.tmp 141), 0, false⟩])
        (.seq (.regN [1, 2, 3, 4, 11, 13, 15, 17, 18, 19, 20, 21, 22, 23, 24] [
          ⟨(some 143), none, .mv (.tmp 11), 0, false⟩,
          ⟨(some 144), none, .call 21 [(.tmp 143)], 0, false⟩,
          ⟨(some 142), none, .mv (.tmp 144), 0, false⟩,
          ⟨(some 145), none, .ext (.tmp 142) 0, 0, false⟩,
          ⟨(some 146), none, .ext (.tmp 142) 1, 0, false⟩,
          ⟨(some 25), none, .mv (.tmp 145), 0, false⟩,
          ⟨(some 26), none, .mv (.tmp 146), 0, false⟩])
        (.seq (.regD [1, 2, 3, 4, 11, 13, 15, 17, 18, 19, 20, 21, 22, 23, 24, 25, 26] 0 [
          ⟨(some 147), none, .mv (.tmp 11), 0, false⟩,
          ⟨(some 148), none, .call 13 [(.tmp 147)], 0, false⟩,
          ⟨(some 149), none, .mv (.tmp 13), 0, false⟩,
          ⟨(some 150), none, .nilc (.tmp 149), 0, false⟩,
          ⟨(some 151), none, .fldA 0 (.tmp 150), 0, false⟩,
          ⟨(some 152), none, .ld1 none (.tmp 151), 0, false⟩,
          ⟨(some 153), none, .bins .neq (.tmp 148) (.tmp 152), 0, false⟩,
          ⟨(some 154), none, .mv (.tmp 153), 0, false⟩,
          ⟨(some 155), (some (154, false)), .mv (.tmp 11), 0, false⟩,
          ⟨(some 156), (some (154, false)), .call 17 [(.tmp 155)], 0, false⟩,
          ⟨(some 157), (some (154, false)), .mv (.tmp 13), 0, false⟩,
          ⟨(some 158), (some (154, false)), .nilc (.tmp 157), 0, false⟩,
          ⟨(some 159), (some (154, false)), .fldA 0 (.tmp 158), 0, false⟩,
          ⟨(some 160), (some (154, false)), .ld1 none (.tmp 159), 0, false⟩,
          ⟨(some 161), (some (154, false)), .len true (.tmp 160), 0, false⟩,
          ⟨(some 162), (some (154, false)), .bini .neq (.tmp 156) (.tmp 161), 0, false⟩,
          ⟨(some 163), none, .pick (.tmp 154) (.con (.val (.bool true))) (.tmp 162), 0, false⟩,
          ⟨(some 164), none, .mv (.tmp 163), 0, false⟩,
          ⟨(some 165), (some (164, false)), .mv (.tmp 17), 0, false⟩,
          ⟨(some 166), (some (164, false)), .mv (.tmp 19), 0, false⟩,
          ⟨(some 167), (some (164, false)), .bins .neq (.tmp 165) (.tmp 166), 0, false⟩,
          ⟨(some 168), none, .pick (.tmp 164) (.con (.val (.bool true))) (.tmp 167), 0, false⟩,
          ⟨(some 169), none, .mv (.tmp 168), 0, false⟩,
          ⟨(some 170), (some (169, false)), .mv (.tmp 18), 0, false⟩,
          ⟨(some 171), (some (169, false)), .mv (.tmp 20), 0, false⟩,
          ⟨(some 172), (some (169, false)), .bini .neq (.tmp 170) (.tmp 171), 0, false⟩,
          ⟨(some 173), none, .pick (.tmp 169) (.con (.val (.bool true))) (.tmp 172), 0, false⟩,
          ⟨(some 174), none, .mv (.tmp 173), 0, false⟩,
          ⟨(some 175), (some (174, false)), .mv (.tmp 21), 0, false⟩,
          ⟨(some 176), (some (174, false)), .mv (.tmp 23), 0, false⟩,
          ⟨(some 177), (some (174, false)), .bini .neq (.tmp 175) (.tmp 176), 0, false⟩,
          ⟨(some 178), none, .pick (.tmp 174) (.con (.val (.bool true))) (.tmp 177), 0, false⟩,
          ⟨(some 179), none, .mv (.tmp 178), 0, false⟩,
          ⟨(some 180), (some (179, false)), .mv (.tmp 22), 0, false⟩,
          ⟨(some 181), (some (179, false)), .mv (.tmp 24), 0, false⟩,
          ⟨(some 182), (some (179, false)), .eqb true (.tmp 180) (.tmp 181), 0, false⟩,
          ⟨(some 183), none, .pick (.tmp 179) (.con (.val (.bool true))) (.tmp 182), 0, false⟩,
          ⟨(some 184), none, .mv (.tmp 183), 0, false⟩,
          ⟨(some 185), (some (184, false)), .mv (.tmp 26), 0, false⟩,
          ⟨(some 186), (some (184, false)), .not (.tmp 185), 0, false⟩,
          ⟨(some 187), none, .pick (.tmp 184) (.con (.val (.bool true))) (.tmp 186), 0, false⟩,
          ⟨(some 188), none, .mv (.tmp 187), 0, false⟩,
          ⟨(some 189), (some (188, false)), .mv (.tmp 25), 0, false⟩,
          ⟨(some 190), (some (188, false)), .mv (.tmp 13), 0, false⟩,
          ⟨(some 191), (some (188, false)), .nilc (.tmp 190), 0, false⟩,
          ⟨(some 192), (some (188, false)), .fldA 0 (.tmp 191), 0, false⟩,
          ⟨(some 193), (some (188, false)), .ld1 none (.tmp 192), 0, false⟩,
          ⟨(some 194), (some (188, false)), .bins .neq (.tmp 189) (.tmp 193), 0, false⟩,
          ⟨(some 195), none, .pick (.tmp 188) (.con (.val (.bool true))) (.tmp 194), 0, false⟩])
        (.cond (.tmp 195)
          (.seq (.regN [] [
            ⟨(some 10), none, .mv (.con (.val (.bool false))), 0, false⟩])
          .ret)
          .skip)))))))))
      (.regN [1, 2, 3, 4, 11, 13, 15] [
        ⟨(some 58), none, .mv (.tmp 15), 0, false⟩,
        ⟨(some 59), none, .bini .add (.tmp 58) (.con (.val (.int .i64 1))), 0, false⟩,
        ⟨(some 15), none, .mv (.tmp 59), 0, false⟩])))
def t7B : AC := (.seq (.regN [0, 1, 2, 3, 4] [
    ⟨(some 10), none, .mv (.con (.val (.bool false))), 0, false⟩])
  (.seq (.seq (.regN [0, 1, 2, 3, 4] [
    ⟨(some 27), none, .call 8 [], 0, false⟩,
    ⟨(some 28), none, .not (.tmp 27), 0, false⟩])
  (.cond (.tmp 28)
    (.seq (.regN [] [
      ⟨(some 10), none, .mv (.con (.val (.bool false))), 0, false⟩])
    .ret)
    .skip))
  (.seq (.seq (.regN [0, 1, 2, 3, 4] [
    ⟨(some 29), none, .mv (.tmp 0), 0, false⟩,
    ⟨(some 30), none, .mv (.tmp 1), 0, false⟩,
    ⟨(some 31), none, .call 9 [(.tmp 29), (.tmp 30)], 0, false⟩,
    ⟨(some 32), none, .not (.tmp 31), 0, false⟩])
  (.cond (.tmp 32)
    (.seq (.regN [] [
      ⟨(some 10), none, .mv (.con (.val (.bool true))), 0, false⟩])
    .ret)
    .skip))
  (.seq (.regN [0, 1, 2, 3, 4] [
    ⟨(some 34), none, .mv (.tmp 0), 0, false⟩,
    ⟨(some 35), none, .call 11 [(.tmp 34)], 0, false⟩,
    ⟨(some 33), none, .mv (.tmp 35), 0, false⟩,
    ⟨(some 36), none, .ext (.tmp 33) 0, 0, false⟩,
    ⟨(some 37), none, .ext (.tmp 33) 1, 0, false⟩,
    ⟨(some 11), none, .mv (.tmp 36), 0, false⟩,
    ⟨(some 12), none, .mv (.tmp 37), 0, false⟩])
  (.seq (.regN [0, 1, 2, 3, 4, 11, 12] [
    ⟨(some 39), none, .mv (.tmp 0), 0, false⟩,
    ⟨(some 40), none, .call 22 [(.tmp 39)], 0, false⟩,
    ⟨(some 38), none, .mv (.tmp 40), 0, false⟩,
    ⟨(some 41), none, .ext (.tmp 38) 0, 0, false⟩,
    ⟨(some 42), none, .ext (.tmp 38) 1, 0, false⟩,
    ⟨(some 13), none, .mv (.tmp 41), 0, false⟩,
    ⟨(some 14), none, .mv (.tmp 42), 0, false⟩])
  (.seq (.seq (.regN [1, 2, 3, 4, 11, 12, 13, 14] [
    ⟨(some 43), none, .mv (.tmp 12), 0, false⟩,
    ⟨(some 44), none, .mv (.tmp 14), 0, false⟩,
    ⟨(some 45), none, .bini .neq (.tmp 43) (.tmp 44), 0, false⟩,
    ⟨(some 46), none, .mv (.tmp 45), 0, false⟩,
    ⟨(some 47), (some (46, false)), .mv (.tmp 11), 0, false⟩,
    ⟨(some 48), (some (46, false)), .eqp false (.tmp 47) (.con (.val (.pointer none))), 0, false⟩,
    ⟨(some 49), none, .pick (.tmp 46) (.con (.val (.bool true))) (.tmp 48), 0, false⟩,
    ⟨(some 50), none, .mv (.tmp 49), 0, false⟩,
    ⟨(some 51), (some (50, false)), .mv (.tmp 13), 0, false⟩,
    ⟨(some 52), (some (50, false)), .eqp false (.tmp 51) (.con (.val (.pointer none))), 0, false⟩,
    ⟨(some 53), none, .pick (.tmp 50) (.con (.val (.bool true))) (.tmp 52), 0, false⟩])
  (.cond (.tmp 53)
    (.seq (.regN [] [
      ⟨(some 10), none, .mv (.con (.val (.bool false))), 0, false⟩])
    .ret)
    .skip))
  (.seq (.seq (.regN [1, 2, 3, 4, 11, 13] [
    ⟨(some 15), none, .mv (.con (.val (.int .i64 0))), 0, false⟩])
  (.block 0
    (.loop [1, 2, 3, 4, 11, 13, 15] t7L1)))
  (.seq (.regN [] [
    ⟨(some 10), none, .mv (.con (.val (.bool true))), 0, false⟩])
  .ret))))))))
def t7 : AFn := ⟨5, t7B,
  [.tmp 10], true⟩
/-- viewport/viewportref08.New  -/
def t22B : AC := (.seq (.regN [0] [
    ⟨(some 2), none, .mv (.con (.val (.pointer none))), 0, false⟩,
    ⟨(some 3), none, .mv (.con (.val (.int .i64 0))), 0, false⟩])
  (.seq (.seq (.regN [0] [
    ⟨(some 4), none, .mv (.tmp 0), 0, false⟩,
    ⟨(some 5), none, .len true (.tmp 4), 0, false⟩,
    ⟨(some 6), none, .bini .gtr (.tmp 5) (.con (.val (.int .i64 65536))), 0, false⟩])
  (.cond (.tmp 6)
    (.seq (.regN [] [
      ⟨(some 2), none, .mv (.con (.val (.pointer none))), 0, false⟩,
      ⟨(some 3), none, .mv (.con (.val (.int .i64 3))), 0, false⟩])
    .ret)
    .skip))
  (.seq (.regN [0] [
    ⟨(some 7), none, .mv (.tmp 0), 0, false⟩,
    ⟨(some 8), none, .build [(.val (.string ⟨#[]⟩))] [(0, 1, (.tmp 7))], 0, false⟩,
    ⟨(some 9), none, .boxH 1 (.tmp 8), 0, false⟩,
    ⟨(some 2), none, .mv (.tmp 9), 0, false⟩,
    ⟨(some 3), none, .mv (.con (.val (.int .i64 0))), 0, false⟩])
  .ret)))
def t22 : AFn := ⟨1, t22B,
  [.tmp 2, .tmp 3], false⟩
/-- (*viewport/viewportref08.Table).Edit  -/
def t23B : AC := (.seq (.regN [0, 1, 2, 3] [
    ⟨(some 8), none, .mv (.con (.val (.int .i64 0))), 0, false⟩])
  (.seq (.seq (.regN [0, 1, 2, 3] [
    ⟨(some 9), none, .mv (.tmp 1), 0, false⟩,
    ⟨(some 10), none, .bini .lss (.tmp 9) (.con (.val (.int .i64 0))), 0, false⟩,
    ⟨(some 11), none, .mv (.tmp 10), 0, false⟩,
    ⟨(some 12), (some (11, false)), .mv (.tmp 2), 0, false⟩,
    ⟨(some 13), (some (11, false)), .bini .lss (.tmp 12) (.con (.val (.int .i64 0))), 0, false⟩,
    ⟨(some 14), none, .pick (.tmp 11) (.con (.val (.bool true))) (.tmp 13), 0, false⟩,
    ⟨(some 15), none, .mv (.tmp 14), 0, false⟩,
    ⟨(some 16), (some (15, false)), .mv (.tmp 1), 0, false⟩,
    ⟨(some 17), (some (15, false)), .mv (.tmp 0), 0, false⟩,
    ⟨(some 18), (some (15, false)), .nilc (.tmp 17), 0, false⟩,
    ⟨(some 19), (some (15, false)), .fldA 0 (.tmp 18), 0, false⟩,
    ⟨(some 20), (some (15, false)), .ld1 none (.tmp 19), 0, false⟩,
    ⟨(some 21), (some (15, false)), .len true (.tmp 20), 0, false⟩,
    ⟨(some 22), (some (15, false)), .bini .gtr (.tmp 16) (.tmp 21), 0, false⟩,
    ⟨(some 23), none, .pick (.tmp 15) (.con (.val (.bool true))) (.tmp 22), 0, false⟩,
    ⟨(some 24), none, .mv (.tmp 23), 0, false⟩,
    ⟨(some 25), (some (24, false)), .mv (.tmp 2), 0, false⟩,
    ⟨(some 26), (some (24, false)), .mv (.tmp 0), 0, false⟩,
    ⟨(some 27), (some (24, false)), .nilc (.tmp 26), 0, false⟩,
    ⟨(some 28), (some (24, false)), .fldA 0 (.tmp 27), 0, false⟩,
    ⟨(some 29), (some (24, false)), .ld1 none (.tmp 28), 0, false⟩,
    ⟨(some 30), (some (24, false)), .len true (.tmp 29), 0, false⟩,
    ⟨(some 31), (some (24, false)), .mv (.tmp 1), 0, false⟩,
    ⟨(some 32), (some (24, false)), .bini .sub (.tmp 30) (.tmp 31), 0, false⟩,
    ⟨(some 33), (some (24, false)), .bini .gtr (.tmp 25) (.tmp 32), 0, false⟩,
    ⟨(some 34), none, .pick (.tmp 24) (.con (.val (.bool true))) (.tmp 33), 0, false⟩])
  (.cond (.tmp 34)
    (.seq (.regN [] [
      ⟨(some 8), none, .mv (.con (.val (.int .i64 2))), 0, false⟩])
    .ret)
    .skip))
  (.seq (.seq (.regN [0, 1, 2, 3] [
    ⟨(some 35), none, .mv (.tmp 0), 0, false⟩,
    ⟨(some 36), none, .nilc (.tmp 35), 0, false⟩,
    ⟨(some 37), none, .fldA 0 (.tmp 36), 0, false⟩,
    ⟨(some 38), none, .ld1 none (.tmp 37), 0, false⟩,
    ⟨(some 39), none, .len true (.tmp 38), 0, false⟩,
    ⟨(some 40), none, .mv (.tmp 2), 0, false⟩,
    ⟨(some 41), none, .bini .sub (.tmp 39) (.tmp 40), 0, false⟩,
    ⟨(some 42), none, .mv (.tmp 3), 0, false⟩,
    ⟨(some 43), none, .len true (.tmp 42), 0, false⟩,
    ⟨(some 44), none, .bini .add (.tmp 41) (.tmp 43), 0, false⟩,
    ⟨(some 45), none, .bini .gtr (.tmp 44) (.con (.val (.int .i64 65536))), 0, false⟩])
  (.cond (.tmp 45)
    (.seq (.regN [] [
      ⟨(some 8), none, .mv (.con (.val (.int .i64 3))), 0, false⟩])
    .ret)
    .skip))
  (.seq (.regD [0, 1, 2, 3] 0 [
    ⟨(some 46), none, .mv (.tmp 0), 0, false⟩,
    ⟨(some 47), none, .mv (.tmp 0), 0, false⟩,
    ⟨(some 48), none, .nilc (.tmp 47), 0, false⟩,
    ⟨(some 49), none, .fldA 0 (.tmp 48), 0, false⟩,
    ⟨(some 50), none, .ld1 none (.tmp 49), 0, false⟩,
    ⟨(some 51), none, .mv (.tmp 1), 0, false⟩,
    ⟨(some 52), none, .slS (.tmp 50) none (some (.tmp 51)), 0, false⟩,
    ⟨(some 53), none, .mv (.tmp 3), 0, false⟩,
    ⟨(some 54), none, .bins .add (.tmp 52) (.tmp 53), 0, false⟩,
    ⟨(some 55), none, .mv (.tmp 0), 0, false⟩,
    ⟨(some 56), none, .nilc (.tmp 55), 0, false⟩,
    ⟨(some 57), none, .fldA 0 (.tmp 56), 0, false⟩,
    ⟨(some 58), none, .ld1 none (.tmp 57), 0, false⟩,
    ⟨(some 59), none, .mv (.tmp 1), 0, false⟩,
    ⟨(some 60), none, .mv (.tmp 2), 0, false⟩,
    ⟨(some 61), none, .bini .add (.tmp 59) (.tmp 60), 0, false⟩,
    ⟨(some 62), none, .slS (.tmp 58) (some (.tmp 61)) none, 0, false⟩,
    ⟨(some 63), none, .bins .add (.tmp 54) (.tmp 62), 0, false⟩,
    ⟨(some 64), none, .nilc (.tmp 46), 0, false⟩,
    ⟨(some 65), none, .fldA 0 (.tmp 64), 0, false⟩,
    ⟨none, none, .st none 1 (.tmp 65) (.tmp 63), 0, false⟩])
  (.seq (.regN [] [
    ⟨(some 8), none, .mv (.con (.val (.int .i64 0))), 0, false⟩])
  .ret)))))
def t23 : AFn := ⟨4, t23B,
  [.tmp 8], true⟩
/-- (*viewport/viewportref08.Table).Slice  -/
def t24B : AC := (.seq (.regN [0, 1, 2] [
    ⟨(some 6), none, .mv (.con (.val (.string ⟨#[]⟩))), 0, false⟩,
    ⟨(some 7), none, .mv (.con (.val (.int .i64 0))), 0, false⟩])
  (.seq (.seq (.regN [0, 1, 2] [
    ⟨(some 8), none, .mv (.tmp 1), 0, false⟩,
    ⟨(some 9), none, .bini .lss (.tmp 8) (.con (.val (.int .i64 0))), 0, false⟩,
    ⟨(some 10), none, .mv (.tmp 9), 0, false⟩,
    ⟨(some 11), (some (10, false)), .mv (.tmp 1), 0, false⟩,
    ⟨(some 12), (some (10, false)), .mv (.tmp 2), 0, false⟩,
    ⟨(some 13), (some (10, false)), .bini .gtr (.tmp 11) (.tmp 12), 0, false⟩,
    ⟨(some 14), none, .pick (.tmp 10) (.con (.val (.bool true))) (.tmp 13), 0, false⟩,
    ⟨(some 15), none, .mv (.tmp 14), 0, false⟩,
    ⟨(some 16), (some (15, false)), .mv (.tmp 2), 0, false⟩,
    ⟨(some 17), (some (15, false)), .mv (.tmp 0), 0, false⟩,
    ⟨(some 18), (some (15, false)), .nilc (.tmp 17), 0, false⟩,
    ⟨(some 19), (some (15, false)), .fldA 0 (.tmp 18), 0, false⟩,
    ⟨(some 20), (some (15, false)), .ld1 none (.tmp 19), 0, false⟩,
    ⟨(some 21), (some (15, false)), .len true (.tmp 20), 0, false⟩,
    ⟨(some 22), (some (15, false)), .bini .gtr (.tmp 16) (.tmp 21), 0, false⟩,
    ⟨(some 23), none, .pick (.tmp 15) (.con (.val (.bool true))) (.tmp 22), 0, false⟩])
  (.cond (.tmp 23)
    (.seq (.regN [] [
      ⟨(some 6), none, .mv (.con (.val (.string ⟨#[]⟩))), 0, false⟩,
      ⟨(some 7), none, .mv (.con (.val (.int .i64 2))), 0, false⟩])
    .ret)
    .skip))
  (.seq (.regN [0, 1, 2] [
    ⟨(some 24), none, .mv (.tmp 0), 0, false⟩,
    ⟨(some 25), none, .nilc (.tmp 24), 0, false⟩,
    ⟨(some 26), none, .fldA 0 (.tmp 25), 0, false⟩,
    ⟨(some 27), none, .ld1 none (.tmp 26), 0, false⟩,
    ⟨(some 28), none, .mv (.tmp 1), 0, false⟩,
    ⟨(some 29), none, .mv (.tmp 2), 0, false⟩,
    ⟨(some 30), none, .slS (.tmp 27) (some (.tmp 28)) (some (.tmp 29)), 0, false⟩,
    ⟨(some 6), none, .mv (.tmp 30), 0, false⟩,
    ⟨(some 7), none, .mv (.con (.val (.int .i64 0))), 0, false⟩])
  .ret)))
def t24 : AFn := ⟨3, t24B,
  [.tmp 6, .tmp 7], true⟩
/-- (*viewport/viewportref08.Table).Byte  -/
def t25B : AC := (.seq (.regN [0, 1] [
    ⟨(some 4), none, .mv (.con (.val (.int .u8 0))), 0, false⟩,
    ⟨(some 5), none, .mv (.con (.val (.bool false))), 0, false⟩])
  (.seq (.seq (.regN [0, 1] [
    ⟨(some 6), none, .mv (.tmp 1), 0, false⟩,
    ⟨(some 7), none, .bini .lss (.tmp 6) (.con (.val (.int .i64 0))), 0, false⟩,
    ⟨(some 8), none, .mv (.tmp 7), 0, false⟩,
    ⟨(some 9), (some (8, false)), .mv (.tmp 1), 0, false⟩,
    ⟨(some 10), (some (8, false)), .mv (.tmp 0), 0, false⟩,
    ⟨(some 11), (some (8, false)), .nilc (.tmp 10), 0, false⟩,
    ⟨(some 12), (some (8, false)), .fldA 0 (.tmp 11), 0, false⟩,
    ⟨(some 13), (some (8, false)), .ld1 none (.tmp 12), 0, false⟩,
    ⟨(some 14), (some (8, false)), .len true (.tmp 13), 0, false⟩,
    ⟨(some 15), (some (8, false)), .bini .geq (.tmp 9) (.tmp 14), 0, false⟩,
    ⟨(some 16), none, .pick (.tmp 8) (.con (.val (.bool true))) (.tmp 15), 0, false⟩])
  (.cond (.tmp 16)
    (.seq (.regN [] [
      ⟨(some 4), none, .mv (.con (.val (.int .u8 0))), 0, false⟩,
      ⟨(some 5), none, .mv (.con (.val (.bool false))), 0, false⟩])
    .ret)
    .skip))
  (.seq (.regN [0, 1] [
    ⟨(some 17), none, .mv (.tmp 0), 0, false⟩,
    ⟨(some 18), none, .nilc (.tmp 17), 0, false⟩,
    ⟨(some 19), none, .fldA 0 (.tmp 18), 0, false⟩,
    ⟨(some 20), none, .ld1 none (.tmp 19), 0, false⟩,
    ⟨(some 21), none, .mv (.tmp 1), 0, false⟩,
    ⟨(some 22), none, .ixS (.tmp 20) (.tmp 21), 0, false⟩,
    ⟨(some 4), none, .mv (.tmp 22), 0, false⟩,
    ⟨(some 5), none, .mv (.con (.val (.bool true))), 0, false⟩])
  .ret)))
def t25 : AFn := ⟨2, t25B,
  [.tmp 4, .tmp 5], true⟩
end Go.Proofs.Ytmehaecclidfjaa
