/- The resolved code of the functions. Written by mkp.py. -/
import Derived.Test.YtncmgbbbekabdaaAmU
import Derived.Test.YtncmgbbbekabdaaProg
namespace Go.Proofs.Ytncmgbbbekabdaa
open Go Go.Am
set_option maxRecDepth 100000
set_option linter.unusedVariables false
def quiet : List FuncId := [10,11,12,20,21,22,24,26,27,40]
def Q (f : FuncId) : Bool := quiet.contains f
-- excise/exciselaw04.SeqtreeLong
def p3_l0 : PC := (.seq (.ops 15 0 [⟨(some 56), .bin .lss (.tmp 55) (.tmp 54), none⟩])
    (.seq (.cond (.tmp 56)
     .skip
     (.exit 2))
    (.seq (.block 3
     (.seq (.ops 16 0 [⟨(some 57), .mov (.tmp 55), none⟩,
       ⟨(some 9), .mov (.tmp 57), none⟩])
     (.seq (.ops 17 0 [⟨(some 59), .mov (.tmp 5), none⟩,
       ⟨(some 60), .mov (.tmp 9), none⟩,
       ⟨(some 61), .call (.func 13) [(.tmp 59), (.tmp 60)], none⟩,
       ⟨(some 58), .mov (.tmp 61), none⟩,
       ⟨(some 62), .extract (.tmp 58) 0, none⟩,
       ⟨(some 63), .extract (.tmp 58) 1, none⟩,
       ⟨(some 10), .mov (.tmp 62), none⟩,
       ⟨(some 11), .mov (.tmp 63), none⟩])
     (.seq (.ops 18 0 [⟨(some 65), .mov (.tmp 5), none⟩,
       ⟨(some 66), .mov (.tmp 10), none⟩,
       ⟨(some 67), .call (.func 14) [(.tmp 65), (.tmp 66)], none⟩,
       ⟨(some 64), .mov (.tmp 67), none⟩,
       ⟨(some 68), .extract (.tmp 64) 0, none⟩,
       ⟨(some 69), .extract (.tmp 64) 1, none⟩,
       ⟨(some 12), .mov (.tmp 68), none⟩,
       ⟨(some 13), .mov (.tmp 69), none⟩])
     (.seq (.ops 19 0 [⟨(some 70), .mov (.tmp 11), none⟩,
       ⟨(some 71), .un .not (.tmp 70), none⟩,
       ⟨(some 72), .mov (.tmp 71), none⟩,
       ⟨(some 73), .mov (.tmp 13), (some ((some 72), false))⟩,
       ⟨(some 74), .un .not (.tmp 73), (some ((some 72), false))⟩,
       ⟨(some 75), .pick (.tmp 72) (.const (.bool true)) (.tmp 74), none⟩,
       ⟨(some 76), .mov (.tmp 75), none⟩,
       ⟨(some 77), .mov (.tmp 12), (some ((some 76), false))⟩,
       ⟨(some 78), .mov (.tmp 9), (some ((some 76), false))⟩,
       ⟨(some 79), .bin .neq (.tmp 77) (.tmp 78), (some ((some 76), false))⟩,
       ⟨(some 80), .pick (.tmp 76) (.const (.bool true)) (.tmp 79), none⟩,
       ⟨(some 81), .mov (.tmp 80), none⟩,
       ⟨(some 82), .mov (.tmp 1), (some ((some 81), false))⟩,
       ⟨(some 83), .bin .rem (.tmp 82) (.const (.int .u8 3)), (some ((some 81), false))⟩,
       ⟨(some 84), .bin .eql (.tmp 83) (.const (.int .u8 0)), (some ((some 81), false))⟩,
       ⟨(some 85), .mov (.tmp 84), (some ((some 81), false))⟩,
       ⟨(some 86), .mov (.tmp 10), (some ((some 85), true))⟩,
       ⟨(some 87), .mov (.tmp 9), (some ((some 85), true))⟩,
       ⟨(some 88), .bin .add (.tmp 87) (.const (.int .i64 1)), (some ((some 85), true))⟩,
       ⟨(some 89), .bin .neq (.tmp 86) (.tmp 88), (some ((some 85), true))⟩,
       ⟨(some 90), .pick (.tmp 85) (.tmp 89) (.const (.bool false)), (some ((some 81), false))⟩,
       ⟨(some 91), .pick (.tmp 81) (.const (.bool true)) (.tmp 90), none⟩,
       ⟨(some 92), .mov (.tmp 91), none⟩,
       ⟨(some 93), .mov (.tmp 1), (some ((some 92), false))⟩,
       ⟨(some 94), .bin .rem (.tmp 93) (.const (.int .u8 3)), (some ((some 92), false))⟩,
       ⟨(some 95), .bin .eql (.tmp 94) (.const (.int .u8 1)), (some ((some 92), false))⟩,
       ⟨(some 96), .mov (.tmp 95), (some ((some 92), false))⟩,
       ⟨(some 97), .mov (.tmp 10), (some ((some 96), true))⟩,
       ⟨(some 98), .mov (.tmp 6), (some ((some 96), true))⟩,
       ⟨(some 99), .mov (.tmp 9), (some ((some 96), true))⟩,
       ⟨(some 100), .bin .sub (.tmp 98) (.tmp 99), (some ((some 96), true))⟩,
       ⟨(some 101), .bin .neq (.tmp 97) (.tmp 100), (some ((some 96), true))⟩,
       ⟨(some 102), .pick (.tmp 96) (.tmp 101) (.const (.bool false)), (some ((some 92), false))⟩,
       ⟨(some 103), .pick (.tmp 92) (.const (.bool true)) (.tmp 102), none⟩])
     (.cond (.tmp 103)
      (.seq (.ops 20 0 [⟨(some 4), .mov (.const (.bool false)), none⟩])
      .ret)
      .skip))))))
    (.ops 21 0 [⟨(some 104), .bin .add (.tmp 55) (.const (.int .i64 1)), none⟩,
      ⟨(some 55), .mov (.tmp 104), none⟩]))))
def p3_l1 : PC := (.seq (.ops 6 0 [⟨(some 26), .bin .lss (.tmp 25) (.tmp 24), none⟩])
    (.seq (.cond (.tmp 26)
     .skip
     (.exit 0))
    (.seq (.block 1
     (.seq (.ops 7 0 [⟨(some 27), .mov (.tmp 25), none⟩,
       ⟨(some 7), .mov (.tmp 27), none⟩])
     (.seq (.ops 8 0 [⟨(some 28), .mov (.tmp 7), none⟩,
       ⟨(some 29), .mov (.tmp 7), none⟩,
       ⟨(some 30), .bin .quo (.tmp 29) (.const (.int .i64 2)), none⟩,
       ⟨(some 31), .build [(.int .i64 0), (.int .i64 0), (.int .i64 0)] [((0, 1), (.tmp 28)), ((1, 1), (.const (.int .i64 0))), ((2, 1), (.tmp 30))], none⟩,
       ⟨(some 32), .mov (.tmp 1), none⟩,
       ⟨(some 33), .bin .rem (.tmp 32) (.const (.int .u8 3)), none⟩,
       ⟨(some 34), .indexA 3 1 none (.tmp 31) (.tmp 33), none⟩,
       ⟨(some 8), .mov (.tmp 34), none⟩])
     (.seq (.ops 9 0 [⟨(some 35), .mov (.tmp 5), none⟩,
       ⟨(some 36), .mov (.tmp 8), none⟩,
       ⟨(some 37), .mov (.tmp 7), none⟩,
       ⟨(some 38), .bin .add (.tmp 37) (.const (.int .i64 1)), none⟩,
       ⟨(some 39), .call (.func 9) [(.tmp 35), (.tmp 36), (.tmp 38)], none⟩,
       ⟨(some 40), .bin .neq (.tmp 39) (.const (.int .i64 0)), none⟩])
     (.cond (.tmp 40)
      (.seq (.ops 10 0 [⟨(some 4), .mov (.const (.bool false)), none⟩])
      .ret)
      .skip)))))
    (.ops 11 0 [⟨(some 41), .bin .add (.tmp 25) (.const (.int .i64 1)), none⟩,
      ⟨(some 25), .mov (.tmp 41), none⟩]))))
def p3 : PF := ⟨(.seq (.ops 0 0 [⟨(some 4), .mov (.const (.bool false)), none⟩])
  (.seq (.ops 1 0 [⟨(some 14), .call (.func 7) [], none⟩,
    ⟨(some 5), .mov (.tmp 14), none⟩])
  (.seq (.ops 2 0 [⟨(some 15), .mov (.tmp 0), none⟩,
    ⟨(some 16), .conv .i64 (.tmp 15), none⟩,
    ⟨(some 17), .bin .rem (.tmp 16) (.const (.int .i64 1025)), none⟩,
    ⟨(some 6), .mov (.tmp 17), none⟩])
  (.seq (.seq (.ops 3 0 [⟨(some 18), .call (.func 8) [], none⟩,
    ⟨(some 19), .un .not (.tmp 18), none⟩,
    ⟨(some 20), .mov (.tmp 19), none⟩,
    ⟨(some 21), .mov (.tmp 5), (some ((some 20), false))⟩,
    ⟨(some 22), .cmp false 23 (.tmp 21) (.const (.pointer none)), (some ((some 20), false))⟩,
    ⟨(some 23), .pick (.tmp 20) (.const (.bool true)) (.tmp 22), none⟩])
  (.cond (.tmp 23)
   (.seq (.ops 4 0 [⟨(some 4), .mov (.const (.bool false)), none⟩])
   .ret)
   .skip))
  (.seq (.seq (.ops 5 0 [⟨(some 24), .mov (.tmp 6), none⟩,
    ⟨(some 25), .mov (.const (.int .i64 0)), none⟩])
  (.block 0
   (.loop p3_l1)))
  (.seq (.seq (.ops 12 0 [⟨(some 42), .mov (.tmp 5), none⟩,
    ⟨(some 43), .call (.func 10) [(.tmp 42)], none⟩,
    ⟨(some 44), .mov (.tmp 6), none⟩,
    ⟨(some 45), .bin .neq (.tmp 43) (.tmp 44), none⟩,
    ⟨(some 46), .mov (.tmp 45), none⟩,
    ⟨(some 47), .mov (.tmp 5), (some ((some 46), false))⟩,
    ⟨(some 48), .call (.func 11) [(.tmp 47)], (some ((some 46), false))⟩,
    ⟨(some 49), .mov (.tmp 6), (some ((some 46), false))⟩,
    ⟨(some 50), .call (.func 12) [(.tmp 49)], (some ((some 46), false))⟩,
    ⟨(some 51), .bin .mul (.const (.int .i64 3)) (.tmp 50), (some ((some 46), false))⟩,
    ⟨(some 52), .bin .gtr (.tmp 48) (.tmp 51), (some ((some 46), false))⟩,
    ⟨(some 53), .pick (.tmp 46) (.const (.bool true)) (.tmp 52), none⟩])
  (.cond (.tmp 53)
   (.seq (.ops 13 0 [⟨(some 4), .mov (.const (.bool false)), none⟩])
   .ret)
   .skip))
  (.seq (.seq (.ops 14 0 [⟨(some 54), .mov (.tmp 6), none⟩,
    ⟨(some 55), .mov (.const (.int .i64 0)), none⟩])
  (.block 2
   (.loop p3_l0)))
  (.seq (.ops 22 0 [⟨(some 105), .mov (.tmp 6), none⟩,
    ⟨(some 106), .bin .lss (.tmp 105) (.const (.int .i64 1024)), none⟩,
    ⟨(some 107), .mov (.tmp 106), none⟩,
    ⟨(some 108), .mov (.tmp 5), (some ((some 107), false))⟩,
    ⟨(some 109), .call (.func 9) [(.tmp 108), (.const (.int .i64 0)), (.const (.int .i64 9007199254740992))], (some ((some 107), false))⟩,
    ⟨(some 110), .bin .eql (.tmp 109) (.const (.int .i64 6)), (some ((some 107), false))⟩,
    ⟨(some 111), .pick (.tmp 107) (.const (.bool true)) (.tmp 110), none⟩,
    ⟨(some 4), .mov (.tmp 111), none⟩])
  .ret)))))))),
  112, [.tmp 4]⟩
theorem c3 : compF Try.prog Q Try.f3 = some p3 := by kernel_rfl
def p4_l0 : PC := (.seq (.ops 5 0 [⟨(some 31), .bin .lss (.tmp 30) (.tmp 29), none⟩])
    (.seq (.cond (.tmp 31)
     .skip
     (.exit 0))
    (.seq (.block 1
     (.seq (.ops 6 1 [⟨(some 32), .atL 3 (.tmp 28) (.tmp 30), none⟩,
       ⟨(some 33), .load (some 3) (.tmp 32), none⟩,
       ⟨(some 11), .alloc 38 (.agg [(.int .i64 0), (.int .i64 0), (.int .i64 0)]), none⟩,
       ⟨none, .store 3 (.tmp 11) (.tmp 33), none⟩])
     (.ops 7 0 [⟨(some 34), .mov (.tmp 9), none⟩,
       ⟨(some 35), .fieldAddr 1 (.tmp 11), none⟩,
       ⟨(some 36), .load none (.tmp 35), none⟩,
       ⟨(some 37), .fieldAddr 2 (.tmp 11), none⟩,
       ⟨(some 38), .load none (.tmp 37), none⟩,
       ⟨(some 39), .call (.func 9) [(.tmp 34), (.tmp 36), (.tmp 38)], none⟩])))
    (.ops 8 0 [⟨(some 40), .bin .add (.tmp 30) (.const (.int .i64 1)), none⟩,
      ⟨(some 30), .mov (.tmp 40), none⟩]))))
def p4 : PF := ⟨(.seq (.ops 0 0 [⟨(some 8), .mov (.const (.bool false)), none⟩])
  (.seq (.ops 1 0 [⟨(some 21), .call (.func 7) [], none⟩,
    ⟨(some 9), .mov (.tmp 21), none⟩])
  (.seq (.seq (.ops 2 0 [⟨(some 22), .call (.func 8) [], none⟩,
    ⟨(some 23), .un .not (.tmp 22), none⟩,
    ⟨(some 24), .mov (.tmp 23), none⟩,
    ⟨(some 25), .mov (.tmp 9), (some ((some 24), false))⟩,
    ⟨(some 26), .cmp false 23 (.tmp 25) (.const (.pointer none)), (some ((some 24), false))⟩,
    ⟨(some 27), .pick (.tmp 24) (.const (.bool true)) (.tmp 26), none⟩])
  (.cond (.tmp 27)
   (.seq (.ops 3 0 [⟨(some 8), .mov (.const (.bool false)), none⟩])
   .ret)
   .skip))
  (.seq (.seq (.ops 4 0 [⟨(some 28), .mov (.tmp 0), none⟩,
    ⟨(some 29), .lenL (.tmp 28), none⟩,
    ⟨(some 30), .mov (.const (.int .i64 0)), none⟩])
  (.block 0
   (.loop p4_l0)))
  (.seq (.ops 9 1 [⟨(some 12), .alloc 39 (.sl none 0 (.fix 0)), none⟩])
  (.seq (.seq (.ops 10 0 [⟨(some 41), .mov (.tmp 9), none⟩,
    ⟨(some 42), .call (.func 15) [(.tmp 41)], none⟩])
  (.block 2
   (.rf (.tmp 42) [43, 44]
    (.ops 11 0 [⟨(some 14), .mov (.tmp 44), none⟩])
    (.block 3
     (.ops 12 2 [⟨(some 45), .load none (.tmp 12), none⟩,
       ⟨(some 46), .mov (.tmp 14), none⟩,
       ⟨(some 47), .bslice 2 1 1 (.int .i64 0) [(0, (.tmp 46))], none⟩,
       ⟨(some 48), .append 2 1 8 (.tmp 45) (.tmp 47), none⟩,
       ⟨none, .store 1 (.tmp 12) (.tmp 48), none⟩])))))
  (.seq (.seq (.ops 13 0 [⟨(some 49), .mov (.tmp 9), none⟩,
    ⟨(some 50), .mov (.tmp 1), none⟩,
    ⟨(some 51), .mov (.tmp 2), none⟩,
    ⟨(some 52), .call (.func 9) [(.tmp 49), (.tmp 50), (.tmp 51)], none⟩,
    ⟨(some 53), .bin .eql (.tmp 52) (.const (.int .i64 0)), none⟩])
  (.cond (.tmp 53)
   (.seq (.ops 14 0 [⟨(some 55), .mov (.tmp 9), none⟩,
     ⟨(some 56), .mov (.tmp 2), none⟩,
     ⟨(some 57), .call (.func 16) [(.tmp 55), (.tmp 56)], none⟩,
     ⟨(some 54), .mov (.tmp 57), none⟩,
     ⟨(some 58), .extract (.tmp 54) 0, none⟩,
     ⟨(some 59), .extract (.tmp 54) 1, none⟩,
     ⟨(some 15), .mov (.tmp 58), none⟩,
     ⟨(some 16), .mov (.tmp 59), none⟩])
   (.seq (.ops3 15 0 [(0, 0, ⟨(some 60), .mov (.tmp 15), none⟩),
     (1, 0, ⟨(some 61), .mov (.tmp 1), none⟩),
     (2, 0, ⟨(some 62), .bin .neq (.tmp 60) (.tmp 61), none⟩),
     (3, 0, ⟨(some 63), .mov (.tmp 62), none⟩),
     (4, 0, ⟨(some 64), .mov (.tmp 16), (some ((some 63), false))⟩),
     (5, 0, ⟨(some 65), .bin .neq (.tmp 64) (.const (.int .i64 0)), (some ((some 63), false))⟩),
     (6, 0, ⟨(some 66), .pick (.tmp 63) (.const (.bool true)) (.tmp 65), none⟩),
     (7, 0, ⟨(some 67), .mov (.tmp 66), none⟩),
     (8, 0, ⟨(some 68), .mov (.tmp 9), (some ((some 67), false))⟩),
     (10, 0, ⟨(some 70), .load none (.tmp 12), (some ((some 67), false))⟩)] [(9, 0, ⟨(some 69), .call (.func 15) [(.tmp 68)], (some ((some 67), false))⟩, [7, 8]),
     (11, 0, ⟨(some 71), .call (.func 17) [(.tmp 69), (.tmp 70)], (some ((some 67), false))⟩, [7, 10]),
     (12, 0, ⟨(some 72), .un .not (.tmp 71), (some ((some 67), false))⟩, [7]),
     (13, 0, ⟨(some 73), .pick (.tmp 67) (.const (.bool true)) (.tmp 72), none⟩, [7])] [])
   (.cond (.tmp 73)
    (.seq (.ops 16 0 [⟨(some 8), .mov (.const (.bool false)), none⟩])
    .ret)
    .skip)))
   .skip))
  (.seq (.seq (.ops 17 0 [⟨(some 75), .mov (.tmp 9), none⟩,
    ⟨(some 76), .mov (.tmp 2), none⟩,
    ⟨(some 77), .mov (.tmp 3), none⟩,
    ⟨(some 78), .call (.func 18) [(.tmp 75), (.tmp 76), (.tmp 77)], none⟩,
    ⟨(some 74), .mov (.tmp 78), none⟩,
    ⟨(some 79), .extract (.tmp 74) 0, none⟩,
    ⟨(some 80), .extract (.tmp 74) 1, none⟩,
    ⟨(some 17), .mov (.tmp 79), none⟩,
    ⟨(some 18), .mov (.tmp 80), none⟩])
  (.seq (.ops 18 0 [⟨(some 81), .mov (.tmp 18), none⟩,
    ⟨(some 82), .bin .eql (.tmp 81) (.const (.int .i64 0)), none⟩])
  (.cond (.tmp 82)
   (.seq (.ops 19 0 [⟨(some 84), .mov (.tmp 9), none⟩,
     ⟨(some 85), .mov (.tmp 2), none⟩,
     ⟨(some 86), .mov (.tmp 17), none⟩,
     ⟨(some 87), .call (.func 18) [(.tmp 84), (.tmp 85), (.tmp 86)], none⟩,
     ⟨(some 83), .mov (.tmp 87), none⟩,
     ⟨(some 88), .extract (.tmp 83) 0, none⟩,
     ⟨(some 89), .extract (.tmp 83) 1, none⟩,
     ⟨(some 19), .mov (.tmp 88), none⟩,
     ⟨(some 20), .mov (.tmp 89), none⟩])
   (.seq (.ops 20 0 [⟨(some 90), .mov (.tmp 19), none⟩,
     ⟨(some 91), .mov (.tmp 3), none⟩,
     ⟨(some 92), .bin .neq (.tmp 90) (.tmp 91), none⟩,
     ⟨(some 93), .mov (.tmp 92), none⟩,
     ⟨(some 94), .mov (.tmp 20), (some ((some 93), false))⟩,
     ⟨(some 95), .bin .neq (.tmp 94) (.const (.int .i64 0)), (some ((some 93), false))⟩,
     ⟨(some 96), .pick (.tmp 93) (.const (.bool true)) (.tmp 95), none⟩])
   (.cond (.tmp 96)
    (.seq (.ops 21 0 [⟨(some 8), .mov (.const (.bool false)), none⟩])
    .ret)
    .skip)))
   .skip)))
  (.seq (.ops3 22 0 [(0, 0, ⟨(some 97), .mov (.tmp 9), none⟩),
    (2, 0, ⟨(some 99), .load none (.tmp 12), none⟩)] [(1, 0, ⟨(some 98), .call (.func 15) [(.tmp 97)], none⟩, [0]),
    (3, 0, ⟨(some 100), .call (.func 17) [(.tmp 98), (.tmp 99)], none⟩, [2]),
    (4, 0, ⟨(some 8), .mov (.tmp 100), none⟩, [0, 2])] [])
  .ret))))))))),
  101, [.tmp 8]⟩
theorem c4 : compF Try.prog Q Try.f4 = some p4 := by kernel_rfl
def p5_l0 : PC := (.seq (.ops 5 0 [⟨(some 27), .bin .lss (.tmp 26) (.tmp 25), none⟩])
    (.seq (.cond (.tmp 27)
     .skip
     (.exit 0))
    (.seq (.block 1
     (.seq (.ops 6 1 [⟨(some 28), .atL 3 (.tmp 24) (.tmp 26), none⟩,
       ⟨(some 29), .load (some 3) (.tmp 28), none⟩,
       ⟨(some 6), .alloc 38 (.agg [(.int .i64 0), (.int .i64 0), (.int .i64 0)]), none⟩,
       ⟨none, .store 3 (.tmp 6) (.tmp 29), none⟩])
     (.seq (.ops 7 0 [⟨(some 7), .mov (.const (.bool true)), none⟩])
     (.seq (.ops 8 0 [⟨(some 31), .mov (.tmp 3), none⟩,
       ⟨(some 32), .mov (.tmp 4), none⟩,
       ⟨(some 33), .load (some 3) (.tmp 6), none⟩,
       ⟨(some 34), .call (.func 19) [(.tmp 31), (.tmp 32), (.tmp 33)], none⟩,
       ⟨(some 30), .mov (.tmp 34), none⟩,
       ⟨(some 35), .extract (.tmp 30) 0, none⟩,
       ⟨(some 36), .extract (.tmp 30) 1, none⟩,
       ⟨(some 3), .mov (.tmp 35), none⟩,
       ⟨(some 7), .mov (.tmp 36), none⟩])
     (.seq (.ops 9 0 [⟨(some 38), .mov (.tmp 3), none⟩,
       ⟨(some 39), .fieldAddr 1 (.tmp 6), none⟩,
       ⟨(some 40), .load none (.tmp 39), none⟩,
       ⟨(some 41), .call (.func 13) [(.tmp 38), (.tmp 40)], none⟩,
       ⟨(some 37), .mov (.tmp 41), none⟩,
       ⟨(some 42), .extract (.tmp 37) 0, none⟩,
       ⟨(some 43), .extract (.tmp 37) 1, none⟩,
       ⟨(some 8), .mov (.tmp 42), none⟩,
       ⟨(some 9), .mov (.tmp 43), none⟩])
     (.seq (.ops 10 0 [⟨(some 45), .mov (.tmp 4), none⟩,
       ⟨(some 46), .fieldAddr 1 (.tmp 6), none⟩,
       ⟨(some 47), .load none (.tmp 46), none⟩,
       ⟨(some 48), .call (.func 20) [(.tmp 45), (.tmp 47)], none⟩,
       ⟨(some 44), .mov (.tmp 48), none⟩,
       ⟨(some 49), .extract (.tmp 44) 0, none⟩,
       ⟨(some 50), .extract (.tmp 44) 1, none⟩,
       ⟨(some 10), .mov (.tmp 49), none⟩,
       ⟨(some 11), .mov (.tmp 50), none⟩])
     (.seq (.ops 11 0 [⟨(some 52), .mov (.tmp 3), none⟩,
       ⟨(some 53), .fieldAddr 2 (.tmp 6), none⟩,
       ⟨(some 54), .load none (.tmp 53), none⟩,
       ⟨(some 55), .call (.func 14) [(.tmp 52), (.tmp 54)], none⟩,
       ⟨(some 51), .mov (.tmp 55), none⟩,
       ⟨(some 56), .extract (.tmp 51) 0, none⟩,
       ⟨(some 57), .extract (.tmp 51) 1, none⟩,
       ⟨(some 12), .mov (.tmp 56), none⟩,
       ⟨(some 13), .mov (.tmp 57), none⟩])
     (.seq (.ops 12 0 [⟨(some 58), .mov (.tmp 4), none⟩,
       ⟨(some 59), .fieldAddr 2 (.tmp 6), none⟩,
       ⟨(some 60), .load none (.tmp 59), none⟩,
       ⟨(some 61), .call (.func 21) [(.tmp 58), (.tmp 60)], none⟩,
       ⟨(some 14), .mov (.tmp 61), none⟩])
     (.seq (.ops 13 0 [⟨(some 62), .mov (.tmp 7), none⟩,
       ⟨(some 63), .un .not (.tmp 62), none⟩,
       ⟨(some 64), .mov (.tmp 63), none⟩,
       ⟨(some 65), .mov (.tmp 8), (some ((some 64), false))⟩,
       ⟨(some 66), .mov (.tmp 10), (some ((some 64), false))⟩,
       ⟨(some 67), .bin .neq (.tmp 65) (.tmp 66), (some ((some 64), false))⟩,
       ⟨(some 68), .pick (.tmp 64) (.const (.bool true)) (.tmp 67), none⟩,
       ⟨(some 69), .mov (.tmp 68), none⟩,
       ⟨(some 70), .mov (.tmp 9), (some ((some 69), false))⟩,
       ⟨(some 71), .mov (.tmp 11), (some ((some 69), false))⟩,
       ⟨(some 72), .cmp true 4 (.tmp 70) (.tmp 71), (some ((some 69), false))⟩,
       ⟨(some 73), .pick (.tmp 69) (.const (.bool true)) (.tmp 72), none⟩,
       ⟨(some 74), .mov (.tmp 73), none⟩,
       ⟨(some 75), .mov (.tmp 13), (some ((some 74), false))⟩,
       ⟨(some 76), .mov (.tmp 14), (some ((some 74), false))⟩,
       ⟨(some 77), .bin .geq (.tmp 76) (.const (.int .i64 0)), (some ((some 74), false))⟩,
       ⟨(some 78), .cmp true 4 (.tmp 75) (.tmp 77), (some ((some 74), false))⟩,
       ⟨(some 79), .pick (.tmp 74) (.const (.bool true)) (.tmp 78), none⟩,
       ⟨(some 80), .mov (.tmp 79), none⟩,
       ⟨(some 81), .mov (.tmp 12), (some ((some 80), false))⟩,
       ⟨(some 82), .mov (.tmp 14), (some ((some 80), false))⟩,
       ⟨(some 83), .max [(.const (.int .i64 0)), (.tmp 82)], (some ((some 80), false))⟩,
       ⟨(some 84), .bin .neq (.tmp 81) (.tmp 83), (some ((some 80), false))⟩,
       ⟨(some 85), .pick (.tmp 80) (.const (.bool true)) (.tmp 84), none⟩,
       ⟨(some 86), .mov (.tmp 85), none⟩,
       ⟨(some 87), .mov (.tmp 3), (some ((some 86), false))⟩,
       ⟨(some 88), .call (.func 10) [(.tmp 87)], (some ((some 86), false))⟩,
       ⟨(some 89), .mov (.tmp 4), (some ((some 86), false))⟩,
       ⟨(some 90), .nilCheck (.tmp 89), (some ((some 86), false))⟩,
       ⟨(some 91), .fieldAddr 0 (.tmp 90), (some ((some 86), false))⟩,
       ⟨(some 92), .load none (.tmp 91), (some ((some 86), false))⟩,
       ⟨(some 93), .lenL (.tmp 92), (some ((some 86), false))⟩,
       ⟨(some 94), .bin .neq (.tmp 88) (.tmp 93), (some ((some 86), false))⟩,
       ⟨(some 95), .pick (.tmp 86) (.const (.bool true)) (.tmp 94), none⟩])
     (.cond (.tmp 95)
      (.seq (.ops 14 0 [⟨(some 2), .mov (.const (.bool false)), none⟩])
      .ret)
      .skip))))))))))
    (.ops 15 0 [⟨(some 96), .bin .add (.tmp 26) (.const (.int .i64 1)), none⟩,
      ⟨(some 26), .mov (.tmp 96), none⟩]))))
def p5 : PF := ⟨(.seq (.ops 0 0 [⟨(some 2), .mov (.const (.bool false)), none⟩])
  (.seq (.ops 1 1 [⟨(some 15), .call (.func 7) [], none⟩,
    ⟨(some 16), .build [(.sl none 0 (.fix 0))] [], none⟩,
    ⟨(some 17), .box 50 (.tmp 16), none⟩,
    ⟨(some 3), .mov (.tmp 15), none⟩,
    ⟨(some 4), .mov (.tmp 17), none⟩])
  (.seq (.seq (.ops 2 0 [⟨(some 18), .call (.func 8) [], none⟩,
    ⟨(some 19), .un .not (.tmp 18), none⟩,
    ⟨(some 20), .mov (.tmp 19), none⟩,
    ⟨(some 21), .mov (.tmp 3), (some ((some 20), false))⟩,
    ⟨(some 22), .cmp false 23 (.tmp 21) (.const (.pointer none)), (some ((some 20), false))⟩,
    ⟨(some 23), .pick (.tmp 20) (.const (.bool true)) (.tmp 22), none⟩])
  (.cond (.tmp 23)
   (.seq (.ops 3 0 [⟨(some 2), .mov (.const (.bool false)), none⟩])
   .ret)
   .skip))
  (.seq (.seq (.ops 4 0 [⟨(some 24), .mov (.tmp 0), none⟩,
    ⟨(some 25), .lenL (.tmp 24), none⟩,
    ⟨(some 26), .mov (.const (.int .i64 0)), none⟩])
  (.block 0
   (.loop p5_l0)))
  (.seq (.ops3 16 0 [(0, 0, ⟨(some 97), .mov (.tmp 3), none⟩),
    (2, 0, ⟨(some 99), .mov (.tmp 4), none⟩),
    (3, 0, ⟨(some 100), .nilCheck (.tmp 99), none⟩),
    (4, 0, ⟨(some 101), .fieldAddr 0 (.tmp 100), none⟩),
    (5, 0, ⟨(some 102), .load none (.tmp 101), none⟩)] [(1, 0, ⟨(some 98), .call (.func 15) [(.tmp 97)], none⟩, [0]),
    (6, 0, ⟨(some 103), .call (.func 17) [(.tmp 98), (.tmp 102)], none⟩, [5]),
    (7, 0, ⟨(some 2), .mov (.tmp 103), none⟩, [0, 2, 3, 4, 5])] [])
  .ret))))),
  104, [.tmp 2]⟩
theorem c5 : compF Try.prog Q Try.f5 = some p5 := by kernel_rfl
theorem ht5 : HasText Try.prog 5 Try.f5 := ⟨Try.func5, rfl, by decide⟩
-- excise/exciselaw04.SeqtreeNone
def p7 : PF := ⟨(.seq (.ops 0 0 [⟨(some 0), .mov (.const (.pointer none)), none⟩])
  (.seq (.ops 1 2 [⟨(some 1), .mmap, none⟩,
    ⟨(some 2), .build [(.ptr none), (.map none), (.int .i64 0)] [((1, 1), (.tmp 1))], none⟩,
    ⟨(some 3), .box 58 (.tmp 2), none⟩,
    ⟨(some 0), .mov (.tmp 3), none⟩])
  .ret)),
  4, [.tmp 0]⟩
theorem c7 : compF Try.prog Q Try.f7 = some p7 := by kernel_rfl
theorem ht7 : HasText Try.prog 7 Try.f7 := ⟨Try.func7, rfl, by decide⟩
-- excise/exciselaw04.begun
def p8 : PF := ⟨(.seq (.ops 0 0 [⟨(some 0), .mov (.const (.bool false)), none⟩])
  (.seq (.ops 1 0 [⟨(some 6), .call (.func 7) [], none⟩,
    ⟨(some 1), .mov (.tmp 6), none⟩])
  (.seq (.seq (.ops 2 0 [⟨(some 7), .mov (.tmp 1), none⟩,
    ⟨(some 8), .cmp false 23 (.tmp 7) (.const (.pointer none)), none⟩,
    ⟨(some 9), .mov (.tmp 8), none⟩,
    ⟨(some 10), .mov (.tmp 1), (some ((some 9), false))⟩,
    ⟨(some 11), .call (.func 9) [(.tmp 10), (.const (.int .i64 0)), (.const (.int .i64 7))], (some ((some 9), false))⟩,
    ⟨(some 12), .bin .neq (.tmp 11) (.const (.int .i64 0)), (some ((some 9), false))⟩,
    ⟨(some 13), .pick (.tmp 9) (.const (.bool true)) (.tmp 12), none⟩,
    ⟨(some 14), .mov (.tmp 13), none⟩,
    ⟨(some 15), .mov (.tmp 1), (some ((some 14), false))⟩,
    ⟨(some 16), .call (.func 9) [(.tmp 15), (.const (.int .i64 0)), (.const (.int .i64 9))], (some ((some 14), false))⟩,
    ⟨(some 17), .bin .neq (.tmp 16) (.const (.int .i64 0)), (some ((some 14), false))⟩,
    ⟨(some 18), .pick (.tmp 14) (.const (.bool true)) (.tmp 17), none⟩,
    ⟨(some 19), .mov (.tmp 18), none⟩,
    ⟨(some 20), .mov (.tmp 1), (some ((some 19), false))⟩,
    ⟨(some 21), .call (.func 9) [(.tmp 20), (.const (.int .i64 1)), (.const (.int .i64 8))], (some ((some 19), false))⟩,
    ⟨(some 22), .bin .neq (.tmp 21) (.const (.int .i64 0)), (some ((some 19), false))⟩,
    ⟨(some 23), .pick (.tmp 19) (.const (.bool true)) (.tmp 22), none⟩])
  (.cond (.tmp 23)
   (.seq (.ops 3 0 [⟨(some 0), .mov (.const (.bool false)), none⟩])
   .ret)
   .skip))
  (.seq (.ops 4 0 [⟨(some 25), .mov (.tmp 1), none⟩,
    ⟨(some 26), .call (.func 18) [(.tmp 25), (.const (.int .i64 9)), (.const (.int .i64 2))], none⟩,
    ⟨(some 24), .mov (.tmp 26), none⟩,
    ⟨(some 27), .extract (.tmp 24) 0, none⟩,
    ⟨(some 28), .extract (.tmp 24) 1, none⟩,
    ⟨(some 2), .mov (.tmp 27), none⟩,
    ⟨(some 3), .mov (.tmp 28), none⟩])
  (.seq (.ops 5 0 [⟨(some 30), .mov (.tmp 1), none⟩,
    ⟨(some 31), .call (.func 14) [(.tmp 30), (.const (.int .i64 9))], none⟩,
    ⟨(some 29), .mov (.tmp 31), none⟩,
    ⟨(some 32), .extract (.tmp 29) 0, none⟩,
    ⟨(some 33), .extract (.tmp 29) 1, none⟩,
    ⟨(some 4), .mov (.tmp 32), none⟩,
    ⟨(some 5), .mov (.tmp 33), none⟩])
  (.seq (.ops 6 0 [⟨(some 34), .mov (.tmp 2), none⟩,
    ⟨(some 35), .bin .eql (.tmp 34) (.const (.int .i64 0)), none⟩,
    ⟨(some 36), .mov (.tmp 35), none⟩,
    ⟨(some 37), .mov (.tmp 3), (some ((some 36), true))⟩,
    ⟨(some 38), .bin .eql (.tmp 37) (.const (.int .i64 0)), (some ((some 36), true))⟩,
    ⟨(some 39), .pick (.tmp 36) (.tmp 38) (.const (.bool false)), none⟩,
    ⟨(some 40), .mov (.tmp 39), none⟩,
    ⟨(some 41), .mov (.tmp 4), (some ((some 40), true))⟩,
    ⟨(some 42), .bin .eql (.tmp 41) (.const (.int .i64 2)), (some ((some 40), true))⟩,
    ⟨(some 43), .pick (.tmp 40) (.tmp 42) (.const (.bool false)), none⟩,
    ⟨(some 44), .mov (.tmp 43), none⟩,
    ⟨(some 45), .mov (.tmp 5), (some ((some 44), true))⟩,
    ⟨(some 46), .pick (.tmp 44) (.tmp 45) (.const (.bool false)), none⟩,
    ⟨(some 47), .mov (.tmp 46), none⟩,
    ⟨(some 48), .mov (.tmp 1), (some ((some 47), true))⟩,
    ⟨(some 49), .call (.func 10) [(.tmp 48)], (some ((some 47), true))⟩,
    ⟨(some 50), .bin .eql (.tmp 49) (.const (.int .i64 3)), (some ((some 47), true))⟩,
    ⟨(some 51), .pick (.tmp 47) (.tmp 50) (.const (.bool false)), none⟩,
    ⟨(some 52), .mov (.tmp 51), none⟩,
    ⟨(some 53), .mov (.tmp 1), (some ((some 52), true))⟩,
    ⟨(some 54), .call (.func 11) [(.tmp 53)], (some ((some 52), true))⟩,
    ⟨(some 55), .bin .eql (.tmp 54) (.const (.int .i64 2)), (some ((some 52), true))⟩,
    ⟨(some 56), .pick (.tmp 52) (.tmp 55) (.const (.bool false)), none⟩,
    ⟨(some 0), .mov (.tmp 56), none⟩])
  .ret)))))),
  57, [.tmp 0]⟩
theorem c8 : compF Try.prog Q Try.f8 = some p8 := by kernel_rfl
theorem ht8 : HasText Try.prog 8 Try.f8 := ⟨Try.func8, rfl, by decide⟩
-- (*excise/seqtree.Tree).Insert
def p9 : PF := ⟨(.seq (.ops 0 0 [⟨(some 6), .mov (.const (.int .i64 0)), none⟩])
  (.seq (.block 0
   (.seq (.ops 1 0 [⟨(some 11), .mov (.tmp 0), none⟩,
     ⟨(some 12), .call (.func 24) [(.tmp 11)], none⟩,
     ⟨(some 10), .mov (.tmp 12), none⟩])
   (.cond (.tmp 10)
    (.seq (.ops 2 0 [⟨(some 6), .mov (.const (.int .i64 2)), none⟩])
    .ret)
    (.seq (.ops 3 0 [⟨(some 14), .mov (.tmp 2), none⟩,
      ⟨(some 15), .bin .lss (.tmp 14) (.const (.int .i64 1)), none⟩,
      ⟨(some 16), .mov (.tmp 15), none⟩,
      ⟨(some 17), .mov (.tmp 2), (some ((some 16), false))⟩,
      ⟨(some 18), .bin .gtr (.tmp 17) (.const (.int .i64 9007199254740992)), (some ((some 16), false))⟩,
      ⟨(some 19), .pick (.tmp 16) (.const (.bool true)) (.tmp 18), none⟩,
      ⟨(some 13), .mov (.tmp 19), none⟩])
    (.cond (.tmp 13)
     (.seq (.ops 4 0 [⟨(some 6), .mov (.const (.int .i64 1)), none⟩])
     .ret)
     .skip)))))
  (.seq (.seq (.ops 5 1 [⟨(some 21), .mov (.tmp 0), none⟩,
    ⟨(some 22), .nilCheck (.tmp 21), none⟩,
    ⟨(some 23), .fieldAddr 1 (.tmp 22), none⟩,
    ⟨(some 24), .load none (.tmp 23), none⟩,
    ⟨(some 25), .mov (.tmp 2), none⟩,
    ⟨(some 26), .lookup 56 (.tmp 24) (.tmp 25) true, none⟩,
    ⟨(some 20), .mov (.tmp 26), none⟩,
    ⟨(some 27), .extract (.tmp 20) 0, none⟩,
    ⟨(some 28), .extract (.tmp 20) 1, none⟩,
    ⟨(some 7), .alloc 63 (.agg [(.ptr none)]), none⟩,
    ⟨none, .store 1 (.tmp 7) (.tmp 27), none⟩,
    ⟨(some 8), .mov (.tmp 28), none⟩])
  (.seq (.ops 6 0 [⟨(some 29), .mov (.tmp 8), none⟩])
  (.cond (.tmp 29)
   (.seq (.ops 7 0 [⟨(some 6), .mov (.const (.int .i64 5)), none⟩])
   .ret)
   .skip)))
  (.seq (.block 1
   (.seq (.ops 8 0 [⟨(some 31), .mov (.tmp 0), none⟩,
     ⟨(some 32), .call (.func 10) [(.tmp 31)], none⟩,
     ⟨(some 33), .bin .geq (.tmp 32) (.const (.int .i64 1024)), none⟩,
     ⟨(some 30), .mov (.tmp 33), none⟩])
   (.cond (.tmp 30)
    (.seq (.ops 9 0 [⟨(some 6), .mov (.const (.int .i64 6)), none⟩])
    .ret)
    (.seq (.ops 10 0 [⟨(some 35), .mov (.tmp 1), none⟩,
      ⟨(some 36), .bin .lss (.tmp 35) (.const (.int .i64 0)), none⟩,
      ⟨(some 37), .mov (.tmp 36), none⟩,
      ⟨(some 38), .mov (.tmp 1), (some ((some 37), false))⟩,
      ⟨(some 39), .mov (.tmp 0), (some ((some 37), false))⟩,
      ⟨(some 40), .call (.func 10) [(.tmp 39)], (some ((some 37), false))⟩,
      ⟨(some 41), .bin .gtr (.tmp 38) (.tmp 40), (some ((some 37), false))⟩,
      ⟨(some 42), .pick (.tmp 37) (.const (.bool true)) (.tmp 41), none⟩,
      ⟨(some 34), .mov (.tmp 42), none⟩])
    (.cond (.tmp 34)
     (.seq (.ops 11 0 [⟨(some 6), .mov (.const (.int .i64 1)), none⟩])
     .ret)
     .skip)))))
  (.seq (.ops 12 1 [⟨(some 43), .mov (.tmp 2), none⟩,
    ⟨(some 44), .build [(.int .i64 0), (.int .i64 0), (.ptr none), (.ptr none), (.ptr none)] [((0, 1), (.tmp 43)), ((1, 1), (.const (.int .i64 1)))], none⟩,
    ⟨(some 45), .box 66 (.tmp 44), none⟩,
    ⟨(some 9), .mov (.tmp 45), none⟩])
  (.seq (.ops 13 0 [⟨(some 46), .mov (.tmp 0), none⟩,
    ⟨(some 47), .nilCheck (.tmp 46), none⟩,
    ⟨(some 48), .fieldAddr 1 (.tmp 47), none⟩,
    ⟨(some 49), .load none (.tmp 48), none⟩,
    ⟨(some 50), .mov (.tmp 2), none⟩,
    ⟨(some 51), .mov (.tmp 9), none⟩,
    ⟨(some 52), .build [(.ptr none)] [((0, 1), (.tmp 51))], none⟩,
    ⟨none, .update 2 (.tmp 49) (.tmp 50) (.tmp 52), none⟩])
  (.seq (.ops 14 0 [⟨(some 53), .mov (.tmp 0), none⟩,
    ⟨(some 54), .mov (.tmp 1), none⟩,
    ⟨(some 55), .mov (.tmp 9), none⟩,
    ⟨(some 56), .call (.func 25) [(.tmp 53), (.tmp 54), (.tmp 55)], none⟩])
  (.seq (.ops 15 0 [⟨(some 6), .mov (.const (.int .i64 0)), none⟩])
  .ret)))))))),
  57, [.tmp 6]⟩
theorem c9 : compF Try.prog Q Try.f9 = some p9 := by kernel_rfl
theorem ht9 : HasText Try.prog 9 Try.f9 := ⟨Try.func9, rfl, by decide⟩
-- (*excise/seqtree.Tree).Len
def p10 : PF := ⟨(.seq (.ops 0 0 [⟨(some 2), .mov (.const (.int .i64 0)), none⟩])
  (.seq (.seq (.ops 1 0 [⟨(some 3), .mov (.tmp 0), none⟩,
    ⟨(some 4), .call (.func 24) [(.tmp 3)], none⟩])
  (.cond (.tmp 4)
   (.seq (.ops 2 0 [⟨(some 2), .mov (.const (.int .i64 0)), none⟩])
   .ret)
   .skip))
  (.seq (.ops 3 0 [⟨(some 5), .mov (.tmp 0), none⟩,
    ⟨(some 6), .nilCheck (.tmp 5), none⟩,
    ⟨(some 7), .fieldAddr 1 (.tmp 6), none⟩,
    ⟨(some 8), .load none (.tmp 7), none⟩,
    ⟨(some 9), .lenM (.tmp 8), none⟩,
    ⟨(some 2), .mov (.tmp 9), none⟩])
  .ret))),
  10, [.tmp 2]⟩
theorem c10 : compF Try.prog Q Try.f10 = some p10 := by kernel_rfl
theorem ht10 : HasText Try.prog 10 Try.f10 := ⟨Try.func10, rfl, by decide⟩
-- (*excise/seqtree.Tree).Depth
def p11 : PF := ⟨(.seq (.ops 0 0 [⟨(some 2), .mov (.const (.int .i64 0)), none⟩])
  (.seq (.seq (.ops 1 0 [⟨(some 3), .mov (.tmp 0), none⟩,
    ⟨(some 4), .call (.func 24) [(.tmp 3)], none⟩])
  (.cond (.tmp 4)
   (.seq (.ops 2 0 [⟨(some 2), .mov (.const (.int .i64 0)), none⟩])
   .ret)
   .skip))
  (.seq (.ops 3 0 [⟨(some 5), .mov (.tmp 0), none⟩,
    ⟨(some 6), .nilCheck (.tmp 5), none⟩,
    ⟨(some 7), .fieldAddr 0 (.tmp 6), none⟩,
    ⟨(some 8), .load none (.tmp 7), none⟩,
    ⟨(some 9), .call (.func 26) [(.tmp 8)], none⟩,
    ⟨(some 2), .mov (.tmp 9), none⟩])
  .ret))),
  10, [.tmp 2]⟩
theorem c11 : compF Try.prog Q Try.f11 = some p11 := by kernel_rfl
theorem ht11 : HasText Try.prog 11 Try.f11 := ⟨Try.func11, rfl, by decide⟩
-- excise/exciseref04.Bits
theorem ht12 : HasText Try.prog 12 Try.f12 := ⟨Try.func12, rfl, by decide⟩
-- (*excise/seqtree.Tree).At
def p13_l0 : PC := (.block 1
     (.seq (.ops 4 0 [⟨(some 24), .mov (.tmp 0), none⟩,
       ⟨(some 25), .nilCheck (.tmp 24), none⟩,
       ⟨(some 26), .fieldAddr 2 (.tmp 25), none⟩,
       ⟨(some 27), .load none (.tmp 26), none⟩,
       ⟨(some 28), .bin .add (.tmp 27) (.const (.int .i64 1)), none⟩,
       ⟨(some 29), .nilCheck (.tmp 24), none⟩,
       ⟨(some 30), .fieldAddr 2 (.tmp 29), none⟩,
       ⟨none, .store 1 (.tmp 30) (.tmp 28), none⟩])
     (.seq (.ops 5 0 [⟨(some 31), .mov (.tmp 6), none⟩,
       ⟨(some 32), .nilCheck (.tmp 31), none⟩,
       ⟨(some 33), .fieldAddr 3 (.tmp 32), none⟩,
       ⟨(some 34), .load none (.tmp 33), none⟩,
       ⟨(some 35), .call (.func 27) [(.tmp 34)], none⟩,
       ⟨(some 7), .mov (.tmp 35), none⟩])
     (.block 2
      (.seq (.ops 8 0 [⟨(some 45), .mov (.tmp 1), none⟩,
        ⟨(some 46), .mov (.tmp 7), none⟩,
        ⟨(some 47), .bin .lss (.tmp 45) (.tmp 46), none⟩,
        ⟨(some 44), .mov (.tmp 47), none⟩])
      (.cond (.tmp 44)
       (.ops 9 0 [⟨(some 48), .mov (.tmp 6), none⟩,
         ⟨(some 49), .nilCheck (.tmp 48), none⟩,
         ⟨(some 50), .fieldAddr 3 (.tmp 49), none⟩,
         ⟨(some 51), .load none (.tmp 50), none⟩,
         ⟨(some 6), .mov (.tmp 51), none⟩])
       (.seq (.ops 10 0 [⟨(some 53), .mov (.tmp 1), none⟩,
         ⟨(some 54), .mov (.tmp 7), none⟩,
         ⟨(some 55), .bin .eql (.tmp 53) (.tmp 54), none⟩,
         ⟨(some 52), .mov (.tmp 55), none⟩])
       (.cond (.tmp 52)
        (.seq (.ops 11 0 [⟨(some 56), .mov (.tmp 6), none⟩,
          ⟨(some 57), .nilCheck (.tmp 56), none⟩,
          ⟨(some 58), .fieldAddr 0 (.tmp 57), none⟩,
          ⟨(some 59), .load none (.tmp 58), none⟩,
          ⟨(some 4), .mov (.tmp 59), none⟩,
          ⟨(some 5), .mov (.const (.bool true)), none⟩])
        .ret)
        (.seq (.ops 6 0 [⟨(some 36), .mov (.tmp 1), none⟩,
          ⟨(some 37), .mov (.tmp 7), none⟩,
          ⟨(some 38), .bin .add (.tmp 37) (.const (.int .i64 1)), none⟩,
          ⟨(some 39), .bin .sub (.tmp 36) (.tmp 38), none⟩,
          ⟨(some 1), .mov (.tmp 39), none⟩])
        (.ops 7 0 [⟨(some 40), .mov (.tmp 6), none⟩,
          ⟨(some 41), .nilCheck (.tmp 40), none⟩,
          ⟨(some 42), .fieldAddr 4 (.tmp 41), none⟩,
          ⟨(some 43), .load none (.tmp 42), none⟩,
          ⟨(some 6), .mov (.tmp 43), none⟩]))))))))))
def p13 : PF := ⟨(.seq (.ops 0 0 [⟨(some 4), .mov (.const (.int .i64 0)), none⟩,
    ⟨(some 5), .mov (.const (.bool false)), none⟩])
  (.seq (.seq (.ops 1 0 [⟨(some 8), .mov (.tmp 0), none⟩,
    ⟨(some 9), .call (.func 24) [(.tmp 8)], none⟩,
    ⟨(some 10), .mov (.tmp 9), none⟩,
    ⟨(some 11), .mov (.tmp 1), (some ((some 10), false))⟩,
    ⟨(some 12), .bin .lss (.tmp 11) (.const (.int .i64 0)), (some ((some 10), false))⟩,
    ⟨(some 13), .pick (.tmp 10) (.const (.bool true)) (.tmp 12), none⟩,
    ⟨(some 14), .mov (.tmp 13), none⟩,
    ⟨(some 15), .mov (.tmp 1), (some ((some 14), false))⟩,
    ⟨(some 16), .mov (.tmp 0), (some ((some 14), false))⟩,
    ⟨(some 17), .call (.func 10) [(.tmp 16)], (some ((some 14), false))⟩,
    ⟨(some 18), .bin .geq (.tmp 15) (.tmp 17), (some ((some 14), false))⟩,
    ⟨(some 19), .pick (.tmp 14) (.const (.bool true)) (.tmp 18), none⟩])
  (.cond (.tmp 19)
   (.seq (.ops 2 0 [⟨(some 4), .mov (.const (.int .i64 0)), none⟩,
     ⟨(some 5), .mov (.const (.bool false)), none⟩])
   .ret)
   .skip))
  (.seq (.ops 3 0 [⟨(some 20), .mov (.tmp 0), none⟩,
    ⟨(some 21), .nilCheck (.tmp 20), none⟩,
    ⟨(some 22), .fieldAddr 0 (.tmp 21), none⟩,
    ⟨(some 23), .load none (.tmp 22), none⟩,
    ⟨(some 6), .mov (.tmp 23), none⟩])
  (.block 0
   (.loop p13_l0))))),
  60, [.tmp 4, .tmp 5]⟩
theorem c13 : compF Try.prog Q Try.f13 = some p13 := by kernel_rfl
theorem ht13 : HasText Try.prog 13 Try.f13 := ⟨Try.func13, rfl, by decide⟩
-- (*excise/seqtree.Tree).Index
def p14 : PF := ⟨(.seq (.ops 0 0 [⟨(some 4), .mov (.const (.int .i64 0)), none⟩,
    ⟨(some 5), .mov (.const (.bool false)), none⟩])
  (.seq (.seq (.ops 1 0 [⟨(some 8), .mov (.tmp 0), none⟩,
    ⟨(some 9), .call (.func 24) [(.tmp 8)], none⟩])
  (.cond (.tmp 9)
   (.seq (.ops 2 0 [⟨(some 4), .mov (.const (.int .i64 0)), none⟩,
     ⟨(some 5), .mov (.const (.bool false)), none⟩])
   .ret)
   .skip))
  (.seq (.ops 3 1 [⟨(some 11), .mov (.tmp 0), none⟩,
    ⟨(some 12), .nilCheck (.tmp 11), none⟩,
    ⟨(some 13), .fieldAddr 1 (.tmp 12), none⟩,
    ⟨(some 14), .load none (.tmp 13), none⟩,
    ⟨(some 15), .mov (.tmp 1), none⟩,
    ⟨(some 16), .lookup 56 (.tmp 14) (.tmp 15) true, none⟩,
    ⟨(some 10), .mov (.tmp 16), none⟩,
    ⟨(some 17), .extract (.tmp 10) 0, none⟩,
    ⟨(some 18), .extract (.tmp 10) 1, none⟩,
    ⟨(some 6), .alloc 63 (.agg [(.ptr none)]), none⟩,
    ⟨none, .store 1 (.tmp 6) (.tmp 17), none⟩,
    ⟨(some 7), .mov (.tmp 18), none⟩])
  (.seq (.seq (.ops 4 0 [⟨(some 19), .mov (.tmp 7), none⟩,
    ⟨(some 20), .un .not (.tmp 19), none⟩])
  (.cond (.tmp 20)
   (.seq (.ops 5 0 [⟨(some 4), .mov (.const (.int .i64 0)), none⟩,
     ⟨(some 5), .mov (.const (.bool false)), none⟩])
   .ret)
   .skip))
  (.seq (.seq (.ops 6 0 [⟨(some 21), .fieldAddr 0 (.tmp 6), none⟩,
    ⟨(some 22), .load none (.tmp 21), none⟩,
    ⟨(some 23), .nilCheck (.tmp 22), none⟩,
    ⟨(some 24), .fieldAddr 2 (.tmp 23), none⟩,
    ⟨(some 25), .load none (.tmp 24), none⟩,
    ⟨(some 26), .cmp false 55 (.tmp 25) (.const (.pointer none)), none⟩])
  (.cond (.tmp 26)
   (.seq (.ops 7 0 [⟨(some 27), .mov (.tmp 0), none⟩,
     ⟨(some 28), .nilCheck (.tmp 27), none⟩,
     ⟨(some 29), .fieldAddr 2 (.tmp 28), none⟩,
     ⟨(some 30), .load none (.tmp 29), none⟩,
     ⟨(some 31), .bin .add (.tmp 30) (.const (.int .i64 1)), none⟩,
     ⟨(some 32), .nilCheck (.tmp 27), none⟩,
     ⟨(some 33), .fieldAddr 2 (.tmp 32), none⟩,
     ⟨none, .store 1 (.tmp 33) (.tmp 31), none⟩])
   (.seq (.ops 8 0 [⟨(some 34), .fieldAddr 0 (.tmp 6), none⟩,
     ⟨(some 35), .load none (.tmp 34), none⟩,
     ⟨(some 36), .nilCheck (.tmp 35), none⟩,
     ⟨(some 37), .fieldAddr 3 (.tmp 36), none⟩,
     ⟨(some 38), .load none (.tmp 37), none⟩,
     ⟨(some 39), .call (.func 27) [(.tmp 38)], none⟩,
     ⟨(some 4), .mov (.tmp 39), none⟩,
     ⟨(some 5), .mov (.const (.bool true)), none⟩])
   .ret))
   .skip))
  (.seq (.ops 9 0 [⟨(some 40), .mov (.tmp 0), none⟩,
    ⟨(some 41), .fieldAddr 0 (.tmp 6), none⟩,
    ⟨(some 42), .load none (.tmp 41), none⟩,
    ⟨(some 43), .call (.func 28) [(.tmp 40), (.tmp 42)], none⟩,
    ⟨(some 4), .mov (.tmp 43), none⟩,
    ⟨(some 5), .mov (.const (.bool true)), none⟩])
  .ret)))))),
  44, [.tmp 4, .tmp 5]⟩
theorem c14 : compF Try.prog Q Try.f14 = some p14 := by kernel_rfl
theorem ht14 : HasText Try.prog 14 Try.f14 := ⟨Try.func14, rfl, by decide⟩
-- (*excise/seqtree.Tree).All
def p15 : PF := ⟨(.seq (.ops 0 0 [⟨(some 2), .mov (.const .nilFunc), none⟩])
  (.seq (.ops 1 1 [⟨(some 3), .alloc 39 (.sl none 0 (.fix 0)), none⟩])
  (.seq (.seq (.ops 2 0 [⟨(some 4), .mov (.tmp 0), none⟩,
    ⟨(some 5), .call (.func 24) [(.tmp 4)], none⟩,
    ⟨(some 6), .un .not (.tmp 5), none⟩])
  (.cond (.tmp 6)
   (.ops 3 0 [⟨(some 7), .mov (.tmp 0), none⟩,
     ⟨(some 8), .nilCheck (.tmp 7), none⟩,
     ⟨(some 9), .fieldAddr 0 (.tmp 8), none⟩,
     ⟨(some 10), .load none (.tmp 9), none⟩,
     ⟨(some 11), .call (.func 29) [(.tmp 10), (.const (.slice none 0 0))], none⟩,
     ⟨none, .store 1 (.tmp 3) (.tmp 11), none⟩])
   .skip))
  (.seq (.ops 4 0 [⟨(some 12), .mkF 30 [] [(.tmp 3)], none⟩,
    ⟨(some 2), .mov (.tmp 12), none⟩])
  .ret)))),
  13, [.tmp 2]⟩
theorem c15 : compF Try.prog Q Try.f15 = some p15 := by kernel_rfl
theorem ht15 : HasText Try.prog 15 Try.f15 := ⟨Try.func15, rfl, by decide⟩
-- (*excise/seqtree.Tree).Delete
def p16 : PF := ⟨(.seq (.ops 0 0 [⟨(some 4), .mov (.const (.int .i64 0)), none⟩,
    ⟨(some 5), .mov (.const (.int .i64 0)), none⟩])
  (.seq (.seq (.ops 1 0 [⟨(some 9), .mov (.tmp 0), none⟩,
    ⟨(some 10), .call (.func 24) [(.tmp 9)], none⟩])
  (.cond (.tmp 10)
   (.seq (.ops 2 0 [⟨(some 4), .mov (.const (.int .i64 0)), none⟩,
     ⟨(some 5), .mov (.const (.int .i64 2)), none⟩])
   .ret)
   .skip))
  (.seq (.ops 3 1 [⟨(some 12), .mov (.tmp 0), none⟩,
    ⟨(some 13), .nilCheck (.tmp 12), none⟩,
    ⟨(some 14), .fieldAddr 1 (.tmp 13), none⟩,
    ⟨(some 15), .load none (.tmp 14), none⟩,
    ⟨(some 16), .mov (.tmp 1), none⟩,
    ⟨(some 17), .lookup 56 (.tmp 15) (.tmp 16) true, none⟩,
    ⟨(some 11), .mov (.tmp 17), none⟩,
    ⟨(some 18), .extract (.tmp 11) 0, none⟩,
    ⟨(some 19), .extract (.tmp 11) 1, none⟩,
    ⟨(some 6), .alloc 63 (.agg [(.ptr none)]), none⟩,
    ⟨none, .store 1 (.tmp 6) (.tmp 18), none⟩,
    ⟨(some 7), .mov (.tmp 19), none⟩])
  (.seq (.seq (.ops 4 0 [⟨(some 20), .mov (.tmp 7), none⟩,
    ⟨(some 21), .un .not (.tmp 20), none⟩])
  (.cond (.tmp 21)
   (.seq (.ops 5 0 [⟨(some 4), .mov (.const (.int .i64 0)), none⟩,
     ⟨(some 5), .mov (.const (.int .i64 4)), none⟩])
   .ret)
   .skip))
  (.seq (.ops 6 0 [⟨(some 22), .mov (.tmp 0), none⟩,
    ⟨(some 23), .fieldAddr 0 (.tmp 6), none⟩,
    ⟨(some 24), .load none (.tmp 23), none⟩,
    ⟨(some 25), .call (.func 28) [(.tmp 22), (.tmp 24)], none⟩,
    ⟨(some 8), .mov (.tmp 25), none⟩])
  (.seq (.ops 7 0 [⟨(some 26), .mov (.tmp 0), none⟩,
    ⟨(some 27), .fieldAddr 0 (.tmp 6), none⟩,
    ⟨(some 28), .load none (.tmp 27), none⟩,
    ⟨(some 29), .call (.func 31) [(.tmp 26), (.tmp 28)], none⟩])
  (.seq (.ops 8 0 [⟨(some 30), .mov (.tmp 0), none⟩,
    ⟨(some 31), .nilCheck (.tmp 30), none⟩,
    ⟨(some 32), .fieldAddr 1 (.tmp 31), none⟩,
    ⟨(some 33), .load none (.tmp 32), none⟩,
    ⟨(some 34), .mov (.tmp 1), none⟩,
    ⟨none, .del 2 (.tmp 33) (.tmp 34), none⟩])
  (.seq (.ops 9 0 [⟨(some 35), .mov (.tmp 8), none⟩,
    ⟨(some 4), .mov (.tmp 35), none⟩,
    ⟨(some 5), .mov (.const (.int .i64 0)), none⟩])
  .ret)))))))),
  36, [.tmp 4, .tmp 5]⟩
theorem c16 : compF Try.prog Q Try.f16 = some p16 := by kernel_rfl
theorem ht16 : HasText Try.prog 16 Try.f16 := ⟨Try.func16, rfl, by decide⟩
-- excise/exciselaw04.told
def p17 : PF := ⟨(.seq (.ops 0 2 [⟨(some 3), .box 39 (.tmp 1), none⟩,
    ⟨(some 4), .alloc 4 (.bool false), none⟩])
  (.seq (.ops 1 1 [⟨(some 5), .alloc 3 (.int .i64 0), none⟩,
    ⟨none, .store 1 (.tmp 5) (.const (.int .i64 0)), none⟩])
  (.seq (.seq (.ops 2 0 [⟨(some 8), .mov (.tmp 0), none⟩])
  (.block 0
   (.rf (.tmp 8) [9, 10]
    (.seq (.ops 3 0 [⟨(some 6), .mov (.tmp 9), none⟩])
    (.ops 4 0 [⟨(some 7), .mov (.tmp 10), none⟩]))
    (.block 1
     (.seq (.seq (.ops 5 0 [⟨(some 11), .load none (.tmp 5), none⟩,
       ⟨(some 12), .load none (.tmp 3), none⟩,
       ⟨(some 13), .lenL (.tmp 12), none⟩,
       ⟨(some 14), .bin .geq (.tmp 11) (.tmp 13), none⟩,
       ⟨(some 15), .mov (.tmp 14), none⟩,
       ⟨(some 16), .mov (.tmp 6), (some ((some 15), false))⟩,
       ⟨(some 17), .load none (.tmp 5), (some ((some 15), false))⟩,
       ⟨(some 18), .bin .neq (.tmp 16) (.tmp 17), (some ((some 15), false))⟩,
       ⟨(some 19), .pick (.tmp 15) (.const (.bool true)) (.tmp 18), none⟩,
       ⟨(some 20), .mov (.tmp 19), none⟩,
       ⟨(some 21), .mov (.tmp 7), (some ((some 20), false))⟩,
       ⟨(some 22), .load none (.tmp 3), (some ((some 20), false))⟩,
       ⟨(some 23), .load none (.tmp 5), (some ((some 20), false))⟩,
       ⟨(some 24), .atL 1 (.tmp 22) (.tmp 23), (some ((some 20), false))⟩,
       ⟨(some 25), .load none (.tmp 24), (some ((some 20), false))⟩,
       ⟨(some 26), .bin .neq (.tmp 21) (.tmp 25), (some ((some 20), false))⟩,
       ⟨(some 27), .pick (.tmp 20) (.const (.bool true)) (.tmp 26), none⟩])
     (.cond (.tmp 27)
      (.seq (.ops 6 0 [⟨none, .store 1 (.tmp 4) (.const (.bool false)), none⟩])
      .ret)
      .skip))
     (.ops 7 0 [⟨(some 28), .load none (.tmp 5), none⟩,
       ⟨(some 29), .bin .add (.tmp 28) (.const (.int .i64 1)), none⟩,
       ⟨none, .store 1 (.tmp 5) (.tmp 29), none⟩]))))))
  (.seq (.ops 8 0 [⟨(some 30), .load none (.tmp 5), none⟩,
    ⟨(some 31), .load none (.tmp 3), none⟩,
    ⟨(some 32), .lenL (.tmp 31), none⟩,
    ⟨(some 33), .bin .eql (.tmp 30) (.tmp 32), none⟩,
    ⟨none, .store 1 (.tmp 4) (.tmp 33), none⟩])
  .ret)))),
  34, [.cell 4 4]⟩
theorem c17 : compF Try.prog Q Try.f17 = some p17 := by kernel_rfl
theorem ht17 : HasText Try.prog 17 Try.f17 := ⟨Try.func17, rfl, by decide⟩
-- (*excise/seqtree.Tree).Move
def p18 : PF := ⟨(.seq (.ops 0 0 [⟨(some 6), .mov (.const (.int .i64 0)), none⟩,
    ⟨(some 7), .mov (.const (.int .i64 0)), none⟩])
  (.seq (.seq (.ops 1 0 [⟨(some 12), .mov (.tmp 0), none⟩,
    ⟨(some 13), .call (.func 24) [(.tmp 12)], none⟩])
  (.cond (.tmp 13)
   (.seq (.ops 2 0 [⟨(some 6), .mov (.const (.int .i64 0)), none⟩,
     ⟨(some 7), .mov (.const (.int .i64 2)), none⟩])
   .ret)
   .skip))
  (.seq (.seq (.ops 3 1 [⟨(some 15), .mov (.tmp 0), none⟩,
    ⟨(some 16), .nilCheck (.tmp 15), none⟩,
    ⟨(some 17), .fieldAddr 1 (.tmp 16), none⟩,
    ⟨(some 18), .load none (.tmp 17), none⟩,
    ⟨(some 19), .mov (.tmp 1), none⟩,
    ⟨(some 20), .lookup 56 (.tmp 18) (.tmp 19) true, none⟩,
    ⟨(some 14), .mov (.tmp 20), none⟩,
    ⟨(some 21), .extract (.tmp 14) 0, none⟩,
    ⟨(some 22), .extract (.tmp 14) 1, none⟩,
    ⟨(some 8), .alloc 63 (.agg [(.ptr none)]), none⟩,
    ⟨none, .store 1 (.tmp 8) (.tmp 21), none⟩,
    ⟨(some 9), .mov (.tmp 22), none⟩])
  (.seq (.ops 4 0 [⟨(some 23), .mov (.tmp 9), none⟩,
    ⟨(some 24), .un .not (.tmp 23), none⟩])
  (.cond (.tmp 24)
   (.seq (.ops 5 0 [⟨(some 6), .mov (.const (.int .i64 0)), none⟩,
     ⟨(some 7), .mov (.const (.int .i64 4)), none⟩])
   .ret)
   .skip)))
  (.seq (.seq (.ops 6 0 [⟨(some 25), .mov (.tmp 2), none⟩,
    ⟨(some 26), .bin .lss (.tmp 25) (.const (.int .i64 0)), none⟩,
    ⟨(some 27), .mov (.tmp 26), none⟩,
    ⟨(some 28), .mov (.tmp 2), (some ((some 27), false))⟩,
    ⟨(some 29), .mov (.tmp 0), (some ((some 27), false))⟩,
    ⟨(some 30), .call (.func 10) [(.tmp 29)], (some ((some 27), false))⟩,
    ⟨(some 31), .bin .geq (.tmp 28) (.tmp 30), (some ((some 27), false))⟩,
    ⟨(some 32), .pick (.tmp 27) (.const (.bool true)) (.tmp 31), none⟩])
  (.cond (.tmp 32)
   (.seq (.ops 7 0 [⟨(some 6), .mov (.const (.int .i64 0)), none⟩,
     ⟨(some 7), .mov (.const (.int .i64 1)), none⟩])
   .ret)
   .skip))
  (.seq (.ops 8 0 [⟨(some 34), .mov (.tmp 0), none⟩,
    ⟨(some 35), .mov (.tmp 1), none⟩,
    ⟨(some 36), .call (.func 16) [(.tmp 34), (.tmp 35)], none⟩,
    ⟨(some 33), .mov (.tmp 36), none⟩,
    ⟨(some 37), .extract (.tmp 33) 0, none⟩,
    ⟨(some 38), .extract (.tmp 33) 1, none⟩,
    ⟨(some 10), .mov (.tmp 37), none⟩,
    ⟨(some 11), .mov (.tmp 38), none⟩])
  (.seq (.ops 9 0 [⟨(some 39), .mov (.tmp 0), none⟩,
    ⟨(some 40), .mov (.tmp 2), none⟩,
    ⟨(some 41), .mov (.tmp 1), none⟩,
    ⟨(some 42), .call (.func 9) [(.tmp 39), (.tmp 40), (.tmp 41)], none⟩])
  (.seq (.ops 10 0 [⟨(some 43), .mov (.tmp 10), none⟩,
    ⟨(some 6), .mov (.tmp 43), none⟩,
    ⟨(some 7), .mov (.const (.int .i64 0)), none⟩])
  .ret))))))),
  44, [.tmp 6, .tmp 7]⟩
theorem c18 : compF Try.prog Q Try.f18 = some p18 := by kernel_rfl
theorem ht18 : HasText Try.prog 18 Try.f18 := ⟨Try.func18, rfl, by decide⟩
-- (*excise/exciseref04.List).At
def p20 : PF := ⟨(.seq (.ops 0 0 [⟨(some 4), .mov (.const (.int .i64 0)), none⟩,
    ⟨(some 5), .mov (.const (.bool false)), none⟩])
  (.seq (.seq (.ops 1 0 [⟨(some 6), .mov (.tmp 1), none⟩,
    ⟨(some 7), .bin .lss (.tmp 6) (.const (.int .i64 0)), none⟩,
    ⟨(some 8), .mov (.tmp 7), none⟩,
    ⟨(some 9), .mov (.tmp 1), (some ((some 8), false))⟩,
    ⟨(some 10), .mov (.tmp 0), (some ((some 8), false))⟩,
    ⟨(some 11), .nilCheck (.tmp 10), (some ((some 8), false))⟩,
    ⟨(some 12), .fieldAddr 0 (.tmp 11), (some ((some 8), false))⟩,
    ⟨(some 13), .load none (.tmp 12), (some ((some 8), false))⟩,
    ⟨(some 14), .lenL (.tmp 13), (some ((some 8), false))⟩,
    ⟨(some 15), .bin .geq (.tmp 9) (.tmp 14), (some ((some 8), false))⟩,
    ⟨(some 16), .pick (.tmp 8) (.const (.bool true)) (.tmp 15), none⟩])
  (.cond (.tmp 16)
   (.seq (.ops 2 0 [⟨(some 4), .mov (.const (.int .i64 0)), none⟩,
     ⟨(some 5), .mov (.const (.bool false)), none⟩])
   .ret)
   .skip))
  (.seq (.ops 3 0 [⟨(some 17), .mov (.tmp 0), none⟩,
    ⟨(some 18), .nilCheck (.tmp 17), none⟩,
    ⟨(some 19), .fieldAddr 0 (.tmp 18), none⟩,
    ⟨(some 20), .load none (.tmp 19), none⟩,
    ⟨(some 21), .mov (.tmp 1), none⟩,
    ⟨(some 22), .atL 1 (.tmp 20) (.tmp 21), none⟩,
    ⟨(some 23), .load none (.tmp 22), none⟩,
    ⟨(some 4), .mov (.tmp 23), none⟩,
    ⟨(some 5), .mov (.const (.bool true)), none⟩])
  .ret))),
  24, [.tmp 4, .tmp 5]⟩
theorem c20 : compF Try.prog Q Try.f20 = some p20 := by kernel_rfl
theorem ht20 : HasText Try.prog 20 Try.f20 := ⟨Try.func20, rfl, by decide⟩
-- (*excise/exciseref04.List).Index
def p21_l0 : PC := (.seq (.seq (.ops 2 0 [⟨(some 6), .mov (.tmp 5), none⟩,
      ⟨(some 7), .mov (.tmp 0), none⟩,
      ⟨(some 8), .nilCheck (.tmp 7), none⟩,
      ⟨(some 9), .fieldAddr 0 (.tmp 8), none⟩,
      ⟨(some 10), .load none (.tmp 9), none⟩,
      ⟨(some 11), .lenL (.tmp 10), none⟩,
      ⟨(some 12), .bin .lss (.tmp 6) (.tmp 11), none⟩])
    (.cond (.tmp 12)
     .skip
     (.exit 0)))
    (.seq (.block 1
     (.seq (.ops 4 0 [⟨(some 15), .mov (.tmp 0), none⟩,
       ⟨(some 16), .nilCheck (.tmp 15), none⟩,
       ⟨(some 17), .fieldAddr 0 (.tmp 16), none⟩,
       ⟨(some 18), .load none (.tmp 17), none⟩,
       ⟨(some 19), .mov (.tmp 5), none⟩,
       ⟨(some 20), .atL 1 (.tmp 18) (.tmp 19), none⟩,
       ⟨(some 21), .load none (.tmp 20), none⟩,
       ⟨(some 22), .mov (.tmp 1), none⟩,
       ⟨(some 23), .bin .eql (.tmp 21) (.tmp 22), none⟩])
     (.cond (.tmp 23)
      (.seq (.ops 5 0 [⟨(some 24), .mov (.tmp 5), none⟩,
        ⟨(some 4), .mov (.tmp 24), none⟩])
      .ret)
      .skip)))
    (.ops 3 0 [⟨(some 13), .mov (.tmp 5), none⟩,
      ⟨(some 14), .bin .add (.tmp 13) (.const (.int .i64 1)), none⟩,
      ⟨(some 5), .mov (.tmp 14), none⟩])))
def p21 : PF := ⟨(.seq (.ops 0 0 [⟨(some 4), .mov (.const (.int .i64 0)), none⟩])
  (.seq (.seq (.ops 1 0 [⟨(some 5), .mov (.const (.int .i64 0)), none⟩])
  (.block 0
   (.loop p21_l0)))
  (.seq (.ops 6 0 [⟨(some 4), .mov (.const (.int .i64 (-1))), none⟩])
  .ret))),
  25, [.tmp 4]⟩
theorem c21 : compF Try.prog Q Try.f21 = some p21 := by kernel_rfl
theorem ht21 : HasText Try.prog 21 Try.f21 := ⟨Try.func21, rfl, by decide⟩
-- (*excise/seqtree.Tree).Looked
def p22 : PF := ⟨(.seq (.ops 0 0 [⟨(some 2), .mov (.const (.int .i64 0)), none⟩])
  (.seq (.seq (.ops 1 0 [⟨(some 3), .mov (.tmp 0), none⟩,
    ⟨(some 4), .call (.func 24) [(.tmp 3)], none⟩])
  (.cond (.tmp 4)
   (.seq (.ops 2 0 [⟨(some 2), .mov (.const (.int .i64 0)), none⟩])
   .ret)
   .skip))
  (.seq (.ops 3 0 [⟨(some 5), .mov (.tmp 0), none⟩,
    ⟨(some 6), .nilCheck (.tmp 5), none⟩,
    ⟨(some 7), .fieldAddr 2 (.tmp 6), none⟩,
    ⟨(some 8), .load none (.tmp 7), none⟩,
    ⟨(some 2), .mov (.tmp 8), none⟩])
  .ret))),
  9, [.tmp 2]⟩
theorem c22 : compF Try.prog Q Try.f22 = some p22 := by kernel_rfl
theorem ht22 : HasText Try.prog 22 Try.f22 := ⟨Try.func22, rfl, by decide⟩
-- (*excise/seqtree.Tree).Clone
def p23 : PF := ⟨(.seq (.ops 0 0 [⟨(some 2), .mov (.const (.pointer none)), none⟩])
  (.seq (.seq (.ops 1 0 [⟨(some 6), .mov (.tmp 0), none⟩,
    ⟨(some 7), .call (.func 24) [(.tmp 6)], none⟩])
  (.cond (.tmp 7)
   (.seq (.ops 2 0 [⟨(some 2), .mov (.const (.pointer none)), none⟩])
   .ret)
   .skip))
  (.seq (.ops 3 1 [⟨(some 8), .call (.func 7) [], none⟩,
    ⟨(some 3), .alloc 23 (.ptr none), none⟩,
    ⟨none, .store 1 (.tmp 3) (.tmp 8), none⟩])
  (.seq (.seq (.ops 4 0 [⟨(some 9), .mov (.tmp 0), none⟩,
    ⟨(some 10), .call (.func 15) [(.tmp 9)], none⟩])
  (.block 0
   (.rf (.tmp 10) [11, 12]
    (.seq (.ops 5 0 [⟨(some 4), .mov (.tmp 11), none⟩])
    (.ops 6 0 [⟨(some 5), .mov (.tmp 12), none⟩]))
    (.block 1
     (.ops 7 0 [⟨(some 13), .load none (.tmp 3), none⟩,
       ⟨(some 14), .mov (.tmp 4), none⟩,
       ⟨(some 15), .mov (.tmp 5), none⟩,
       ⟨(some 16), .call (.func 9) [(.tmp 13), (.tmp 14), (.tmp 15)], none⟩])))))
  (.seq (.ops 8 0 [⟨(some 17), .load none (.tmp 3), none⟩,
    ⟨(some 18), .mov (.tmp 0), none⟩,
    ⟨(some 19), .nilCheck (.tmp 18), none⟩,
    ⟨(some 20), .fieldAddr 2 (.tmp 19), none⟩,
    ⟨(some 21), .load none (.tmp 20), none⟩,
    ⟨(some 22), .nilCheck (.tmp 17), none⟩,
    ⟨(some 23), .fieldAddr 2 (.tmp 22), none⟩,
    ⟨none, .store 1 (.tmp 23) (.tmp 21), none⟩])
  (.seq (.ops 9 0 [⟨(some 24), .load none (.tmp 3), none⟩,
    ⟨(some 2), .mov (.tmp 24), none⟩])
  .ret)))))),
  25, [.tmp 2]⟩
theorem c23 : compF Try.prog Q Try.f23 = some p23 := by kernel_rfl
theorem ht23 : HasText Try.prog 23 Try.f23 := ⟨Try.func23, rfl, by decide⟩
-- (*excise/seqtree.Tree).none
def p24 : PF := ⟨(.seq (.ops 0 0 [⟨(some 2), .mov (.const (.bool false)), none⟩])
  (.seq (.ops 1 0 [⟨(some 3), .mov (.tmp 0), none⟩,
    ⟨(some 4), .cmp false 23 (.tmp 3) (.const (.pointer none)), none⟩,
    ⟨(some 5), .mov (.tmp 4), none⟩,
    ⟨(some 6), .mov (.tmp 0), (some ((some 5), false))⟩,
    ⟨(some 7), .nilCheck (.tmp 6), (some ((some 5), false))⟩,
    ⟨(some 8), .fieldAddr 1 (.tmp 7), (some ((some 5), false))⟩,
    ⟨(some 9), .load none (.tmp 8), (some ((some 5), false))⟩,
    ⟨(some 10), .cmp false 56 (.tmp 9) (.const (.map none)), (some ((some 5), false))⟩,
    ⟨(some 11), .pick (.tmp 5) (.const (.bool true)) (.tmp 10), none⟩,
    ⟨(some 2), .mov (.tmp 11), none⟩])
  .ret)),
  12, [.tmp 2]⟩
theorem c24 : compF Try.prog Q Try.f24 = some p24 := by kernel_rfl
theorem ht24 : HasText Try.prog 24 Try.f24 := ⟨Try.func24, rfl, by decide⟩
-- (*excise/seqtree.Tree).put
def p25_l0 : PC := (.block 1
     (.seq (.ops 4 0 [⟨(some 29), .mov (.tmp 0), none⟩,
       ⟨(some 30), .nilCheck (.tmp 29), none⟩,
       ⟨(some 31), .fieldAddr 2 (.tmp 30), none⟩,
       ⟨(some 32), .load none (.tmp 31), none⟩,
       ⟨(some 33), .bin .add (.tmp 32) (.const (.int .i64 1)), none⟩,
       ⟨(some 34), .nilCheck (.tmp 29), none⟩,
       ⟨(some 35), .fieldAddr 2 (.tmp 34), none⟩,
       ⟨none, .store 1 (.tmp 35) (.tmp 33), none⟩])
     (.seq (.ops 5 0 [⟨(some 36), .mov (.tmp 6), none⟩,
       ⟨(some 37), .nilCheck (.tmp 36), none⟩,
       ⟨(some 38), .fieldAddr 3 (.tmp 37), none⟩,
       ⟨(some 39), .load none (.tmp 38), none⟩,
       ⟨(some 40), .call (.func 27) [(.tmp 39)], none⟩,
       ⟨(some 7), .mov (.tmp 40), none⟩])
     (.seq (.ops 6 0 [⟨(some 41), .mov (.tmp 6), none⟩,
       ⟨(some 42), .nilCheck (.tmp 41), none⟩,
       ⟨(some 43), .fieldAddr 3 (.tmp 42), none⟩,
       ⟨(some 8), .mov (.tmp 43), none⟩])
     (.seq (.seq (.ops 7 0 [⟨(some 44), .mov (.tmp 1), none⟩,
       ⟨(some 45), .mov (.tmp 7), none⟩,
       ⟨(some 46), .bin .gtr (.tmp 44) (.tmp 45), none⟩])
     (.cond (.tmp 46)
      (.seq (.ops 8 0 [⟨(some 47), .mov (.tmp 1), none⟩,
        ⟨(some 48), .mov (.tmp 7), none⟩,
        ⟨(some 49), .bin .add (.tmp 48) (.const (.int .i64 1)), none⟩,
        ⟨(some 50), .bin .sub (.tmp 47) (.tmp 49), none⟩,
        ⟨(some 1), .mov (.tmp 50), none⟩])
      (.ops 9 0 [⟨(some 51), .mov (.tmp 6), none⟩,
        ⟨(some 52), .nilCheck (.tmp 51), none⟩,
        ⟨(some 53), .fieldAddr 4 (.tmp 52), none⟩,
        ⟨(some 8), .mov (.tmp 53), none⟩]))
      .skip))
     (.seq (.seq (.ops 10 0 [⟨(some 54), .mov (.tmp 8), none⟩,
       ⟨(some 55), .nilCheck (.tmp 54), none⟩,
       ⟨(some 56), .load none (.tmp 55), none⟩,
       ⟨(some 57), .cmp false 55 (.tmp 56) (.const (.pointer none)), none⟩])
     (.cond (.tmp 57)
      (.seq (.ops 11 0 [⟨(some 58), .mov (.tmp 8), none⟩,
        ⟨(some 59), .mov (.tmp 2), none⟩,
        ⟨(some 60), .mov (.tmp 2), none⟩,
        ⟨(some 61), .mov (.tmp 6), none⟩,
        ⟨(some 62), .nilCheck (.tmp 58), none⟩,
        ⟨none, .store 1 (.tmp 62) (.tmp 60), none⟩,
        ⟨(some 63), .nilCheck (.tmp 59), none⟩,
        ⟨(some 64), .fieldAddr 2 (.tmp 63), none⟩,
        ⟨none, .store 1 (.tmp 64) (.tmp 61), none⟩])
      (.exit 0))
      .skip))
     (.ops 12 0 [⟨(some 65), .mov (.tmp 8), none⟩,
       ⟨(some 66), .nilCheck (.tmp 65), none⟩,
       ⟨(some 67), .load none (.tmp 66), none⟩,
       ⟨(some 6), .mov (.tmp 67), none⟩])))))))
def p25 : PF := ⟨(.seq (.ops 0 0 [⟨(some 9), .mov (.tmp 0), none⟩,
    ⟨(some 10), .nilCheck (.tmp 9), none⟩,
    ⟨(some 11), .fieldAddr 2 (.tmp 10), none⟩,
    ⟨(some 12), .load none (.tmp 11), none⟩,
    ⟨(some 13), .bin .add (.tmp 12) (.const (.int .i64 1)), none⟩,
    ⟨(some 14), .nilCheck (.tmp 9), none⟩,
    ⟨(some 15), .fieldAddr 2 (.tmp 14), none⟩,
    ⟨none, .store 1 (.tmp 15) (.tmp 13), none⟩])
  (.seq (.seq (.ops 1 0 [⟨(some 16), .mov (.tmp 0), none⟩,
    ⟨(some 17), .nilCheck (.tmp 16), none⟩,
    ⟨(some 18), .fieldAddr 0 (.tmp 17), none⟩,
    ⟨(some 19), .load none (.tmp 18), none⟩,
    ⟨(some 20), .cmp false 55 (.tmp 19) (.const (.pointer none)), none⟩])
  (.cond (.tmp 20)
   (.seq (.ops 2 0 [⟨(some 21), .mov (.tmp 0), none⟩,
     ⟨(some 22), .mov (.tmp 2), none⟩,
     ⟨(some 23), .nilCheck (.tmp 21), none⟩,
     ⟨(some 24), .fieldAddr 0 (.tmp 23), none⟩,
     ⟨none, .store 1 (.tmp 24) (.tmp 22), none⟩])
   .ret)
   .skip))
  (.seq (.ops 3 0 [⟨(some 25), .mov (.tmp 0), none⟩,
    ⟨(some 26), .nilCheck (.tmp 25), none⟩,
    ⟨(some 27), .fieldAddr 0 (.tmp 26), none⟩,
    ⟨(some 28), .load none (.tmp 27), none⟩,
    ⟨(some 6), .mov (.tmp 28), none⟩])
  (.seq (.block 0
   (.loop p25_l0))
  (.ops 13 0 [⟨(some 68), .mov (.tmp 0), none⟩,
    ⟨(some 69), .mov (.tmp 6), none⟩,
    ⟨(some 70), .call (.func 35) [(.tmp 68), (.tmp 69)], none⟩]))))),
  71, []⟩
theorem c25 : compF Try.prog Q Try.f25 = some p25 := by kernel_rfl
theorem ht25 : HasText Try.prog 25 Try.f25 := ⟨Try.func25, rfl, by decide⟩
-- excise/seqtree.depth
def p26 : PF := ⟨(.seq (.ops 0 0 [⟨(some 2), .mov (.const (.int .i64 0)), none⟩])
  (.seq (.seq (.ops 1 0 [⟨(some 3), .mov (.tmp 0), none⟩,
    ⟨(some 4), .cmp false 55 (.tmp 3) (.const (.pointer none)), none⟩])
  (.cond (.tmp 4)
   (.seq (.ops 2 0 [⟨(some 2), .mov (.const (.int .i64 0)), none⟩])
   .ret)
   .skip))
  (.seq (.ops 3 0 [⟨(some 5), .mov (.tmp 0), none⟩,
    ⟨(some 6), .nilCheck (.tmp 5), none⟩,
    ⟨(some 7), .fieldAddr 3 (.tmp 6), none⟩,
    ⟨(some 8), .load none (.tmp 7), none⟩,
    ⟨(some 9), .call (.func 26) [(.tmp 8)], none⟩,
    ⟨(some 10), .mov (.tmp 0), none⟩,
    ⟨(some 11), .nilCheck (.tmp 10), none⟩,
    ⟨(some 12), .fieldAddr 4 (.tmp 11), none⟩,
    ⟨(some 13), .load none (.tmp 12), none⟩,
    ⟨(some 14), .call (.func 26) [(.tmp 13)], none⟩,
    ⟨(some 15), .max [(.tmp 9), (.tmp 14)], none⟩,
    ⟨(some 16), .bin .add (.const (.int .i64 1)) (.tmp 15), none⟩,
    ⟨(some 2), .mov (.tmp 16), none⟩])
  .ret))),
  17, [.tmp 2]⟩
theorem c26 : compF Try.prog Q Try.f26 = some p26 := by kernel_rfl
theorem ht26 : HasText Try.prog 26 Try.f26 := ⟨Try.func26, rfl, by decide⟩
-- excise/seqtree.size
def p27 : PF := ⟨(.seq (.ops 0 0 [⟨(some 2), .mov (.const (.int .i64 0)), none⟩])
  (.seq (.seq (.ops 1 0 [⟨(some 3), .mov (.tmp 0), none⟩,
    ⟨(some 4), .cmp false 55 (.tmp 3) (.const (.pointer none)), none⟩])
  (.cond (.tmp 4)
   (.seq (.ops 2 0 [⟨(some 2), .mov (.const (.int .i64 0)), none⟩])
   .ret)
   .skip))
  (.seq (.ops 3 0 [⟨(some 5), .mov (.tmp 0), none⟩,
    ⟨(some 6), .nilCheck (.tmp 5), none⟩,
    ⟨(some 7), .fieldAddr 1 (.tmp 6), none⟩,
    ⟨(some 8), .load none (.tmp 7), none⟩,
    ⟨(some 2), .mov (.tmp 8), none⟩])
  .ret))),
  9, [.tmp 2]⟩
theorem c27 : compF Try.prog Q Try.f27 = some p27 := by kernel_rfl
theorem ht27 : HasText Try.prog 27 Try.f27 := ⟨Try.func27, rfl, by decide⟩
-- (*excise/seqtree.Tree).place
def p28_l0 : PC := (.seq (.seq (.ops 3 0 [⟨(some 18), .mov (.tmp 1), none⟩,
      ⟨(some 19), .nilCheck (.tmp 18), none⟩,
      ⟨(some 20), .fieldAddr 2 (.tmp 19), none⟩,
      ⟨(some 21), .load none (.tmp 20), none⟩,
      ⟨(some 22), .cmp true 55 (.tmp 21) (.const (.pointer none)), none⟩])
    (.cond (.tmp 22)
     .skip
     (.exit 0)))
    (.seq (.block 1
     (.seq (.ops 5 0 [⟨(some 27), .mov (.tmp 0), none⟩,
       ⟨(some 28), .nilCheck (.tmp 27), none⟩,
       ⟨(some 29), .fieldAddr 2 (.tmp 28), none⟩,
       ⟨(some 30), .load none (.tmp 29), none⟩,
       ⟨(some 31), .bin .add (.tmp 30) (.const (.int .i64 1)), none⟩,
       ⟨(some 32), .nilCheck (.tmp 27), none⟩,
       ⟨(some 33), .fieldAddr 2 (.tmp 32), none⟩,
       ⟨none, .store 1 (.tmp 33) (.tmp 31), none⟩])
     (.seq (.ops 6 0 [⟨(some 34), .mov (.tmp 1), none⟩,
       ⟨(some 35), .nilCheck (.tmp 34), none⟩,
       ⟨(some 36), .fieldAddr 2 (.tmp 35), none⟩,
       ⟨(some 37), .load none (.tmp 36), none⟩,
       ⟨(some 38), .nilCheck (.tmp 37), none⟩,
       ⟨(some 39), .fieldAddr 4 (.tmp 38), none⟩,
       ⟨(some 40), .load none (.tmp 39), none⟩,
       ⟨(some 41), .mov (.tmp 1), none⟩,
       ⟨(some 42), .cmp false 55 (.tmp 40) (.tmp 41), none⟩])
     (.cond (.tmp 42)
      (.ops 7 0 [⟨(some 43), .mov (.tmp 5), none⟩,
        ⟨(some 44), .mov (.tmp 1), none⟩,
        ⟨(some 45), .nilCheck (.tmp 44), none⟩,
        ⟨(some 46), .fieldAddr 2 (.tmp 45), none⟩,
        ⟨(some 47), .load none (.tmp 46), none⟩,
        ⟨(some 48), .nilCheck (.tmp 47), none⟩,
        ⟨(some 49), .fieldAddr 3 (.tmp 48), none⟩,
        ⟨(some 50), .load none (.tmp 49), none⟩,
        ⟨(some 51), .call (.func 27) [(.tmp 50)], none⟩,
        ⟨(some 52), .bin .add (.tmp 51) (.const (.int .i64 1)), none⟩,
        ⟨(some 53), .bin .add (.tmp 43) (.tmp 52), none⟩,
        ⟨(some 5), .mov (.tmp 53), none⟩])
      .skip))))
    (.ops 4 0 [⟨(some 23), .mov (.tmp 1), none⟩,
      ⟨(some 24), .nilCheck (.tmp 23), none⟩,
      ⟨(some 25), .fieldAddr 2 (.tmp 24), none⟩,
      ⟨(some 26), .load none (.tmp 25), none⟩,
      ⟨(some 1), .mov (.tmp 26), none⟩])))
def p28 : PF := ⟨(.seq (.ops 0 0 [⟨(some 4), .mov (.const (.int .i64 0)), none⟩])
  (.seq (.ops 1 0 [⟨(some 6), .mov (.tmp 1), none⟩,
    ⟨(some 7), .nilCheck (.tmp 6), none⟩,
    ⟨(some 8), .fieldAddr 3 (.tmp 7), none⟩,
    ⟨(some 9), .load none (.tmp 8), none⟩,
    ⟨(some 10), .call (.func 27) [(.tmp 9)], none⟩,
    ⟨(some 5), .mov (.tmp 10), none⟩])
  (.seq (.ops 2 0 [⟨(some 11), .mov (.tmp 0), none⟩,
    ⟨(some 12), .nilCheck (.tmp 11), none⟩,
    ⟨(some 13), .fieldAddr 2 (.tmp 12), none⟩,
    ⟨(some 14), .load none (.tmp 13), none⟩,
    ⟨(some 15), .bin .add (.tmp 14) (.const (.int .i64 1)), none⟩,
    ⟨(some 16), .nilCheck (.tmp 11), none⟩,
    ⟨(some 17), .fieldAddr 2 (.tmp 16), none⟩,
    ⟨none, .store 1 (.tmp 17) (.tmp 15), none⟩])
  (.seq (.block 0
   (.loop p28_l0))
  (.seq (.ops 8 0 [⟨(some 54), .mov (.tmp 5), none⟩,
    ⟨(some 4), .mov (.tmp 54), none⟩])
  .ret))))),
  55, [.tmp 4]⟩
theorem c28 : compF Try.prog Q Try.f28 = some p28 := by kernel_rfl
theorem ht28 : HasText Try.prog 28 Try.f28 := ⟨Try.func28, rfl, by decide⟩
-- excise/seqtree.list
def p29 : PF := ⟨(.seq (.ops 0 0 [⟨(some 4), .mov (.const (.slice none 0 0)), none⟩])
  (.seq (.seq (.ops 1 0 [⟨(some 5), .mov (.tmp 0), none⟩,
    ⟨(some 6), .cmp false 55 (.tmp 5) (.const (.pointer none)), none⟩])
  (.cond (.tmp 6)
   (.seq (.ops 2 0 [⟨(some 7), .mov (.tmp 1), none⟩,
     ⟨(some 4), .mov (.tmp 7), none⟩])
   .ret)
   .skip))
  (.seq (.ops3 3 2 [(0, 0, ⟨(some 8), .mov (.tmp 0), none⟩),
    (1, 0, ⟨(some 9), .nilCheck (.tmp 8), none⟩),
    (2, 0, ⟨(some 10), .fieldAddr 4 (.tmp 9), none⟩),
    (3, 0, ⟨(some 11), .load none (.tmp 10), none⟩),
    (4, 0, ⟨(some 12), .mov (.tmp 0), none⟩),
    (5, 0, ⟨(some 13), .nilCheck (.tmp 12), none⟩),
    (6, 0, ⟨(some 14), .fieldAddr 3 (.tmp 13), none⟩),
    (7, 0, ⟨(some 15), .load none (.tmp 14), none⟩),
    (8, 0, ⟨(some 16), .mov (.tmp 1), none⟩),
    (10, 0, ⟨(some 18), .mov (.tmp 0), none⟩),
    (11, 0, ⟨(some 19), .nilCheck (.tmp 18), none⟩),
    (12, 0, ⟨(some 20), .fieldAddr 0 (.tmp 19), none⟩),
    (13, 0, ⟨(some 21), .load none (.tmp 20), none⟩),
    (14, 0, ⟨(some 22), .bslice 2 1 1 (.int .i64 0) [(0, (.tmp 21))], none⟩)] [(9, 0, ⟨(some 17), .call (.func 29) [(.tmp 15), (.tmp 16)], none⟩, [7, 8]),
    (15, 1, ⟨(some 23), .append 2 1 8 (.tmp 17) (.tmp 22), none⟩, [14]),
    (16, 2, ⟨(some 24), .call (.func 29) [(.tmp 11), (.tmp 23)], none⟩, [3]),
    (17, 2, ⟨(some 4), .mov (.tmp 24), none⟩, [0, 1, 2, 3, 4, 5, 6, 7, 8, 10, 11, 12, 13, 14])] [29, 29])
  .ret))),
  25, [.tmp 4]⟩
theorem c29 : compF Try.prog Q Try.f29 = some p29 := by kernel_rfl
theorem ht29 : HasText Try.prog 29 Try.f29 := ⟨Try.func29, rfl, by decide⟩
-- (*excise/seqtree.Tree).All$1
def p31_l0 : PC := (.seq (.seq (.ops 2 0 [⟨(some 22), .mov (.tmp 4), none⟩,
       ⟨(some 23), .nilCheck (.tmp 22), none⟩,
       ⟨(some 24), .fieldAddr 3 (.tmp 23), none⟩,
       ⟨(some 25), .load none (.tmp 24), none⟩,
       ⟨(some 26), .cmp true 55 (.tmp 25) (.const (.pointer none)), none⟩])
     (.cond (.tmp 26)
      .skip
      (.exit 0)))
     (.block 1
      (.seq (.ops 3 0 [⟨(some 27), .mov (.tmp 0), none⟩,
        ⟨(some 28), .nilCheck (.tmp 27), none⟩,
        ⟨(some 29), .fieldAddr 2 (.tmp 28), none⟩,
        ⟨(some 30), .load none (.tmp 29), none⟩,
        ⟨(some 31), .bin .add (.tmp 30) (.const (.int .i64 1)), none⟩,
        ⟨(some 32), .nilCheck (.tmp 27), none⟩,
        ⟨(some 33), .fieldAddr 2 (.tmp 32), none⟩,
        ⟨none, .store 1 (.tmp 33) (.tmp 31), none⟩])
      (.ops 4 0 [⟨(some 34), .mov (.tmp 4), none⟩,
        ⟨(some 35), .nilCheck (.tmp 34), none⟩,
        ⟨(some 36), .fieldAddr 3 (.tmp 35), none⟩,
        ⟨(some 37), .load none (.tmp 36), none⟩,
        ⟨(some 4), .mov (.tmp 37), none⟩]))))
def p31 : PF := ⟨(.seq (.seq (.ops 0 0 [⟨(some 6), .mov (.tmp 1), none⟩,
    ⟨(some 7), .nilCheck (.tmp 6), none⟩,
    ⟨(some 8), .fieldAddr 3 (.tmp 7), none⟩,
    ⟨(some 9), .load none (.tmp 8), none⟩,
    ⟨(some 10), .cmp true 55 (.tmp 9) (.const (.pointer none)), none⟩,
    ⟨(some 11), .mov (.tmp 10), none⟩,
    ⟨(some 12), .mov (.tmp 1), (some ((some 11), true))⟩,
    ⟨(some 13), .nilCheck (.tmp 12), (some ((some 11), true))⟩,
    ⟨(some 14), .fieldAddr 4 (.tmp 13), (some ((some 11), true))⟩,
    ⟨(some 15), .load none (.tmp 14), (some ((some 11), true))⟩,
    ⟨(some 16), .cmp true 55 (.tmp 15) (.const (.pointer none)), (some ((some 11), true))⟩,
    ⟨(some 17), .pick (.tmp 11) (.tmp 16) (.const (.bool false)), none⟩])
  (.cond (.tmp 17)
   (.seq (.ops 1 0 [⟨(some 18), .mov (.tmp 1), none⟩,
     ⟨(some 19), .nilCheck (.tmp 18), none⟩,
     ⟨(some 20), .fieldAddr 4 (.tmp 19), none⟩,
     ⟨(some 21), .load none (.tmp 20), none⟩,
     ⟨(some 4), .mov (.tmp 21), none⟩])
   (.seq (.block 0
    (.loop p31_l0))
   (.seq (.ops2 5 0 [] [⟨(some 38), .mov (.tmp 1), none⟩,
     ⟨(some 39), .mov (.tmp 4), none⟩,
     ⟨(some 40), .mov (.tmp 4), none⟩,
     ⟨(some 41), .nilCheck (.tmp 40), none⟩,
     ⟨(some 42), .fieldAddr 0 (.tmp 41), none⟩,
     ⟨(some 43), .load none (.tmp 42), none⟩,
     ⟨(some 44), .mov (.tmp 1), none⟩,
     ⟨(some 45), .nilCheck (.tmp 44), none⟩,
     ⟨(some 46), .fieldAddr 0 (.tmp 45), none⟩,
     ⟨(some 47), .load none (.tmp 46), none⟩,
     ⟨(some 48), .nilCheck (.tmp 38), none⟩,
     ⟨(some 49), .fieldAddr 0 (.tmp 48), none⟩,
     ⟨none, .store 1 (.tmp 49) (.tmp 43), none⟩,
     ⟨(some 50), .nilCheck (.tmp 39), none⟩,
     ⟨(some 51), .fieldAddr 0 (.tmp 50), none⟩,
     ⟨none, .store 1 (.tmp 51) (.tmp 47), none⟩] [])
   (.seq (.ops 6 0 [⟨(some 52), .mov (.tmp 0), none⟩,
     ⟨(some 53), .nilCheck (.tmp 52), none⟩,
     ⟨(some 54), .fieldAddr 1 (.tmp 53), none⟩,
     ⟨(some 55), .load none (.tmp 54), none⟩,
     ⟨(some 56), .mov (.tmp 1), none⟩,
     ⟨(some 57), .nilCheck (.tmp 56), none⟩,
     ⟨(some 58), .fieldAddr 0 (.tmp 57), none⟩,
     ⟨(some 59), .load none (.tmp 58), none⟩,
     ⟨(some 60), .mov (.tmp 1), none⟩,
     ⟨(some 61), .build [(.ptr none)] [((0, 1), (.tmp 60))], none⟩,
     ⟨none, .update 2 (.tmp 55) (.tmp 59) (.tmp 61), none⟩])
   (.ops 7 0 [⟨(some 62), .mov (.tmp 4), none⟩,
     ⟨(some 1), .mov (.tmp 62), none⟩])))))
   .skip))
  (.seq (.ops 8 0 [⟨(some 63), .mov (.tmp 1), none⟩,
    ⟨(some 64), .nilCheck (.tmp 63), none⟩,
    ⟨(some 65), .fieldAddr 3 (.tmp 64), none⟩,
    ⟨(some 66), .load none (.tmp 65), none⟩,
    ⟨(some 5), .mov (.tmp 66), none⟩])
  (.seq (.seq (.ops 9 0 [⟨(some 67), .mov (.tmp 5), none⟩,
    ⟨(some 68), .cmp false 55 (.tmp 67) (.const (.pointer none)), none⟩])
  (.cond (.tmp 68)
   (.ops 10 0 [⟨(some 69), .mov (.tmp 1), none⟩,
     ⟨(some 70), .nilCheck (.tmp 69), none⟩,
     ⟨(some 71), .fieldAddr 4 (.tmp 70), none⟩,
     ⟨(some 72), .load none (.tmp 71), none⟩,
     ⟨(some 5), .mov (.tmp 72), none⟩])
   .skip))
  (.seq (.ops 11 0 [⟨(some 73), .mov (.tmp 0), none⟩,
    ⟨(some 74), .nilCheck (.tmp 73), none⟩,
    ⟨(some 75), .fieldAddr 2 (.tmp 74), none⟩,
    ⟨(some 76), .load none (.tmp 75), none⟩,
    ⟨(some 77), .bin .add (.tmp 76) (.const (.int .i64 1)), none⟩,
    ⟨(some 78), .nilCheck (.tmp 73), none⟩,
    ⟨(some 79), .fieldAddr 2 (.tmp 78), none⟩,
    ⟨none, .store 1 (.tmp 79) (.tmp 77), none⟩])
  (.seq (.ops 12 0 [⟨(some 80), .mov (.tmp 0), none⟩,
    ⟨(some 81), .mov (.tmp 1), none⟩,
    ⟨(some 82), .mov (.tmp 5), none⟩,
    ⟨(some 83), .call (.func 36) [(.tmp 80), (.tmp 81), (.tmp 82)], none⟩])
  (.ops 13 0 [⟨(some 84), .mov (.tmp 0), none⟩,
    ⟨(some 85), .mov (.tmp 1), none⟩,
    ⟨(some 86), .nilCheck (.tmp 85), none⟩,
    ⟨(some 87), .fieldAddr 2 (.tmp 86), none⟩,
    ⟨(some 88), .load none (.tmp 87), none⟩,
    ⟨(some 89), .call (.func 35) [(.tmp 84), (.tmp 88)], none⟩])))))),
  90, []⟩
theorem c31 : compF Try.prog Q Try.f31 = some p31 := by kernel_rfl
theorem ht31 : HasText Try.prog 31 Try.f31 := ⟨Try.func31, rfl, by decide⟩
-- (*excise/exciseref04.List).Insert
def p32 : PF := ⟨(.seq (.ops 0 0 [⟨(some 6), .mov (.const (.int .i64 0)), none⟩])
  (.seq (.block 0
   (.seq (.ops 1 0 [⟨(some 8), .mov (.tmp 2), none⟩,
     ⟨(some 9), .bin .lss (.tmp 8) (.const (.int .i64 1)), none⟩,
     ⟨(some 10), .mov (.tmp 9), none⟩,
     ⟨(some 11), .mov (.tmp 2), (some ((some 10), false))⟩,
     ⟨(some 12), .bin .gtr (.tmp 11) (.const (.int .i64 9007199254740992)), (some ((some 10), false))⟩,
     ⟨(some 13), .pick (.tmp 10) (.const (.bool true)) (.tmp 12), none⟩,
     ⟨(some 7), .mov (.tmp 13), none⟩])
   (.cond (.tmp 7)
    (.seq (.ops 2 0 [⟨(some 6), .mov (.const (.int .i64 1)), none⟩])
    .ret)
    (.seq (.ops 3 0 [⟨(some 15), .mov (.tmp 0), none⟩,
      ⟨(some 16), .mov (.tmp 2), none⟩,
      ⟨(some 17), .call (.func 21) [(.tmp 15), (.tmp 16)], none⟩,
      ⟨(some 18), .bin .geq (.tmp 17) (.const (.int .i64 0)), none⟩,
      ⟨(some 14), .mov (.tmp 18), none⟩])
    (.cond (.tmp 14)
     (.seq (.ops 4 0 [⟨(some 6), .mov (.const (.int .i64 5)), none⟩])
     .ret)
     (.seq (.ops 5 0 [⟨(some 20), .mov (.tmp 0), none⟩,
       ⟨(some 21), .nilCheck (.tmp 20), none⟩,
       ⟨(some 22), .fieldAddr 0 (.tmp 21), none⟩,
       ⟨(some 23), .load none (.tmp 22), none⟩,
       ⟨(some 24), .lenL (.tmp 23), none⟩,
       ⟨(some 25), .bin .geq (.tmp 24) (.const (.int .i64 1024)), none⟩,
       ⟨(some 19), .mov (.tmp 25), none⟩])
     (.cond (.tmp 19)
      (.seq (.ops 6 0 [⟨(some 6), .mov (.const (.int .i64 6)), none⟩])
      .ret)
      (.seq (.ops 7 0 [⟨(some 27), .mov (.tmp 1), none⟩,
        ⟨(some 28), .bin .lss (.tmp 27) (.const (.int .i64 0)), none⟩,
        ⟨(some 29), .mov (.tmp 28), none⟩,
        ⟨(some 30), .mov (.tmp 1), (some ((some 29), false))⟩,
        ⟨(some 31), .mov (.tmp 0), (some ((some 29), false))⟩,
        ⟨(some 32), .nilCheck (.tmp 31), (some ((some 29), false))⟩,
        ⟨(some 33), .fieldAddr 0 (.tmp 32), (some ((some 29), false))⟩,
        ⟨(some 34), .load none (.tmp 33), (some ((some 29), false))⟩,
        ⟨(some 35), .lenL (.tmp 34), (some ((some 29), false))⟩,
        ⟨(some 36), .bin .gtr (.tmp 30) (.tmp 35), (some ((some 29), false))⟩,
        ⟨(some 37), .pick (.tmp 29) (.const (.bool true)) (.tmp 36), none⟩,
        ⟨(some 26), .mov (.tmp 37), none⟩])
      (.cond (.tmp 26)
       (.seq (.ops 8 0 [⟨(some 6), .mov (.const (.int .i64 1)), none⟩])
       .ret)
       .skip)))))))))
  (.seq (.ops 9 0 [⟨(some 38), .mov (.tmp 0), none⟩,
    ⟨(some 39), .mov (.tmp 1), none⟩,
    ⟨(some 40), .mov (.tmp 2), none⟩,
    ⟨(some 41), .call (.func 37) [(.tmp 38), (.tmp 39), (.tmp 40)], none⟩])
  (.seq (.ops 10 0 [⟨(some 6), .mov (.const (.int .i64 0)), none⟩])
  .ret)))),
  42, [.tmp 6]⟩
theorem c32 : compF Try.prog Q Try.f32 = some p32 := by kernel_rfl
theorem ht32 : HasText Try.prog 32 Try.f32 := ⟨Try.func32, rfl, by decide⟩
-- (*excise/exciseref04.List).Delete
def p33 : PF := ⟨(.seq (.ops 0 0 [⟨(some 4), .mov (.const (.int .i64 0)), none⟩,
    ⟨(some 5), .mov (.const (.int .i64 0)), none⟩])
  (.seq (.ops 1 0 [⟨(some 7), .mov (.tmp 0), none⟩,
    ⟨(some 8), .mov (.tmp 1), none⟩,
    ⟨(some 9), .call (.func 21) [(.tmp 7), (.tmp 8)], none⟩,
    ⟨(some 6), .mov (.tmp 9), none⟩])
  (.seq (.seq (.ops 2 0 [⟨(some 10), .mov (.tmp 6), none⟩,
    ⟨(some 11), .bin .lss (.tmp 10) (.const (.int .i64 0)), none⟩])
  (.cond (.tmp 11)
   (.seq (.ops 3 0 [⟨(some 4), .mov (.const (.int .i64 0)), none⟩,
     ⟨(some 5), .mov (.const (.int .i64 4)), none⟩])
   .ret)
   .skip))
  (.seq (.ops 4 0 [⟨(some 12), .mov (.tmp 0), none⟩,
    ⟨(some 13), .mov (.tmp 6), none⟩,
    ⟨(some 14), .call (.func 38) [(.tmp 12), (.tmp 13)], none⟩])
  (.seq (.ops 5 0 [⟨(some 15), .mov (.tmp 6), none⟩,
    ⟨(some 4), .mov (.tmp 15), none⟩,
    ⟨(some 5), .mov (.const (.int .i64 0)), none⟩])
  .ret))))),
  16, [.tmp 4, .tmp 5]⟩
theorem c33 : compF Try.prog Q Try.f33 = some p33 := by kernel_rfl
theorem ht33 : HasText Try.prog 33 Try.f33 := ⟨Try.func33, rfl, by decide⟩
-- (*excise/exciseref04.List).Move
def p34 : PF := ⟨(.seq (.ops 0 0 [⟨(some 6), .mov (.const (.int .i64 0)), none⟩,
    ⟨(some 7), .mov (.const (.int .i64 0)), none⟩])
  (.seq (.ops 1 0 [⟨(some 9), .mov (.tmp 0), none⟩,
    ⟨(some 10), .mov (.tmp 1), none⟩,
    ⟨(some 11), .call (.func 21) [(.tmp 9), (.tmp 10)], none⟩,
    ⟨(some 8), .mov (.tmp 11), none⟩])
  (.seq (.seq (.ops 2 0 [⟨(some 12), .mov (.tmp 8), none⟩,
    ⟨(some 13), .bin .lss (.tmp 12) (.const (.int .i64 0)), none⟩])
  (.cond (.tmp 13)
   (.seq (.ops 3 0 [⟨(some 6), .mov (.const (.int .i64 0)), none⟩,
     ⟨(some 7), .mov (.const (.int .i64 4)), none⟩])
   .ret)
   .skip))
  (.seq (.seq (.ops 4 0 [⟨(some 14), .mov (.tmp 2), none⟩,
    ⟨(some 15), .bin .lss (.tmp 14) (.const (.int .i64 0)), none⟩,
    ⟨(some 16), .mov (.tmp 15), none⟩,
    ⟨(some 17), .mov (.tmp 2), (some ((some 16), false))⟩,
    ⟨(some 18), .mov (.tmp 0), (some ((some 16), false))⟩,
    ⟨(some 19), .nilCheck (.tmp 18), (some ((some 16), false))⟩,
    ⟨(some 20), .fieldAddr 0 (.tmp 19), (some ((some 16), false))⟩,
    ⟨(some 21), .load none (.tmp 20), (some ((some 16), false))⟩,
    ⟨(some 22), .lenL (.tmp 21), (some ((some 16), false))⟩,
    ⟨(some 23), .bin .geq (.tmp 17) (.tmp 22), (some ((some 16), false))⟩,
    ⟨(some 24), .pick (.tmp 16) (.const (.bool true)) (.tmp 23), none⟩])
  (.cond (.tmp 24)
   (.seq (.ops 5 0 [⟨(some 6), .mov (.const (.int .i64 0)), none⟩,
     ⟨(some 7), .mov (.const (.int .i64 1)), none⟩])
   .ret)
   .skip))
  (.seq (.ops 6 0 [⟨(some 25), .mov (.tmp 0), none⟩,
    ⟨(some 26), .mov (.tmp 8), none⟩,
    ⟨(some 27), .call (.func 38) [(.tmp 25), (.tmp 26)], none⟩])
  (.seq (.ops 7 0 [⟨(some 28), .mov (.tmp 0), none⟩,
    ⟨(some 29), .mov (.tmp 2), none⟩,
    ⟨(some 30), .mov (.tmp 1), none⟩,
    ⟨(some 31), .call (.func 37) [(.tmp 28), (.tmp 29), (.tmp 30)], none⟩])
  (.seq (.ops 8 0 [⟨(some 32), .mov (.tmp 8), none⟩,
    ⟨(some 6), .mov (.tmp 32), none⟩,
    ⟨(some 7), .mov (.const (.int .i64 0)), none⟩])
  .ret))))))),
  33, [.tmp 6, .tmp 7]⟩
theorem c34 : compF Try.prog Q Try.f34 = some p34 := by kernel_rfl
theorem ht34 : HasText Try.prog 34 Try.f34 := ⟨Try.func34, rfl, by decide⟩
-- (*excise/seqtree.Tree).mend
def p35_l0 : PC := (.seq (.seq (.ops 0 0 [⟨(some 4), .mov (.tmp 1), none⟩,
      ⟨(some 5), .cmp true 55 (.tmp 4) (.const (.pointer none)), none⟩])
    (.cond (.tmp 5)
     .skip
     (.exit 0)))
    (.seq (.block 1
     (.seq (.ops 2 0 [⟨(some 10), .mov (.tmp 0), none⟩,
       ⟨(some 11), .nilCheck (.tmp 10), none⟩,
       ⟨(some 12), .fieldAddr 2 (.tmp 11), none⟩,
       ⟨(some 13), .load none (.tmp 12), none⟩,
       ⟨(some 14), .bin .add (.tmp 13) (.const (.int .i64 1)), none⟩,
       ⟨(some 15), .nilCheck (.tmp 10), none⟩,
       ⟨(some 16), .fieldAddr 2 (.tmp 15), none⟩,
       ⟨none, .store 1 (.tmp 16) (.tmp 14), none⟩])
     (.seq (.ops 3 0 [⟨(some 17), .mov (.tmp 1), none⟩,
       ⟨(some 18), .mov (.tmp 1), none⟩,
       ⟨(some 19), .nilCheck (.tmp 18), none⟩,
       ⟨(some 20), .fieldAddr 3 (.tmp 19), none⟩,
       ⟨(some 21), .load none (.tmp 20), none⟩,
       ⟨(some 22), .call (.func 27) [(.tmp 21)], none⟩,
       ⟨(some 23), .mov (.tmp 1), none⟩,
       ⟨(some 24), .nilCheck (.tmp 23), none⟩,
       ⟨(some 25), .fieldAddr 4 (.tmp 24), none⟩,
       ⟨(some 26), .load none (.tmp 25), none⟩,
       ⟨(some 27), .call (.func 27) [(.tmp 26)], none⟩,
       ⟨(some 28), .bin .add (.tmp 22) (.tmp 27), none⟩,
       ⟨(some 29), .bin .add (.tmp 28) (.const (.int .i64 1)), none⟩,
       ⟨(some 30), .nilCheck (.tmp 17), none⟩,
       ⟨(some 31), .fieldAddr 1 (.tmp 30), none⟩,
       ⟨none, .store 1 (.tmp 31) (.tmp 29), none⟩])
     (.ops 4 0 [⟨(some 32), .mov (.tmp 0), none⟩,
       ⟨(some 33), .mov (.tmp 1), none⟩,
       ⟨(some 34), .call (.func 39) [(.tmp 32), (.tmp 33)], none⟩,
       ⟨(some 1), .mov (.tmp 34), none⟩]))))
    (.ops 1 0 [⟨(some 6), .mov (.tmp 1), none⟩,
      ⟨(some 7), .nilCheck (.tmp 6), none⟩,
      ⟨(some 8), .fieldAddr 2 (.tmp 7), none⟩,
      ⟨(some 9), .load none (.tmp 8), none⟩,
      ⟨(some 1), .mov (.tmp 9), none⟩])))
def p35 : PF := ⟨(.block 0
   (.loop p35_l0)),
  35, []⟩
theorem c35 : compF Try.prog Q Try.f35 = some p35 := by kernel_rfl
theorem ht35 : HasText Try.prog 35 Try.f35 := ⟨Try.func35, rfl, by decide⟩
-- (*excise/seqtree.Tree).replaces
def p36 : PF := ⟨(.seq (.ops 0 0 [⟨(some 7), .mov (.tmp 1), none⟩,
    ⟨(some 8), .nilCheck (.tmp 7), none⟩,
    ⟨(some 9), .fieldAddr 2 (.tmp 8), none⟩,
    ⟨(some 10), .load none (.tmp 9), none⟩,
    ⟨(some 6), .mov (.tmp 10), none⟩])
  (.seq (.block 0
   (.seq (.ops 2 0 [⟨(some 16), .mov (.tmp 6), none⟩,
     ⟨(some 17), .cmp false 55 (.tmp 16) (.const (.pointer none)), none⟩,
     ⟨(some 15), .mov (.tmp 17), none⟩])
   (.cond (.tmp 15)
    (.ops 3 0 [⟨(some 18), .mov (.tmp 0), none⟩,
      ⟨(some 19), .mov (.tmp 2), none⟩,
      ⟨(some 20), .nilCheck (.tmp 18), none⟩,
      ⟨(some 21), .fieldAddr 0 (.tmp 20), none⟩,
      ⟨none, .store 1 (.tmp 21) (.tmp 19), none⟩])
    (.seq (.ops 4 0 [⟨(some 23), .mov (.tmp 6), none⟩,
      ⟨(some 24), .nilCheck (.tmp 23), none⟩,
      ⟨(some 25), .fieldAddr 3 (.tmp 24), none⟩,
      ⟨(some 26), .load none (.tmp 25), none⟩,
      ⟨(some 27), .mov (.tmp 1), none⟩,
      ⟨(some 28), .cmp false 55 (.tmp 26) (.tmp 27), none⟩,
      ⟨(some 22), .mov (.tmp 28), none⟩])
    (.cond (.tmp 22)
     (.ops 5 0 [⟨(some 29), .mov (.tmp 6), none⟩,
       ⟨(some 30), .mov (.tmp 2), none⟩,
       ⟨(some 31), .nilCheck (.tmp 29), none⟩,
       ⟨(some 32), .fieldAddr 3 (.tmp 31), none⟩,
       ⟨none, .store 1 (.tmp 32) (.tmp 30), none⟩])
     (.ops 1 0 [⟨(some 11), .mov (.tmp 6), none⟩,
       ⟨(some 12), .mov (.tmp 2), none⟩,
       ⟨(some 13), .nilCheck (.tmp 11), none⟩,
       ⟨(some 14), .fieldAddr 4 (.tmp 13), none⟩,
       ⟨none, .store 1 (.tmp 14) (.tmp 12), none⟩]))))))
  (.seq (.ops 6 0 [⟨(some 33), .mov (.tmp 2), none⟩,
    ⟨(some 34), .cmp true 55 (.tmp 33) (.const (.pointer none)), none⟩])
  (.cond (.tmp 34)
   (.ops 7 0 [⟨(some 35), .mov (.tmp 2), none⟩,
     ⟨(some 36), .mov (.tmp 6), none⟩,
     ⟨(some 37), .nilCheck (.tmp 35), none⟩,
     ⟨(some 38), .fieldAddr 2 (.tmp 37), none⟩,
     ⟨none, .store 1 (.tmp 38) (.tmp 36), none⟩])
   .skip)))),
  39, []⟩
theorem c36 : compF Try.prog Q Try.f36 = some p36 := by kernel_rfl
theorem ht36 : HasText Try.prog 36 Try.f36 := ⟨Try.func36, rfl, by decide⟩
-- (*excise/exciseref04.List).cut
def p38 : PF := ⟨(.seq (.ops 0 1 [⟨(some 5), .mov (.tmp 0), none⟩,
    ⟨(some 6), .nilCheck (.tmp 5), none⟩,
    ⟨(some 7), .fieldAddr 0 (.tmp 6), none⟩,
    ⟨(some 8), .load none (.tmp 7), none⟩,
    ⟨(some 9), .mov (.tmp 1), none⟩,
    ⟨(some 10), .sliceL 1 (.tmp 8) none (some (.tmp 9)), none⟩,
    ⟨(some 11), .append 2 1 8 (.const (.slice none 0 0)) (.tmp 10), none⟩,
    ⟨(some 4), .mov (.tmp 11), none⟩])
  (.ops 1 1 [⟨(some 12), .mov (.tmp 0), none⟩,
    ⟨(some 13), .mov (.tmp 4), none⟩,
    ⟨(some 14), .mov (.tmp 0), none⟩,
    ⟨(some 15), .nilCheck (.tmp 14), none⟩,
    ⟨(some 16), .fieldAddr 0 (.tmp 15), none⟩,
    ⟨(some 17), .load none (.tmp 16), none⟩,
    ⟨(some 18), .mov (.tmp 1), none⟩,
    ⟨(some 19), .bin .add (.tmp 18) (.const (.int .i64 1)), none⟩,
    ⟨(some 20), .sliceL 1 (.tmp 17) (some (.tmp 19)) none, none⟩,
    ⟨(some 21), .append 2 1 8 (.tmp 13) (.tmp 20), none⟩,
    ⟨(some 22), .nilCheck (.tmp 12), none⟩,
    ⟨(some 23), .fieldAddr 0 (.tmp 22), none⟩,
    ⟨none, .store 1 (.tmp 23) (.tmp 21), none⟩])),
  24, []⟩
theorem c38 : compF Try.prog Q Try.f38 = some p38 := by kernel_rfl
theorem ht38 : HasText Try.prog 38 Try.f38 := ⟨Try.func38, rfl, by decide⟩
-- (*excise/seqtree.Tree).balance
def p39 : PF := ⟨(.seq (.ops 0 0 [⟨(some 4), .mov (.const (.pointer none)), none⟩])
  (.seq (.block 0
   (.seq (.ops 1 0 [⟨(some 6), .mov (.tmp 1), none⟩,
     ⟨(some 7), .nilCheck (.tmp 6), none⟩,
     ⟨(some 8), .fieldAddr 4 (.tmp 7), none⟩,
     ⟨(some 9), .load none (.tmp 8), none⟩,
     ⟨(some 10), .call (.func 40) [(.tmp 9)], none⟩,
     ⟨(some 11), .mov (.tmp 1), none⟩,
     ⟨(some 12), .nilCheck (.tmp 11), none⟩,
     ⟨(some 13), .fieldAddr 3 (.tmp 12), none⟩,
     ⟨(some 14), .load none (.tmp 13), none⟩,
     ⟨(some 15), .call (.func 40) [(.tmp 14)], none⟩,
     ⟨(some 16), .bin .mul (.const (.int .i64 3)) (.tmp 15), none⟩,
     ⟨(some 17), .bin .gtr (.tmp 10) (.tmp 16), none⟩,
     ⟨(some 5), .mov (.tmp 17), none⟩])
   (.cond (.tmp 5)
    (.seq (.seq (.ops 2 0 [⟨(some 18), .mov (.tmp 1), none⟩,
      ⟨(some 19), .nilCheck (.tmp 18), none⟩,
      ⟨(some 20), .fieldAddr 4 (.tmp 19), none⟩,
      ⟨(some 21), .load none (.tmp 20), none⟩,
      ⟨(some 22), .nilCheck (.tmp 21), none⟩,
      ⟨(some 23), .fieldAddr 3 (.tmp 22), none⟩,
      ⟨(some 24), .load none (.tmp 23), none⟩,
      ⟨(some 25), .call (.func 40) [(.tmp 24)], none⟩,
      ⟨(some 26), .mov (.tmp 1), none⟩,
      ⟨(some 27), .nilCheck (.tmp 26), none⟩,
      ⟨(some 28), .fieldAddr 4 (.tmp 27), none⟩,
      ⟨(some 29), .load none (.tmp 28), none⟩,
      ⟨(some 30), .nilCheck (.tmp 29), none⟩,
      ⟨(some 31), .fieldAddr 4 (.tmp 30), none⟩,
      ⟨(some 32), .load none (.tmp 31), none⟩,
      ⟨(some 33), .call (.func 40) [(.tmp 32)], none⟩,
      ⟨(some 34), .bin .mul (.const (.int .i64 2)) (.tmp 33), none⟩,
      ⟨(some 35), .bin .geq (.tmp 25) (.tmp 34), none⟩])
    (.cond (.tmp 35)
     (.ops 3 0 [⟨(some 36), .mov (.tmp 0), none⟩,
       ⟨(some 37), .mov (.tmp 1), none⟩,
       ⟨(some 38), .nilCheck (.tmp 37), none⟩,
       ⟨(some 39), .fieldAddr 4 (.tmp 38), none⟩,
       ⟨(some 40), .load none (.tmp 39), none⟩,
       ⟨(some 41), .call (.func 41) [(.tmp 36), (.tmp 40)], none⟩])
     .skip))
    (.seq (.ops 4 0 [⟨(some 42), .mov (.tmp 0), none⟩,
      ⟨(some 43), .mov (.tmp 1), none⟩,
      ⟨(some 44), .call (.func 42) [(.tmp 42), (.tmp 43)], none⟩,
      ⟨(some 4), .mov (.tmp 44), none⟩])
    .ret))
    (.seq (.ops 5 0 [⟨(some 46), .mov (.tmp 1), none⟩,
      ⟨(some 47), .nilCheck (.tmp 46), none⟩,
      ⟨(some 48), .fieldAddr 3 (.tmp 47), none⟩,
      ⟨(some 49), .load none (.tmp 48), none⟩,
      ⟨(some 50), .call (.func 40) [(.tmp 49)], none⟩,
      ⟨(some 51), .mov (.tmp 1), none⟩,
      ⟨(some 52), .nilCheck (.tmp 51), none⟩,
      ⟨(some 53), .fieldAddr 4 (.tmp 52), none⟩,
      ⟨(some 54), .load none (.tmp 53), none⟩,
      ⟨(some 55), .call (.func 40) [(.tmp 54)], none⟩,
      ⟨(some 56), .bin .mul (.const (.int .i64 3)) (.tmp 55), none⟩,
      ⟨(some 57), .bin .gtr (.tmp 50) (.tmp 56), none⟩,
      ⟨(some 45), .mov (.tmp 57), none⟩])
    (.cond (.tmp 45)
     (.seq (.seq (.ops 6 0 [⟨(some 58), .mov (.tmp 1), none⟩,
       ⟨(some 59), .nilCheck (.tmp 58), none⟩,
       ⟨(some 60), .fieldAddr 3 (.tmp 59), none⟩,
       ⟨(some 61), .load none (.tmp 60), none⟩,
       ⟨(some 62), .nilCheck (.tmp 61), none⟩,
       ⟨(some 63), .fieldAddr 4 (.tmp 62), none⟩,
       ⟨(some 64), .load none (.tmp 63), none⟩,
       ⟨(some 65), .call (.func 40) [(.tmp 64)], none⟩,
       ⟨(some 66), .mov (.tmp 1), none⟩,
       ⟨(some 67), .nilCheck (.tmp 66), none⟩,
       ⟨(some 68), .fieldAddr 3 (.tmp 67), none⟩,
       ⟨(some 69), .load none (.tmp 68), none⟩,
       ⟨(some 70), .nilCheck (.tmp 69), none⟩,
       ⟨(some 71), .fieldAddr 3 (.tmp 70), none⟩,
       ⟨(some 72), .load none (.tmp 71), none⟩,
       ⟨(some 73), .call (.func 40) [(.tmp 72)], none⟩,
       ⟨(some 74), .bin .mul (.const (.int .i64 2)) (.tmp 73), none⟩,
       ⟨(some 75), .bin .geq (.tmp 65) (.tmp 74), none⟩])
     (.cond (.tmp 75)
      (.ops 7 0 [⟨(some 76), .mov (.tmp 0), none⟩,
        ⟨(some 77), .mov (.tmp 1), none⟩,
        ⟨(some 78), .nilCheck (.tmp 77), none⟩,
        ⟨(some 79), .fieldAddr 3 (.tmp 78), none⟩,
        ⟨(some 80), .load none (.tmp 79), none⟩,
        ⟨(some 81), .call (.func 42) [(.tmp 76), (.tmp 80)], none⟩])
      .skip))
     (.seq (.ops 8 0 [⟨(some 82), .mov (.tmp 0), none⟩,
       ⟨(some 83), .mov (.tmp 1), none⟩,
       ⟨(some 84), .call (.func 41) [(.tmp 82), (.tmp 83)], none⟩,
       ⟨(some 4), .mov (.tmp 84), none⟩])
     .ret))
     .skip)))))
  (.seq (.ops 9 0 [⟨(some 85), .mov (.tmp 1), none⟩,
    ⟨(some 4), .mov (.tmp 85), none⟩])
  .ret))),
  86, [.tmp 4]⟩
theorem c39 : compF Try.prog Q Try.f39 = some p39 := by kernel_rfl
theorem ht39 : HasText Try.prog 39 Try.f39 := ⟨Try.func39, rfl, by decide⟩
-- excise/seqtree.weight
def p40 : PF := ⟨(.seq (.ops 0 0 [⟨(some 2), .mov (.const (.int .i64 0)), none⟩])
  (.seq (.ops 1 0 [⟨(some 3), .mov (.tmp 0), none⟩,
    ⟨(some 4), .call (.func 27) [(.tmp 3)], none⟩,
    ⟨(some 5), .bin .add (.tmp 4) (.const (.int .i64 1)), none⟩,
    ⟨(some 2), .mov (.tmp 5), none⟩])
  .ret)),
  6, [.tmp 2]⟩
theorem c40 : compF Try.prog Q Try.f40 = some p40 := by kernel_rfl
theorem ht40 : HasText Try.prog 40 Try.f40 := ⟨Try.func40, rfl, by decide⟩
-- (*excise/seqtree.Tree).toRight
def p41 : PF := ⟨(.seq (.ops 0 0 [⟨(some 4), .mov (.const (.pointer none)), none⟩])
  (.seq (.ops 1 0 [⟨(some 6), .mov (.tmp 1), none⟩,
    ⟨(some 7), .nilCheck (.tmp 6), none⟩,
    ⟨(some 8), .fieldAddr 3 (.tmp 7), none⟩,
    ⟨(some 9), .load none (.tmp 8), none⟩,
    ⟨(some 5), .mov (.tmp 9), none⟩])
  (.seq (.ops 2 0 [⟨(some 10), .mov (.tmp 0), none⟩,
    ⟨(some 11), .mov (.tmp 1), none⟩,
    ⟨(some 12), .mov (.tmp 5), none⟩,
    ⟨(some 13), .call (.func 36) [(.tmp 10), (.tmp 11), (.tmp 12)], none⟩])
  (.seq (.ops 3 0 [⟨(some 14), .mov (.tmp 1), none⟩,
    ⟨(some 15), .mov (.tmp 5), none⟩,
    ⟨(some 16), .nilCheck (.tmp 15), none⟩,
    ⟨(some 17), .fieldAddr 4 (.tmp 16), none⟩,
    ⟨(some 18), .load none (.tmp 17), none⟩,
    ⟨(some 19), .mov (.tmp 1), none⟩,
    ⟨(some 20), .nilCheck (.tmp 19), none⟩,
    ⟨(some 21), .fieldAddr 4 (.tmp 20), none⟩,
    ⟨(some 22), .load none (.tmp 21), none⟩,
    ⟨(some 23), .call (.func 43) [(.tmp 14), (.tmp 18), (.tmp 22)], none⟩])
  (.seq (.ops 4 0 [⟨(some 24), .mov (.tmp 5), none⟩,
    ⟨(some 25), .mov (.tmp 5), none⟩,
    ⟨(some 26), .nilCheck (.tmp 25), none⟩,
    ⟨(some 27), .fieldAddr 3 (.tmp 26), none⟩,
    ⟨(some 28), .load none (.tmp 27), none⟩,
    ⟨(some 29), .mov (.tmp 1), none⟩,
    ⟨(some 30), .call (.func 43) [(.tmp 24), (.tmp 28), (.tmp 29)], none⟩])
  (.seq (.ops 5 0 [⟨(some 31), .mov (.tmp 0), none⟩,
    ⟨(some 32), .nilCheck (.tmp 31), none⟩,
    ⟨(some 33), .fieldAddr 2 (.tmp 32), none⟩,
    ⟨(some 34), .load none (.tmp 33), none⟩,
    ⟨(some 35), .bin .add (.tmp 34) (.const (.int .i64 3)), none⟩,
    ⟨(some 36), .nilCheck (.tmp 31), none⟩,
    ⟨(some 37), .fieldAddr 2 (.tmp 36), none⟩,
    ⟨none, .store 1 (.tmp 37) (.tmp 35), none⟩])
  (.seq (.ops 6 0 [⟨(some 38), .mov (.tmp 5), none⟩,
    ⟨(some 4), .mov (.tmp 38), none⟩])
  .ret))))))),
  39, [.tmp 4]⟩
theorem c41 : compF Try.prog Q Try.f41 = some p41 := by kernel_rfl
theorem ht41 : HasText Try.prog 41 Try.f41 := ⟨Try.func41, rfl, by decide⟩
-- (*excise/seqtree.Tree).toLeft
def p42 : PF := ⟨(.seq (.ops 0 0 [⟨(some 4), .mov (.const (.pointer none)), none⟩])
  (.seq (.ops 1 0 [⟨(some 6), .mov (.tmp 1), none⟩,
    ⟨(some 7), .nilCheck (.tmp 6), none⟩,
    ⟨(some 8), .fieldAddr 4 (.tmp 7), none⟩,
    ⟨(some 9), .load none (.tmp 8), none⟩,
    ⟨(some 5), .mov (.tmp 9), none⟩])
  (.seq (.ops 2 0 [⟨(some 10), .mov (.tmp 0), none⟩,
    ⟨(some 11), .mov (.tmp 1), none⟩,
    ⟨(some 12), .mov (.tmp 5), none⟩,
    ⟨(some 13), .call (.func 36) [(.tmp 10), (.tmp 11), (.tmp 12)], none⟩])
  (.seq (.ops 3 0 [⟨(some 14), .mov (.tmp 1), none⟩,
    ⟨(some 15), .mov (.tmp 1), none⟩,
    ⟨(some 16), .nilCheck (.tmp 15), none⟩,
    ⟨(some 17), .fieldAddr 3 (.tmp 16), none⟩,
    ⟨(some 18), .load none (.tmp 17), none⟩,
    ⟨(some 19), .mov (.tmp 5), none⟩,
    ⟨(some 20), .nilCheck (.tmp 19), none⟩,
    ⟨(some 21), .fieldAddr 3 (.tmp 20), none⟩,
    ⟨(some 22), .load none (.tmp 21), none⟩,
    ⟨(some 23), .call (.func 43) [(.tmp 14), (.tmp 18), (.tmp 22)], none⟩])
  (.seq (.ops 4 0 [⟨(some 24), .mov (.tmp 5), none⟩,
    ⟨(some 25), .mov (.tmp 1), none⟩,
    ⟨(some 26), .mov (.tmp 5), none⟩,
    ⟨(some 27), .nilCheck (.tmp 26), none⟩,
    ⟨(some 28), .fieldAddr 4 (.tmp 27), none⟩,
    ⟨(some 29), .load none (.tmp 28), none⟩,
    ⟨(some 30), .call (.func 43) [(.tmp 24), (.tmp 25), (.tmp 29)], none⟩])
  (.seq (.ops 5 0 [⟨(some 31), .mov (.tmp 0), none⟩,
    ⟨(some 32), .nilCheck (.tmp 31), none⟩,
    ⟨(some 33), .fieldAddr 2 (.tmp 32), none⟩,
    ⟨(some 34), .load none (.tmp 33), none⟩,
    ⟨(some 35), .bin .add (.tmp 34) (.const (.int .i64 3)), none⟩,
    ⟨(some 36), .nilCheck (.tmp 31), none⟩,
    ⟨(some 37), .fieldAddr 2 (.tmp 36), none⟩,
    ⟨none, .store 1 (.tmp 37) (.tmp 35), none⟩])
  (.seq (.ops 6 0 [⟨(some 38), .mov (.tmp 5), none⟩,
    ⟨(some 4), .mov (.tmp 38), none⟩])
  .ret))))))),
  39, [.tmp 4]⟩
theorem c42 : compF Try.prog Q Try.f42 = some p42 := by kernel_rfl
theorem ht42 : HasText Try.prog 42 Try.f42 := ⟨Try.func42, rfl, by decide⟩
-- excise/seqtree.joins
def p43 : PF := ⟨(.seq (.ops 0 0 [⟨(some 6), .mov (.tmp 0), none⟩,
    ⟨(some 7), .mov (.tmp 0), none⟩,
    ⟨(some 8), .mov (.tmp 1), none⟩,
    ⟨(some 9), .mov (.tmp 2), none⟩,
    ⟨(some 10), .nilCheck (.tmp 6), none⟩,
    ⟨(some 11), .fieldAddr 3 (.tmp 10), none⟩,
    ⟨none, .store 1 (.tmp 11) (.tmp 8), none⟩,
    ⟨(some 12), .nilCheck (.tmp 7), none⟩,
    ⟨(some 13), .fieldAddr 4 (.tmp 12), none⟩,
    ⟨none, .store 1 (.tmp 13) (.tmp 9), none⟩])
  (.seq (.ops 1 0 [⟨(some 14), .mov (.tmp 0), none⟩,
    ⟨(some 15), .mov (.tmp 1), none⟩,
    ⟨(some 16), .call (.func 27) [(.tmp 15)], none⟩,
    ⟨(some 17), .mov (.tmp 2), none⟩,
    ⟨(some 18), .call (.func 27) [(.tmp 17)], none⟩,
    ⟨(some 19), .bin .add (.tmp 16) (.tmp 18), none⟩,
    ⟨(some 20), .bin .add (.tmp 19) (.const (.int .i64 1)), none⟩,
    ⟨(some 21), .nilCheck (.tmp 14), none⟩,
    ⟨(some 22), .fieldAddr 1 (.tmp 21), none⟩,
    ⟨none, .store 1 (.tmp 22) (.tmp 20), none⟩])
  (.seq (.seq (.ops 2 0 [⟨(some 23), .mov (.tmp 1), none⟩,
    ⟨(some 24), .cmp true 55 (.tmp 23) (.const (.pointer none)), none⟩])
  (.cond (.tmp 24)
   (.ops 3 0 [⟨(some 25), .mov (.tmp 1), none⟩,
     ⟨(some 26), .mov (.tmp 0), none⟩,
     ⟨(some 27), .nilCheck (.tmp 25), none⟩,
     ⟨(some 28), .fieldAddr 2 (.tmp 27), none⟩,
     ⟨none, .store 1 (.tmp 28) (.tmp 26), none⟩])
   .skip))
  (.seq (.ops 4 0 [⟨(some 29), .mov (.tmp 2), none⟩,
    ⟨(some 30), .cmp true 55 (.tmp 29) (.const (.pointer none)), none⟩])
  (.cond (.tmp 30)
   (.ops 5 0 [⟨(some 31), .mov (.tmp 2), none⟩,
     ⟨(some 32), .mov (.tmp 0), none⟩,
     ⟨(some 33), .nilCheck (.tmp 31), none⟩,
     ⟨(some 34), .fieldAddr 2 (.tmp 33), none⟩,
     ⟨none, .store 1 (.tmp 34) (.tmp 32), none⟩])
   .skip))))),
  35, []⟩
theorem c43 : compF Try.prog Q Try.f43 = some p43 := by kernel_rfl
theorem ht43 : HasText Try.prog 43 Try.f43 := ⟨Try.func43, rfl, by decide⟩
-- excise/exciselaw04.step
def p19 : PF := ⟨(.seq (.ops 0 1 [⟨(some 5), .box 38 (.tmp 2), none⟩,
    ⟨(some 6), .mov (.const (.pointer none)), none⟩,
    ⟨(some 7), .mov (.const (.bool false)), none⟩])
  (.seq (.seq (.ops 1 0 [⟨(some 17), .fieldAddr 0 (.tmp 5), none⟩,
    ⟨(some 18), .load none (.tmp 17), none⟩])
  (.block 0
   (.seq (.ops 2 0 [⟨(some 20), .bin .eql (.tmp 18) (.const (.int .i64 0)), none⟩,
     ⟨(some 19), .mov (.tmp 20), none⟩])
   (.cond (.tmp 19)
    (.seq (.ops3 3 0 [(0, 0, ⟨(some 21), .mov (.tmp 0), none⟩),
      (1, 0, ⟨(some 22), .mov (.tmp 0), none⟩),
      (2, 0, ⟨(some 23), .fieldAddr 1 (.tmp 5), none⟩),
      (3, 0, ⟨(some 24), .load none (.tmp 23), none⟩),
      (4, 0, ⟨(some 25), .fieldAddr 2 (.tmp 5), none⟩),
      (5, 0, ⟨(some 26), .load none (.tmp 25), none⟩),
      (7, 0, ⟨(some 28), .mov (.tmp 1), none⟩),
      (8, 0, ⟨(some 29), .fieldAddr 1 (.tmp 5), none⟩),
      (9, 0, ⟨(some 30), .load none (.tmp 29), none⟩),
      (10, 0, ⟨(some 31), .fieldAddr 2 (.tmp 5), none⟩),
      (11, 0, ⟨(some 32), .load none (.tmp 31), none⟩)] [(6, 0, ⟨(some 27), .call (.func 9) [(.tmp 22), (.tmp 24), (.tmp 26)], none⟩, [1, 3, 5]),
      (12, 0, ⟨(some 33), .call (.func 32) [(.tmp 28), (.tmp 30), (.tmp 32)], none⟩, [7, 9, 11]),
      (13, 0, ⟨(some 34), .bin .eql (.tmp 27) (.tmp 33), none⟩, []),
      (14, 0, ⟨(some 6), .mov (.tmp 21), none⟩, [0]),
      (15, 0, ⟨(some 7), .mov (.tmp 34), none⟩, [0, 1, 2, 3, 4, 5, 7, 8, 9, 10, 11])] [])
    .ret)
    (.seq (.ops 4 0 [⟨(some 36), .bin .eql (.tmp 18) (.const (.int .i64 1)), none⟩,
      ⟨(some 35), .mov (.tmp 36), none⟩])
    (.cond (.tmp 35)
     (.seq (.ops 5 0 [⟨(some 38), .mov (.tmp 0), none⟩,
       ⟨(some 39), .fieldAddr 2 (.tmp 5), none⟩,
       ⟨(some 40), .load none (.tmp 39), none⟩,
       ⟨(some 41), .call (.func 16) [(.tmp 38), (.tmp 40)], none⟩,
       ⟨(some 37), .mov (.tmp 41), none⟩,
       ⟨(some 42), .extract (.tmp 37) 0, none⟩,
       ⟨(some 43), .extract (.tmp 37) 1, none⟩,
       ⟨(some 8), .mov (.tmp 42), none⟩,
       ⟨(some 9), .mov (.tmp 43), none⟩])
     (.seq (.ops 6 0 [⟨(some 45), .mov (.tmp 1), none⟩,
       ⟨(some 46), .fieldAddr 2 (.tmp 5), none⟩,
       ⟨(some 47), .load none (.tmp 46), none⟩,
       ⟨(some 48), .call (.func 33) [(.tmp 45), (.tmp 47)], none⟩,
       ⟨(some 44), .mov (.tmp 48), none⟩,
       ⟨(some 49), .extract (.tmp 44) 0, none⟩,
       ⟨(some 50), .extract (.tmp 44) 1, none⟩,
       ⟨(some 10), .mov (.tmp 49), none⟩,
       ⟨(some 11), .mov (.tmp 50), none⟩])
     (.seq (.ops 7 0 [⟨(some 51), .mov (.tmp 0), none⟩,
       ⟨(some 52), .mov (.tmp 8), none⟩,
       ⟨(some 53), .mov (.tmp 10), none⟩,
       ⟨(some 54), .bin .eql (.tmp 52) (.tmp 53), none⟩,
       ⟨(some 55), .mov (.tmp 54), none⟩,
       ⟨(some 56), .mov (.tmp 9), (some ((some 55), true))⟩,
       ⟨(some 57), .mov (.tmp 11), (some ((some 55), true))⟩,
       ⟨(some 58), .bin .eql (.tmp 56) (.tmp 57), (some ((some 55), true))⟩,
       ⟨(some 59), .pick (.tmp 55) (.tmp 58) (.const (.bool false)), none⟩,
       ⟨(some 6), .mov (.tmp 51), none⟩,
       ⟨(some 7), .mov (.tmp 59), none⟩])
     .ret)))
     (.seq (.ops 8 0 [⟨(some 61), .bin .eql (.tmp 18) (.const (.int .i64 2)), none⟩,
       ⟨(some 60), .mov (.tmp 61), none⟩])
     (.cond (.tmp 60)
      (.seq (.ops 9 0 [⟨(some 63), .mov (.tmp 0), none⟩,
        ⟨(some 64), .fieldAddr 2 (.tmp 5), none⟩,
        ⟨(some 65), .load none (.tmp 64), none⟩,
        ⟨(some 66), .fieldAddr 1 (.tmp 5), none⟩,
        ⟨(some 67), .load none (.tmp 66), none⟩,
        ⟨(some 68), .call (.func 18) [(.tmp 63), (.tmp 65), (.tmp 67)], none⟩,
        ⟨(some 62), .mov (.tmp 68), none⟩,
        ⟨(some 69), .extract (.tmp 62) 0, none⟩,
        ⟨(some 70), .extract (.tmp 62) 1, none⟩,
        ⟨(some 12), .mov (.tmp 69), none⟩,
        ⟨(some 13), .mov (.tmp 70), none⟩])
      (.seq (.ops 10 0 [⟨(some 72), .mov (.tmp 1), none⟩,
        ⟨(some 73), .fieldAddr 2 (.tmp 5), none⟩,
        ⟨(some 74), .load none (.tmp 73), none⟩,
        ⟨(some 75), .fieldAddr 1 (.tmp 5), none⟩,
        ⟨(some 76), .load none (.tmp 75), none⟩,
        ⟨(some 77), .call (.func 34) [(.tmp 72), (.tmp 74), (.tmp 76)], none⟩,
        ⟨(some 71), .mov (.tmp 77), none⟩,
        ⟨(some 78), .extract (.tmp 71) 0, none⟩,
        ⟨(some 79), .extract (.tmp 71) 1, none⟩,
        ⟨(some 14), .mov (.tmp 78), none⟩,
        ⟨(some 15), .mov (.tmp 79), none⟩])
      (.seq (.ops 11 0 [⟨(some 80), .mov (.tmp 0), none⟩,
        ⟨(some 81), .mov (.tmp 12), none⟩,
        ⟨(some 82), .mov (.tmp 14), none⟩,
        ⟨(some 83), .bin .eql (.tmp 81) (.tmp 82), none⟩,
        ⟨(some 84), .mov (.tmp 83), none⟩,
        ⟨(some 85), .mov (.tmp 13), (some ((some 84), true))⟩,
        ⟨(some 86), .mov (.tmp 15), (some ((some 84), true))⟩,
        ⟨(some 87), .bin .eql (.tmp 85) (.tmp 86), (some ((some 84), true))⟩,
        ⟨(some 88), .pick (.tmp 84) (.tmp 87) (.const (.bool false)), none⟩,
        ⟨(some 6), .mov (.tmp 80), none⟩,
        ⟨(some 7), .mov (.tmp 88), none⟩])
      .ret)))
      .skip))))))))
  (.seq (.ops 12 0 [⟨(some 89), .mov (.tmp 0), none⟩,
    ⟨(some 90), .call (.func 23) [(.tmp 89)], none⟩,
    ⟨(some 16), .mov (.tmp 90), none⟩])
  (.seq (.seq (.ops 13 0 [⟨(some 91), .mov (.tmp 16), none⟩,
    ⟨(some 92), .cmp false 23 (.tmp 91) (.const (.pointer none)), none⟩])
  (.cond (.tmp 92)
   (.seq (.ops 14 0 [⟨(some 93), .mov (.tmp 0), none⟩,
     ⟨(some 6), .mov (.tmp 93), none⟩,
     ⟨(some 7), .mov (.const (.bool false)), none⟩])
   .ret)
   .skip))
  (.seq (.ops 15 0 [⟨(some 94), .mov (.tmp 0), none⟩,
    ⟨(some 95), .fieldAddr 1 (.tmp 5), none⟩,
    ⟨(some 96), .load none (.tmp 95), none⟩,
    ⟨(some 97), .fieldAddr 2 (.tmp 5), none⟩,
    ⟨(some 98), .load none (.tmp 97), none⟩,
    ⟨(some 99), .call (.func 9) [(.tmp 94), (.tmp 96), (.tmp 98)], none⟩])
  (.seq (.ops 16 0 [⟨(some 100), .mov (.tmp 0), none⟩,
    ⟨(some 101), .fieldAddr 2 (.tmp 5), none⟩,
    ⟨(some 102), .load none (.tmp 101), none⟩,
    ⟨(some 103), .call (.func 16) [(.tmp 100), (.tmp 102)], none⟩])
  (.seq (.ops 17 0 [⟨(some 104), .mov (.tmp 16), none⟩,
    ⟨(some 6), .mov (.tmp 104), none⟩,
    ⟨(some 7), .mov (.const (.bool true)), none⟩])
  .ret))))))),
  105, [.tmp 6, .tmp 7]⟩
theorem c19 : compF Try.prog Q Try.f19 = some p19 := by kernel_rfl
theorem ht19 : HasText Try.prog 19 Try.f19 := ⟨Try.func19, rfl, by decide⟩
-- (*excise/exciseref04.List).put
def p37 : PF := ⟨(.seq (.ops 0 1 [⟨(some 7), .mov (.tmp 0), none⟩,
    ⟨(some 8), .nilCheck (.tmp 7), none⟩,
    ⟨(some 9), .fieldAddr 0 (.tmp 8), none⟩,
    ⟨(some 10), .load none (.tmp 9), none⟩,
    ⟨(some 11), .mov (.tmp 1), none⟩,
    ⟨(some 12), .sliceL 1 (.tmp 10) none (some (.tmp 11)), none⟩,
    ⟨(some 13), .append 2 1 8 (.const (.slice none 0 0)) (.tmp 12), none⟩,
    ⟨(some 6), .mov (.tmp 13), none⟩])
  (.ops3 1 3 [(0, 0, ⟨(some 14), .mov (.tmp 0), none⟩),
    (1, 0, ⟨(some 15), .mov (.tmp 6), none⟩),
    (2, 0, ⟨(some 16), .mov (.tmp 2), none⟩),
    (3, 0, ⟨(some 17), .bslice 2 1 1 (.int .i64 0) [(0, (.tmp 16))], none⟩),
    (5, 2, ⟨(some 19), .mov (.tmp 0), none⟩),
    (6, 2, ⟨(some 20), .nilCheck (.tmp 19), none⟩),
    (7, 2, ⟨(some 21), .fieldAddr 0 (.tmp 20), none⟩),
    (8, 2, ⟨(some 22), .load none (.tmp 21), none⟩),
    (9, 2, ⟨(some 23), .mov (.tmp 1), none⟩),
    (10, 2, ⟨(some 24), .sliceL 1 (.tmp 22) (some (.tmp 23)) none, none⟩)] [(4, 1, ⟨(some 18), .append 2 1 8 (.tmp 15) (.tmp 17), none⟩, [1, 3]),
    (11, 2, ⟨(some 25), .append 2 1 8 (.tmp 18) (.tmp 24), none⟩, [10]),
    (12, 3, ⟨(some 26), .nilCheck (.tmp 14), none⟩, [0, 1, 2, 3, 5, 6, 7, 8, 9, 10]),
    (13, 3, ⟨(some 27), .fieldAddr 0 (.tmp 26), none⟩, [0, 1, 2, 3, 5, 6, 7, 8, 9, 10]),
    (14, 3, ⟨none, .store 1 (.tmp 27) (.tmp 25), none⟩, [0, 1, 2, 3, 5, 6, 7, 8, 9, 10])] [])),
  28, []⟩
theorem c37 : compF Try.prog Q Try.f37 = some p37 := by kernel_rfl
theorem ht37 : HasText Try.prog 37 Try.f37 := ⟨Try.func37, rfl, by decide⟩
end Go.Proofs.Ytncmgbbbekabdaa
