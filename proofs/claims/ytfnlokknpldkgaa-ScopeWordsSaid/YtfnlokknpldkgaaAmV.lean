/- The resolved code of the functions. Written by mkp.py. -/
import Derived.Test.YtfnlokknpldkgaaAmU
import Derived.Test.YtfnlokknpldkgaaProg
namespace Go.Proofs.Ytfnlokknpldkgaa
open Go Go.Am
set_option maxRecDepth 100000
set_option linter.unusedVariables false
def quiet : List FuncId := [8,9,12,15,16,17,20,24,25,26,27,37,38,39,41,42,43,44,46,47,63,64,65,67,68,76,77,78]
def Q (f : FuncId) : Bool := quiet.contains f
-- excise/exciselaw09.ScopeWords
def p6 : PF := ⟨(.seq (.ops 0 1 [⟨(some 2), .box 29 (.tmp 0), none⟩,
    ⟨(some 4), .mov (.const (.bool false)), none⟩])
  (.seq (.ops 1 0 [⟨(some 10), .load (some 7) (.tmp 2), none⟩,
    ⟨(some 11), .mov (.tmp 1), none⟩,
    ⟨(some 12), .call (.func 15) [(.tmp 10), (.tmp 11)], none⟩,
    ⟨(some 9), .mov (.tmp 12), none⟩,
    ⟨(some 13), .extract (.tmp 9) 0, none⟩,
    ⟨(some 14), .extract (.tmp 9) 1, none⟩,
    ⟨(some 5), .mov (.tmp 13), none⟩,
    ⟨(some 6), .mov (.tmp 14), none⟩])
  (.seq (.ops 2 0 [⟨(some 16), .load (some 7) (.tmp 2), none⟩,
    ⟨(some 17), .mov (.tmp 1), none⟩,
    ⟨(some 18), .call (.func 16) [(.tmp 16), (.tmp 17)], none⟩,
    ⟨(some 15), .mov (.tmp 18), none⟩,
    ⟨(some 19), .extract (.tmp 15) 0, none⟩,
    ⟨(some 20), .extract (.tmp 15) 1, none⟩,
    ⟨(some 7), .mov (.tmp 19), none⟩,
    ⟨(some 8), .mov (.tmp 20), none⟩])
  (.seq (.ops 3 0 [⟨(some 21), .call (.func 8) [], none⟩,
    ⟨(some 22), .mov (.tmp 21), none⟩,
    ⟨(some 23), .call (.func 18) [], (some ((some 22), true))⟩,
    ⟨(some 24), .call (.func 19) [], (some ((some 22), true))⟩,
    ⟨(some 25), .call (.func 17) [(.tmp 23), (.tmp 24)], (some ((some 22), true))⟩,
    ⟨(some 26), .pick (.tmp 22) (.tmp 25) (.const (.bool false)), none⟩,
    ⟨(some 27), .mov (.tmp 26), none⟩,
    ⟨(some 28), .mov (.tmp 1), (some ((some 27), true))⟩,
    ⟨(some 29), .call (.func 12) [(.tmp 28)], (some ((some 27), true))⟩,
    ⟨(some 30), .mov (.tmp 1), (some ((some 27), true))⟩,
    ⟨(some 31), .call (.func 20) [(.tmp 30)], (some ((some 27), true))⟩,
    ⟨(some 32), .cmp false 4 (.tmp 29) (.tmp 31), (some ((some 27), true))⟩,
    ⟨(some 33), .pick (.tmp 27) (.tmp 32) (.const (.bool false)), none⟩,
    ⟨(some 34), .mov (.tmp 33), none⟩,
    ⟨(some 35), .mov (.tmp 5), (some ((some 34), true))⟩,
    ⟨(some 36), .mov (.tmp 7), (some ((some 34), true))⟩,
    ⟨(some 37), .bin .eql (.tmp 35) (.tmp 36), (some ((some 34), true))⟩,
    ⟨(some 38), .pick (.tmp 34) (.tmp 37) (.const (.bool false)), none⟩,
    ⟨(some 39), .mov (.tmp 38), none⟩,
    ⟨(some 40), .mov (.tmp 6), (some ((some 39), true))⟩,
    ⟨(some 41), .mov (.tmp 8), (some ((some 39), true))⟩,
    ⟨(some 42), .cmp false 4 (.tmp 40) (.tmp 41), (some ((some 39), true))⟩,
    ⟨(some 43), .pick (.tmp 39) (.tmp 42) (.const (.bool false)), none⟩,
    ⟨(some 4), .mov (.tmp 43), none⟩])
  .ret)))),
  44, [.tmp 4]⟩
theorem c6 : compF Try.prog Q Try.f6 = some p6 := by kernel_rfl
theorem ht6 : HasText Try.prog 6 Try.f6 := ⟨Try.func6, rfl, by decide⟩
-- excise/exciselaw09.live
def p8 : PF := ⟨(.seq (.ops 0 0 [⟨(some 0), .mov (.const (.bool false)), none⟩])
  (.seq (.ops 1 4 [⟨(some 6), .build [(.str []), (.int .i64 0), (.int .i64 0), (.int .i64 0), (.bool false), (.int .i64 0), (.int .i64 0), (.int .i64 0), (.str []), (.str []), (.int .i64 0), (.bool false), (.int .u64 0), (.int .u64 0), (.int .u64 0), (.int .u64 0), (.int .i64 0), (.bool false), (.str []), (.int .i64 0), (.int .i64 0), (.int .i64 0), (.sl none 0 (.fix 0))] [((0, 1), (.const (.string ⟨#[120]⟩))), ((1, 1), (.const (.int .i64 1)))], none⟩,
    ⟨(some 7), .bslice 55 23 1 (.agg [(.str []), (.int .i64 0), (.int .i64 0), (.int .i64 0), (.bool false), (.int .i64 0), (.int .i64 0), (.int .i64 0), (.str []), (.str []), (.int .i64 0), (.bool false), (.int .u64 0), (.int .u64 0), (.int .u64 0), (.int .u64 0), (.int .i64 0), (.bool false), (.str []), (.int .i64 0), (.int .i64 0), (.int .i64 0), (.sl none 0 (.fix 0))]) [(0, (.tmp 6))], none⟩,
    ⟨(some 8), .build [(.str []), (.int .i64 0), (.int .i64 0), (.int .i64 0), (.bool false), (.int .i64 0), (.int .i64 0), (.int .i64 0), (.str []), (.str []), (.int .i64 0), (.bool false), (.int .u64 0), (.int .u64 0), (.int .u64 0), (.int .u64 0), (.int .i64 0), (.bool false), (.str []), (.int .i64 0), (.int .i64 0), (.int .i64 0), (.sl none 0 (.fix 0))] [((0, 1), (.const (.string ⟨#[120]⟩))), ((1, 1), (.const (.int .i64 1)))], none⟩,
    ⟨(some 9), .bslice 55 23 1 (.agg [(.str []), (.int .i64 0), (.int .i64 0), (.int .i64 0), (.bool false), (.int .i64 0), (.int .i64 0), (.int .i64 0), (.str []), (.str []), (.int .i64 0), (.bool false), (.int .u64 0), (.int .u64 0), (.int .u64 0), (.int .u64 0), (.int .i64 0), (.bool false), (.str []), (.int .i64 0), (.int .i64 0), (.int .i64 0), (.sl none 0 (.fix 0))]) [(0, (.tmp 8))], none⟩,
    ⟨(some 10), .build [(.str []), (.int .i64 0), (.sl none 0 (.fix 0)), (.sl none 0 (.fix 0))] [((0, 1), (.const (.string ⟨#[115]⟩))), ((1, 1), (.const (.int .i64 3))), ((2, 1), (.tmp 9))], none⟩,
    ⟨(some 11), .bslice 25 4 1 (.agg [(.str []), (.int .i64 0), (.sl none 0 (.fix 0)), (.sl none 0 (.fix 0))]) [(0, (.tmp 10))], none⟩,
    ⟨(some 12), .build [(.str []), (.int .i64 0), (.sl none 0 (.fix 0)), (.sl none 0 (.fix 0))] [((2, 1), (.tmp 7)), ((3, 1), (.tmp 11))], none⟩,
    ⟨(some 13), .build [(.str []), (.str []), (.int .i64 0), (.sl none 0 (.fix 0)), (.sl none 0 (.fix 0)), (.sl none 0 (.fix 0)), (.sl none 0 (.fix 0))] [((0, 1), (.const (.string ⟨#[114]⟩))), ((1, 4), (.tmp 12))], none⟩,
    ⟨(some 1), .alloc 29 (.agg [(.str []), (.str []), (.int .i64 0), (.sl none 0 (.fix 0)), (.sl none 0 (.fix 0)), (.sl none 0 (.fix 0)), (.sl none 0 (.fix 0))]), none⟩,
    ⟨none, .store 7 (.tmp 1) (.tmp 13), none⟩])
  (.seq (.ops 2 1 [⟨(some 15), .load (some 7) (.tmp 1), none⟩,
    ⟨(some 16), .call (.func 9) [(.tmp 15)], none⟩,
    ⟨(some 14), .mov (.tmp 16), none⟩,
    ⟨(some 17), .extract (.tmp 14) 0, none⟩,
    ⟨(some 18), .extract (.tmp 14) 1, none⟩,
    ⟨(some 2), .alloc 33 (.agg [(.int .i64 0), (.int .i64 0), (.int .i64 0), (.int .i64 0), (.int .i64 0)]), none⟩,
    ⟨none, .store 5 (.tmp 2) (.tmp 17), none⟩,
    ⟨(some 3), .mov (.tmp 18), none⟩])
  (.seq (.ops 3 0 [⟨(some 19), .fieldAddr 1 (.tmp 1), none⟩,
    ⟨(some 20), .fieldAddr 3 (.tmp 19), none⟩,
    ⟨(some 21), .load none (.tmp 20), none⟩,
    ⟨(some 22), .atL 4 (.tmp 21) (.const (.int .i64 0)), none⟩,
    ⟨(some 23), .fieldAddr 2 (.tmp 22), none⟩,
    ⟨(some 24), .load none (.tmp 23), none⟩,
    ⟨(some 25), .atL 23 (.tmp 24) (.const (.int .i64 0)), none⟩,
    ⟨(some 26), .fieldAddr 0 (.tmp 25), none⟩,
    ⟨none, .store 1 (.tmp 26) (.const (.string ⟨#[121]⟩)), none⟩])
  (.seq (.ops 4 1 [⟨(some 28), .load (some 7) (.tmp 1), none⟩,
    ⟨(some 29), .call (.func 9) [(.tmp 28)], none⟩,
    ⟨(some 27), .mov (.tmp 29), none⟩,
    ⟨(some 30), .extract (.tmp 27) 0, none⟩,
    ⟨(some 31), .extract (.tmp 27) 1, none⟩,
    ⟨(some 4), .alloc 33 (.agg [(.int .i64 0), (.int .i64 0), (.int .i64 0), (.int .i64 0), (.int .i64 0)]), none⟩,
    ⟨none, .store 5 (.tmp 4) (.tmp 30), none⟩,
    ⟨(some 5), .mov (.tmp 31), none⟩])
  (.seq (.ops 5 0 [⟨(some 32), .mov (.tmp 3), none⟩,
    ⟨(some 33), .bin .eql (.tmp 32) (.const (.int .i64 5)), none⟩,
    ⟨(some 34), .mov (.tmp 33), none⟩,
    ⟨(some 35), .load (some 5) (.tmp 2), (some ((some 34), true))⟩,
    ⟨(some 36), .build [(.int .i64 0), (.int .i64 0), (.int .i64 0), (.int .i64 0), (.int .i64 0)] [((0, 1), (.const (.int .i64 3))), ((1, 1), (.const (.int .i64 1)))], (some ((some 34), true))⟩,
    ⟨(some 37), .cmp false 33 (.tmp 35) (.tmp 36), (some ((some 34), true))⟩,
    ⟨(some 38), .pick (.tmp 34) (.tmp 37) (.const (.bool false)), none⟩,
    ⟨(some 39), .mov (.tmp 38), none⟩,
    ⟨(some 40), .mov (.tmp 5), (some ((some 39), true))⟩,
    ⟨(some 41), .bin .eql (.tmp 40) (.const (.int .i64 0)), (some ((some 39), true))⟩,
    ⟨(some 42), .pick (.tmp 39) (.tmp 41) (.const (.bool false)), none⟩,
    ⟨(some 43), .mov (.tmp 42), none⟩,
    ⟨(some 44), .load (some 7) (.tmp 1), (some ((some 43), true))⟩,
    ⟨(some 45), .call (.func 11) [(.tmp 44)], (some ((some 43), true))⟩,
    ⟨(some 46), .lenL (.tmp 45), (some ((some 43), true))⟩,
    ⟨(some 47), .bin .eql (.tmp 46) (.const (.int .i64 2)), (some ((some 43), true))⟩,
    ⟨(some 48), .pick (.tmp 43) (.tmp 47) (.const (.bool false)), none⟩,
    ⟨(some 49), .mov (.tmp 48), none⟩,
    ⟨(some 50), .call (.func 12) [(.const (.string ⟨#[115, 117, 109]⟩))], (some ((some 49), true))⟩,
    ⟨(some 51), .pick (.tmp 49) (.tmp 50) (.const (.bool false)), none⟩,
    ⟨(some 0), .mov (.tmp 51), none⟩])
  .ret)))))),
  52, [.tmp 0]⟩
theorem c8 : compF Try.prog Q Try.f8 = some p8 := by kernel_rfl
theorem ht8 : HasText Try.prog 8 Try.f8 := ⟨Try.func8, rfl, by decide⟩
-- excise/scope.Check
def p9_l0 : PC := (.seq (.ops 38 0 [⟨(some 121), .bin .lss (.tmp 120) (.tmp 119), none⟩])
    (.seq (.cond (.tmp 121)
     .skip
     (.exit 10))
    (.seq (.block 11
     (.seq (.ops 39 0 [⟨(some 122), .mov (.tmp 120), none⟩,
       ⟨(some 18), .mov (.tmp 122), none⟩])
     (.seq (.ops 40 0 [⟨(some 123), .mov (.tmp 4), none⟩,
       ⟨(some 124), .mov (.tmp 18), none⟩,
       ⟨(some 125), .mov (.tmp 17), none⟩,
       ⟨(some 126), .call (.func 29) [(.tmp 123), (.tmp 124), (.tmp 125)], none⟩,
       ⟨(some 19), .mov (.tmp 126), none⟩])
     (.seq (.ops 41 0 [⟨(some 127), .mov (.tmp 19), none⟩,
       ⟨(some 128), .bin .neq (.tmp 127) (.const (.int .i64 0)), none⟩])
     (.cond (.tmp 128)
      (.seq (.ops 42 0 [⟨(some 129), .mov (.tmp 18), none⟩,
        ⟨(some 130), .build [(.int .i64 0), (.int .i64 0), (.int .i64 0), (.int .i64 0), (.int .i64 0)] [((0, 1), (.const (.int .i64 4))), ((4, 1), (.tmp 129))], none⟩,
        ⟨(some 131), .mov (.tmp 19), none⟩,
        ⟨none, .store 5 (.tmp 2) (.tmp 130), none⟩,
        ⟨(some 3), .mov (.tmp 131), none⟩])
      .ret)
      .skip)))))
    (.ops 43 0 [⟨(some 132), .bin .add (.tmp 120) (.const (.int .i64 1)), none⟩,
      ⟨(some 120), .mov (.tmp 132), none⟩]))))
def p9_l1 : PC := (.seq (.ops 30 0 [⟨(some 96), .bin .lss (.tmp 95) (.tmp 94), none⟩])
       (.seq (.cond (.tmp 96)
        .skip
        (.exit 8))
       (.seq (.block 9
        (.seq (.ops 31 1 [⟨(some 97), .mov (.tmp 95), none⟩,
          ⟨(some 98), .atL 23 (.tmp 93) (.tmp 95), none⟩,
          ⟨(some 99), .load (some 23) (.tmp 98), none⟩,
          ⟨(some 16), .alloc 55 (.agg [(.str []), (.int .i64 0), (.int .i64 0), (.int .i64 0), (.bool false), (.int .i64 0), (.int .i64 0), (.int .i64 0), (.str []), (.str []), (.int .i64 0), (.bool false), (.int .u64 0), (.int .u64 0), (.int .u64 0), (.int .u64 0), (.int .i64 0), (.bool false), (.str []), (.int .i64 0), (.int .i64 0), (.int .i64 0), (.sl none 0 (.fix 0))]), none⟩,
          ⟨(some 15), .mov (.tmp 97), none⟩,
          ⟨none, .store 23 (.tmp 16) (.tmp 99), none⟩])
        (.seq (.ops 32 0 [⟨(some 100), .fieldAddr 1 (.tmp 16), none⟩,
          ⟨(some 101), .load none (.tmp 100), none⟩,
          ⟨(some 102), .bin .neq (.tmp 101) (.const (.int .i64 1)), none⟩,
          ⟨(some 103), .mov (.tmp 102), none⟩,
          ⟨(some 104), .mov (.tmp 4), (some ((some 103), true))⟩,
          ⟨(some 105), .mov (.tmp 13), (some ((some 103), true))⟩,
          ⟨(some 106), .fieldAddr 6 (.tmp 16), (some ((some 103), true))⟩,
          ⟨(some 107), .load (some 17) (.tmp 106), (some ((some 103), true))⟩,
          ⟨(some 108), .call (.func 28) [(.tmp 104), (.tmp 105), (.tmp 107)], (some ((some 103), true))⟩,
          ⟨(some 109), .un .not (.tmp 108), (some ((some 103), true))⟩,
          ⟨(some 110), .pick (.tmp 103) (.tmp 109) (.const (.bool false)), none⟩])
        (.cond (.tmp 110)
         (.seq (.ops 33 0 [⟨(some 111), .mov (.tmp 13), none⟩,
           ⟨(some 112), .mov (.tmp 15), none⟩,
           ⟨(some 113), .build [(.int .i64 0), (.int .i64 0), (.int .i64 0), (.int .i64 0), (.int .i64 0)] [((0, 1), (.const (.int .i64 3))), ((1, 1), (.tmp 111)), ((2, 1), (.tmp 112))], none⟩,
           ⟨none, .store 5 (.tmp 2) (.tmp 113), none⟩,
           ⟨(some 3), .mov (.const (.int .i64 91)), none⟩])
         .ret)
         .skip))))
       (.ops 34 0 [⟨(some 114), .bin .add (.tmp 95) (.const (.int .i64 1)), none⟩,
         ⟨(some 95), .mov (.tmp 114), none⟩]))))
def p9_l2 : PC := (.seq (.ops 27 0 [⟨(some 88), .bin .lss (.tmp 87) (.tmp 86), none⟩])
    (.seq (.cond (.tmp 88)
     .skip
     (.exit 6))
    (.seq (.block 7
     (.seq (.ops 28 1 [⟨(some 89), .mov (.tmp 87), none⟩,
       ⟨(some 90), .atL 5 (.tmp 85) (.tmp 87), none⟩,
       ⟨(some 91), .load (some 5) (.tmp 90), none⟩,
       ⟨(some 14), .alloc 41 (.agg [(.int .i64 0), (.int .i64 0), (.str []), (.int .i64 0), (.sl none 0 (.fix 0))]), none⟩,
       ⟨(some 13), .mov (.tmp 89), none⟩,
       ⟨none, .store 5 (.tmp 14) (.tmp 91), none⟩])
     (.seq (.ops 29 0 [⟨(some 92), .fieldAddr 4 (.tmp 14), none⟩,
       ⟨(some 93), .load none (.tmp 92), none⟩,
       ⟨(some 94), .lenL (.tmp 93), none⟩,
       ⟨(some 95), .mov (.const (.int .i64 0)), none⟩])
     (.block 8
      (.loop p9_l1)))))
    (.ops 35 0 [⟨(some 115), .bin .add (.tmp 87) (.const (.int .i64 1)), none⟩,
      ⟨(some 87), .mov (.tmp 115), none⟩]))))
def p9_l3 : PC := (.seq (.ops 19 0 [⟨(some 68), .bin .lss (.tmp 67) (.tmp 66), none⟩])
       (.seq (.cond (.tmp 68)
        .skip
        (.exit 4))
       (.seq (.block 5
        (.seq (.ops 20 0 [⟨(some 69), .mov (.tmp 67), none⟩,
          ⟨(some 11), .mov (.tmp 69), none⟩])
        (.seq (.ops 21 0 [⟨(some 70), .mov (.tmp 4), none⟩,
          ⟨(some 71), .mov (.tmp 8), none⟩,
          ⟨(some 72), .mov (.tmp 11), none⟩,
          ⟨(some 73), .call (.func 27) [(.tmp 70), (.tmp 71), (.tmp 72)], none⟩,
          ⟨(some 12), .mov (.tmp 73), none⟩])
        (.seq (.ops 22 0 [⟨(some 74), .mov (.tmp 12), none⟩,
          ⟨(some 75), .bin .neq (.tmp 74) (.const (.int .i64 0)), none⟩])
        (.cond (.tmp 75)
         (.seq (.ops 23 0 [⟨(some 76), .mov (.tmp 8), none⟩,
           ⟨(some 77), .mov (.tmp 11), none⟩,
           ⟨(some 78), .build [(.int .i64 0), (.int .i64 0), (.int .i64 0), (.int .i64 0), (.int .i64 0)] [((0, 1), (.const (.int .i64 3))), ((1, 1), (.tmp 76)), ((2, 1), (.tmp 77))], none⟩,
           ⟨(some 79), .mov (.tmp 12), none⟩,
           ⟨none, .store 5 (.tmp 2) (.tmp 78), none⟩,
           ⟨(some 3), .mov (.tmp 79), none⟩])
         .ret)
         .skip)))))
       (.ops 24 0 [⟨(some 80), .bin .add (.tmp 67) (.const (.int .i64 1)), none⟩,
         ⟨(some 67), .mov (.tmp 80), none⟩]))))
def p9_l4 : PC := (.seq (.ops 13 0 [⟨(some 52), .bin .lss (.tmp 51) (.tmp 50), none⟩])
    (.seq (.cond (.tmp 52)
     .skip
     (.exit 2))
    (.seq (.block 3
     (.seq (.ops 14 1 [⟨(some 53), .mov (.tmp 51), none⟩,
       ⟨(some 54), .atL 5 (.tmp 49) (.tmp 51), none⟩,
       ⟨(some 55), .load (some 5) (.tmp 54), none⟩,
       ⟨(some 9), .alloc 41 (.agg [(.int .i64 0), (.int .i64 0), (.str []), (.int .i64 0), (.sl none 0 (.fix 0))]), none⟩,
       ⟨(some 8), .mov (.tmp 53), none⟩,
       ⟨none, .store 5 (.tmp 9) (.tmp 55), none⟩])
     (.seq (.seq (.ops 15 0 [⟨(some 56), .mov (.tmp 4), none⟩,
       ⟨(some 57), .mov (.tmp 8), none⟩,
       ⟨(some 58), .call (.func 26) [(.tmp 56), (.tmp 57)], none⟩,
       ⟨(some 10), .mov (.tmp 58), none⟩])
     (.seq (.ops 16 0 [⟨(some 59), .mov (.tmp 10), none⟩,
       ⟨(some 60), .bin .neq (.tmp 59) (.const (.int .i64 0)), none⟩])
     (.cond (.tmp 60)
      (.seq (.ops 17 0 [⟨(some 61), .mov (.tmp 8), none⟩,
        ⟨(some 62), .build [(.int .i64 0), (.int .i64 0), (.int .i64 0), (.int .i64 0), (.int .i64 0)] [((0, 1), (.const (.int .i64 2))), ((1, 1), (.tmp 61))], none⟩,
        ⟨(some 63), .mov (.tmp 10), none⟩,
        ⟨none, .store 5 (.tmp 2) (.tmp 62), none⟩,
        ⟨(some 3), .mov (.tmp 63), none⟩])
      .ret)
      .skip)))
     (.seq (.ops 18 0 [⟨(some 64), .fieldAddr 4 (.tmp 9), none⟩,
       ⟨(some 65), .load none (.tmp 64), none⟩,
       ⟨(some 66), .lenL (.tmp 65), none⟩,
       ⟨(some 67), .mov (.const (.int .i64 0)), none⟩])
     (.block 4
      (.loop p9_l3))))))
    (.ops 25 0 [⟨(some 81), .bin .add (.tmp 51) (.const (.int .i64 1)), none⟩,
      ⟨(some 51), .mov (.tmp 81), none⟩]))))
def p9_l5 : PC := (.seq (.ops 6 0 [⟨(some 35), .bin .lss (.tmp 34) (.tmp 33), none⟩])
    (.seq (.cond (.tmp 35)
     .skip
     (.exit 0))
    (.seq (.block 1
     (.seq (.ops 7 0 [⟨(some 36), .mov (.tmp 34), none⟩,
       ⟨(some 6), .mov (.tmp 36), none⟩])
     (.seq (.ops 8 0 [⟨(some 37), .mov (.tmp 4), none⟩,
       ⟨(some 38), .mov (.tmp 6), none⟩,
       ⟨(some 39), .call (.func 25) [(.tmp 37), (.tmp 38)], none⟩,
       ⟨(some 7), .mov (.tmp 39), none⟩])
     (.seq (.ops 9 0 [⟨(some 40), .mov (.tmp 7), none⟩,
       ⟨(some 41), .bin .neq (.tmp 40) (.const (.int .i64 0)), none⟩])
     (.cond (.tmp 41)
      (.seq (.ops 10 0 [⟨(some 42), .mov (.tmp 6), none⟩,
        ⟨(some 43), .build [(.int .i64 0), (.int .i64 0), (.int .i64 0), (.int .i64 0), (.int .i64 0)] [((0, 1), (.const (.int .i64 1))), ((3, 1), (.tmp 42))], none⟩,
        ⟨(some 44), .mov (.tmp 7), none⟩,
        ⟨none, .store 5 (.tmp 2) (.tmp 43), none⟩,
        ⟨(some 3), .mov (.tmp 44), none⟩])
      .ret)
      .skip)))))
    (.ops 11 0 [⟨(some 45), .bin .add (.tmp 34) (.const (.int .i64 1)), none⟩,
      ⟨(some 34), .mov (.tmp 45), none⟩]))))
def p9 : PF := ⟨(.seq (.ops 0 2 [⟨(some 1), .box 29 (.tmp 0), none⟩,
    ⟨(some 2), .alloc 33 (.agg [(.int .i64 0), (.int .i64 0), (.int .i64 0), (.int .i64 0), (.int .i64 0)]), none⟩,
    ⟨(some 3), .mov (.const (.int .i64 0)), none⟩])
  (.seq (.ops3 1 1 [(0, 0, ⟨(some 20), .load (some 7) (.tmp 1), none⟩),
    (1, 0, ⟨(some 21), .load (some 7) (.tmp 1), none⟩)] [(2, 0, ⟨(some 22), .call (.func 11) [(.tmp 21)], none⟩, [1]),
    (3, 0, ⟨(some 23), .build [(.str []), (.str []), (.int .i64 0), (.sl none 0 (.fix 0)), (.sl none 0 (.fix 0)), (.sl none 0 (.fix 0)), (.sl none 0 (.fix 0)), (.sl none 0 (.fix 0))] [((0, 7), (.tmp 20)), ((7, 1), (.tmp 22))], none⟩, [0]),
    (4, 0, ⟨(some 24), .box 68 (.tmp 23), none⟩, []),
    (5, 1, ⟨(some 4), .mov (.tmp 24), none⟩, [0, 1])] [])
  (.seq (.seq (.ops 2 0 [⟨(some 25), .mov (.tmp 4), none⟩,
    ⟨(some 26), .call (.func 24) [(.tmp 25)], none⟩,
    ⟨(some 5), .mov (.tmp 26), none⟩])
  (.seq (.ops 3 0 [⟨(some 27), .mov (.tmp 5), none⟩,
    ⟨(some 28), .bin .neq (.tmp 27) (.const (.int .i64 0)), none⟩])
  (.cond (.tmp 28)
   (.seq (.ops 4 0 [⟨(some 29), .build [(.int .i64 0), (.int .i64 0), (.int .i64 0), (.int .i64 0), (.int .i64 0)] [], none⟩,
     ⟨(some 30), .mov (.tmp 5), none⟩,
     ⟨none, .store 5 (.tmp 2) (.tmp 29), none⟩,
     ⟨(some 3), .mov (.tmp 30), none⟩])
   .ret)
   .skip)))
  (.seq (.seq (.ops 5 0 [⟨(some 31), .fieldAddr 5 (.tmp 1), none⟩,
    ⟨(some 32), .load none (.tmp 31), none⟩,
    ⟨(some 33), .lenL (.tmp 32), none⟩,
    ⟨(some 34), .mov (.const (.int .i64 0)), none⟩])
  (.block 0
   (.loop p9_l5)))
  (.seq (.seq (.ops 12 0 [⟨(some 46), .mov (.tmp 4), none⟩,
    ⟨(some 47), .nilCheck (.tmp 46), none⟩,
    ⟨(some 48), .fieldAddr 7 (.tmp 47), none⟩,
    ⟨(some 49), .load none (.tmp 48), none⟩,
    ⟨(some 50), .lenL (.tmp 49), none⟩,
    ⟨(some 51), .mov (.const (.int .i64 0)), none⟩])
  (.block 2
   (.loop p9_l4)))
  (.seq (.seq (.ops 26 0 [⟨(some 82), .mov (.tmp 4), none⟩,
    ⟨(some 83), .nilCheck (.tmp 82), none⟩,
    ⟨(some 84), .fieldAddr 7 (.tmp 83), none⟩,
    ⟨(some 85), .load none (.tmp 84), none⟩,
    ⟨(some 86), .lenL (.tmp 85), none⟩,
    ⟨(some 87), .mov (.const (.int .i64 0)), none⟩])
  (.block 6
   (.loop p9_l2)))
  (.seq (.ops 36 1 [⟨(some 116), .mmap, none⟩,
    ⟨(some 17), .mov (.tmp 116), none⟩])
  (.seq (.seq (.ops 37 0 [⟨(some 117), .fieldAddr 6 (.tmp 1), none⟩,
    ⟨(some 118), .load none (.tmp 117), none⟩,
    ⟨(some 119), .lenL (.tmp 118), none⟩,
    ⟨(some 120), .mov (.const (.int .i64 0)), none⟩])
  (.block 10
   (.loop p9_l0)))
  (.seq (.ops 44 0 [⟨(some 133), .build [(.int .i64 0), (.int .i64 0), (.int .i64 0), (.int .i64 0), (.int .i64 0)] [], none⟩,
    ⟨none, .store 5 (.tmp 2) (.tmp 133), none⟩,
    ⟨(some 3), .mov (.const (.int .i64 0)), none⟩])
  .ret))))))))),
  134, [.cell 2 33, .tmp 3]⟩
theorem c9 : compF Try.prog Q Try.f9 = some p9 := by kernel_rfl
theorem ht9 : HasText Try.prog 9 Try.f9 := ⟨Try.func9, rfl, by decide⟩
-- excise/scope.Flat
def p11 : PF := ⟨(.seq (.ops 0 1 [⟨(some 1), .box 29 (.tmp 0), none⟩,
    ⟨(some 2), .mov (.const (.slice none 0 0)), none⟩])
  (.seq (.ops 1 1 [⟨(some 3), .alloc 37 (.sl none 0 (.fix 0)), none⟩])
  (.seq (.ops 2 1 [⟨(some 4), .alloc 78 .nilFn, none⟩])
  (.seq (.ops 3 0 [⟨(some 5), .mkF 36 [] [(.tmp 3), (.tmp 4)], none⟩,
    ⟨none, .store 1 (.tmp 4) (.tmp 5), none⟩])
  (.seq (.ops 4 0 [⟨(some 6), .load none (.tmp 4), none⟩,
    ⟨(some 7), .fieldAddr 1 (.tmp 1), none⟩,
    ⟨(some 8), .load (some 4) (.tmp 7), none⟩,
    ⟨(some 9), .call (.tmp 6) [(.tmp 8), (.const (.int .i64 (-1))), (.const (.int .i64 1))], none⟩])
  (.seq (.ops 5 0 [⟨(some 10), .load none (.tmp 3), none⟩,
    ⟨(some 2), .mov (.tmp 10), none⟩])
  .ret)))))),
  11, [.tmp 2]⟩
theorem c11 : compF Try.prog Q Try.f11 = some p11 := by kernel_rfl
theorem ht11 : HasText Try.prog 11 Try.f11 := ⟨Try.func11, rfl, by decide⟩
-- excise/scope.Reserved
def p12 : PF := ⟨(.seq (.ops 0 0 [⟨(some 2), .mov (.const (.bool false)), none⟩])
  (.seq (.ops 1 0 [⟨(some 3), .call (.func 18) [], none⟩,
    ⟨(some 4), .mov (.tmp 0), none⟩,
    ⟨(some 5), .call (.func 37) [(.tmp 3), (.tmp 4)], none⟩,
    ⟨(some 2), .mov (.tmp 5), none⟩])
  .ret)),
  6, [.tmp 2]⟩
theorem c12 : compF Try.prog Q Try.f12 = some p12 := by kernel_rfl
theorem ht12 : HasText Try.prog 12 Try.f12 := ⟨Try.func12, rfl, by decide⟩
-- slices.Clone[[]excise/api.Item,excise/api.Item]
def p14 : PF := ⟨(.seq (.ops 0 0 [⟨(some 2), .mov (.const (.slice none 0 0)), none⟩])
  (.seq (.seq (.ops 1 0 [⟨(some 3), .mov (.tmp 0), none⟩,
    ⟨(some 4), .cmp false 22 (.tmp 3) (.const (.slice none 0 0)), none⟩])
  (.cond (.tmp 4)
   (.seq (.ops 2 0 [⟨(some 2), .mov (.const (.slice none 0 0)), none⟩])
   .ret)
   .skip))
  (.seq (.ops 3 2 [⟨(some 5), .bslice 55 23 0 (.agg [(.str []), (.int .i64 0), (.int .i64 0), (.int .i64 0), (.bool false), (.int .i64 0), (.int .i64 0), (.int .i64 0), (.str []), (.str []), (.int .i64 0), (.bool false), (.int .u64 0), (.int .u64 0), (.int .u64 0), (.int .u64 0), (.int .i64 0), (.bool false), (.str []), (.int .i64 0), (.int .i64 0), (.int .i64 0), (.sl none 0 (.fix 0))]) [], none⟩,
    ⟨(some 6), .mov (.tmp 0), none⟩,
    ⟨(some 7), .append 55 23 232 (.tmp 5) (.tmp 6), none⟩,
    ⟨(some 2), .mov (.tmp 7), none⟩])
  .ret))),
  8, [.tmp 2]⟩
theorem c14 : compF Try.prog Q Try.f14 = some p14 := by kernel_rfl
theorem ht14 : HasText Try.prog 14 Try.f14 := ⟨Try.func14, rfl, by decide⟩
-- excise/scope.Table
def p15 : PF := ⟨(.seq (.ops 0 2 [⟨(some 2), .box 29 (.tmp 0), none⟩,
    ⟨(some 3), .box 9 (.tmp 1), none⟩,
    ⟨(some 4), .mov (.const (.int .i64 0)), none⟩,
    ⟨(some 5), .mov (.const (.bool false)), none⟩])
  (.seq (.ops 1 0 [⟨(some 7), .fieldAddr 5 (.tmp 2), none⟩,
    ⟨(some 8), .load none (.tmp 7), none⟩,
    ⟨(some 9), .mkF 39 [] [(.tmp 3)], none⟩,
    ⟨(some 10), .call (.func 38) [(.tmp 8), (.tmp 9)], none⟩,
    ⟨(some 6), .mov (.tmp 10), none⟩])
  (.seq (.ops 2 0 [⟨(some 11), .mov (.tmp 6), none⟩,
    ⟨(some 12), .max [(.const (.int .i64 0)), (.tmp 11)], none⟩,
    ⟨(some 13), .mov (.tmp 6), none⟩,
    ⟨(some 14), .bin .geq (.tmp 13) (.const (.int .i64 0)), none⟩,
    ⟨(some 4), .mov (.tmp 12), none⟩,
    ⟨(some 5), .mov (.tmp 14), none⟩])
  .ret))),
  15, [.tmp 4, .tmp 5]⟩
theorem c15 : compF Try.prog Q Try.f15 = some p15 := by kernel_rfl
theorem ht15 : HasText Try.prog 15 Try.f15 := ⟨Try.func15, rfl, by decide⟩
-- excise/exciseref09.Table
def p16_l0 : PC := (.seq (.seq (.ops 2 0 [⟨(some 7), .mov (.tmp 6), none⟩,
      ⟨(some 8), .fieldAddr 5 (.tmp 2), none⟩,
      ⟨(some 9), .load none (.tmp 8), none⟩,
      ⟨(some 10), .lenL (.tmp 9), none⟩,
      ⟨(some 11), .bin .lss (.tmp 7) (.tmp 10), none⟩])
    (.cond (.tmp 11)
     .skip
     (.exit 0)))
    (.seq (.block 1
     (.seq (.ops 4 0 [⟨(some 14), .fieldAddr 5 (.tmp 2), none⟩,
       ⟨(some 15), .load none (.tmp 14), none⟩,
       ⟨(some 16), .mov (.tmp 6), none⟩,
       ⟨(some 17), .atL 2 (.tmp 15) (.tmp 16), none⟩,
       ⟨(some 18), .fieldAddr 0 (.tmp 17), none⟩,
       ⟨(some 19), .load none (.tmp 18), none⟩,
       ⟨(some 20), .mov (.tmp 1), none⟩,
       ⟨(some 21), .bin .eql (.tmp 19) (.tmp 20), none⟩])
     (.cond (.tmp 21)
      (.seq (.ops 5 0 [⟨(some 22), .mov (.tmp 6), none⟩,
        ⟨(some 4), .mov (.tmp 22), none⟩,
        ⟨(some 5), .mov (.const (.bool true)), none⟩])
      .ret)
      .skip)))
    (.ops 3 0 [⟨(some 12), .mov (.tmp 6), none⟩,
      ⟨(some 13), .bin .add (.tmp 12) (.const (.int .i64 1)), none⟩,
      ⟨(some 6), .mov (.tmp 13), none⟩])))
def p16 : PF := ⟨(.seq (.ops 0 1 [⟨(some 2), .box 29 (.tmp 0), none⟩,
    ⟨(some 4), .mov (.const (.int .i64 0)), none⟩,
    ⟨(some 5), .mov (.const (.bool false)), none⟩])
  (.seq (.seq (.ops 1 0 [⟨(some 6), .mov (.const (.int .i64 0)), none⟩])
  (.block 0
   (.loop p16_l0)))
  (.seq (.ops 6 0 [⟨(some 4), .mov (.const (.int .i64 0)), none⟩,
    ⟨(some 5), .mov (.const (.bool false)), none⟩])
  .ret))),
  23, [.tmp 4, .tmp 5]⟩
theorem c16 : compF Try.prog Q Try.f16 = some p16 := by kernel_rfl
theorem ht16 : HasText Try.prog 16 Try.f16 := ⟨Try.func16, rfl, by decide⟩
-- slices.Equal[[]string,string]
def p17_l0 : PC := (.seq (.ops 4 0 [⟨(some 14), .bin .lss (.tmp 13) (.tmp 12), none⟩])
    (.seq (.cond (.tmp 14)
     .skip
     (.exit 0))
    (.seq (.block 1
     (.seq (.ops 5 0 [⟨(some 15), .mov (.tmp 13), none⟩,
       ⟨(some 5), .mov (.tmp 15), none⟩])
     (.seq (.ops 6 0 [⟨(some 16), .mov (.tmp 0), none⟩,
       ⟨(some 17), .mov (.tmp 5), none⟩,
       ⟨(some 18), .atL 1 (.tmp 16) (.tmp 17), none⟩,
       ⟨(some 19), .load none (.tmp 18), none⟩,
       ⟨(some 20), .mov (.tmp 1), none⟩,
       ⟨(some 21), .mov (.tmp 5), none⟩,
       ⟨(some 22), .atL 1 (.tmp 20) (.tmp 21), none⟩,
       ⟨(some 23), .load none (.tmp 22), none⟩,
       ⟨(some 24), .bin .neq (.tmp 19) (.tmp 23), none⟩])
     (.cond (.tmp 24)
      (.seq (.ops 7 0 [⟨(some 4), .mov (.const (.bool false)), none⟩])
      .ret)
      .skip))))
    (.ops 8 0 [⟨(some 25), .bin .add (.tmp 13) (.const (.int .i64 1)), none⟩,
      ⟨(some 13), .mov (.tmp 25), none⟩]))))
def p17 : PF := ⟨(.seq (.ops 0 0 [⟨(some 4), .mov (.const (.bool false)), none⟩])
  (.seq (.seq (.ops 1 0 [⟨(some 6), .mov (.tmp 0), none⟩,
    ⟨(some 7), .lenL (.tmp 6), none⟩,
    ⟨(some 8), .mov (.tmp 1), none⟩,
    ⟨(some 9), .lenL (.tmp 8), none⟩,
    ⟨(some 10), .bin .neq (.tmp 7) (.tmp 9), none⟩])
  (.cond (.tmp 10)
   (.seq (.ops 2 0 [⟨(some 4), .mov (.const (.bool false)), none⟩])
   .ret)
   .skip))
  (.seq (.seq (.ops 3 0 [⟨(some 11), .mov (.tmp 0), none⟩,
    ⟨(some 12), .lenL (.tmp 11), none⟩,
    ⟨(some 13), .mov (.const (.int .i64 0)), none⟩])
  (.block 0
   (.loop p17_l0)))
  (.seq (.ops 9 0 [⟨(some 4), .mov (.const (.bool true)), none⟩])
  .ret)))),
  26, [.tmp 4]⟩
theorem c17 : compF Try.prog Q Try.f17 = some p17 := by kernel_rfl
theorem ht17 : HasText Try.prog 17 Try.f17 := ⟨Try.func17, rfl, by decide⟩
-- excise/scope.Words
def p18 : PF := ⟨(.seq (.ops 0 0 [⟨(some 0), .mov (.const (.slice none 0 0)), none⟩])
  (.seq (.ops 1 1 [⟨(some 1), .bslice 9 1 33 (.str []) [(0, (.const (.string ⟨#[114, 101, 116, 117, 114, 110]⟩))), (1, (.const (.string ⟨#[102, 105, 101, 108, 100]⟩))), (2, (.const (.string ⟨#[108, 105, 110, 101]⟩))), (3, (.const (.string ⟨#[99, 104, 101, 99, 107]⟩))), (4, (.const (.string ⟨#[115, 101, 99, 116, 105, 111, 110]⟩))), (5, (.const (.string ⟨#[116, 97, 98, 108, 101]⟩))), (6, (.const (.string ⟨#[112, 97, 103, 101]⟩))), (7, (.const (.string ⟨#[119, 104, 101, 110]⟩))), (8, (.const (.string ⟨#[109, 97, 120]⟩))), (9, (.const (.string ⟨#[102, 114, 111, 109]⟩))), (10, (.const (.string ⟨#[98, 97, 115, 101]⟩))), (11, (.const (.string ⟨#[114, 97, 116, 101]⟩))), (12, (.const (.string ⟨#[110, 101, 101, 100, 101, 100]⟩))), (13, (.const (.string ⟨#[97, 109, 111, 117, 110, 116]⟩))), (14, (.const (.string ⟨#[102, 108, 97, 103]⟩))), (15, (.const (.string ⟨#[116, 101, 120, 116]⟩))), (16, (.const (.string ⟨#[105, 102]⟩))), (17, (.const (.string ⟨#[114, 111, 117, 110, 100]⟩))), (18, (.const (.string ⟨#[98, 108, 97, 110, 107]⟩))), (19, (.const (.string ⟨#[114, 111, 119, 115]⟩))), (20, (.const (.string ⟨#[115, 117, 109]⟩))), (21, (.const (.string ⟨#[99, 111, 117, 110, 116]⟩))), (22, (.const (.string ⟨#[109, 105, 110]⟩))), (23, (.const (.string ⟨#[97, 110, 100]⟩))), (24, (.const (.string ⟨#[111, 114]⟩))), (25, (.const (.string ⟨#[110, 111, 116]⟩))), (26, (.const (.string ⟨#[116, 114, 117, 101]⟩))), (27, (.const (.string ⟨#[102, 97, 108, 115, 101]⟩))), (28, (.const (.string ⟨#[104, 97, 108, 102, 95, 117, 112]⟩))), (29, (.const (.string ⟨#[104, 97, 108, 102, 95, 101, 118, 101, 110]⟩))), (30, (.const (.string ⟨#[100, 111, 119, 110]⟩))), (31, (.const (.string ⟨#[117, 112]⟩))), (32, (.const (.string ⟨#[102, 108, 111, 111, 114]⟩)))], none⟩,
    ⟨(some 0), .mov (.tmp 1), none⟩])
  .ret)),
  2, [.tmp 0]⟩
theorem c18 : compF Try.prog Q Try.f18 = some p18 := by kernel_rfl
theorem ht18 : HasText Try.prog 18 Try.f18 := ⟨Try.func18, rfl, by decide⟩
-- excise/exciseref09.Words
def p19 : PF := ⟨(.seq (.ops 0 0 [⟨(some 0), .mov (.const (.slice none 0 0)), none⟩])
  (.seq (.ops 1 1 [⟨(some 1), .bslice 9 1 33 (.str []) [(0, (.const (.string ⟨#[114, 101, 116, 117, 114, 110]⟩))), (1, (.const (.string ⟨#[102, 105, 101, 108, 100]⟩))), (2, (.const (.string ⟨#[108, 105, 110, 101]⟩))), (3, (.const (.string ⟨#[99, 104, 101, 99, 107]⟩))), (4, (.const (.string ⟨#[115, 101, 99, 116, 105, 111, 110]⟩))), (5, (.const (.string ⟨#[116, 97, 98, 108, 101]⟩))), (6, (.const (.string ⟨#[112, 97, 103, 101]⟩))), (7, (.const (.string ⟨#[119, 104, 101, 110]⟩))), (8, (.const (.string ⟨#[109, 97, 120]⟩))), (9, (.const (.string ⟨#[102, 114, 111, 109]⟩))), (10, (.const (.string ⟨#[98, 97, 115, 101]⟩))), (11, (.const (.string ⟨#[114, 97, 116, 101]⟩))), (12, (.const (.string ⟨#[110, 101, 101, 100, 101, 100]⟩))), (13, (.const (.string ⟨#[97, 109, 111, 117, 110, 116]⟩))), (14, (.const (.string ⟨#[102, 108, 97, 103]⟩))), (15, (.const (.string ⟨#[116, 101, 120, 116]⟩))), (16, (.const (.string ⟨#[105, 102]⟩))), (17, (.const (.string ⟨#[114, 111, 117, 110, 100]⟩))), (18, (.const (.string ⟨#[98, 108, 97, 110, 107]⟩))), (19, (.const (.string ⟨#[114, 111, 119, 115]⟩))), (20, (.const (.string ⟨#[115, 117, 109]⟩))), (21, (.const (.string ⟨#[99, 111, 117, 110, 116]⟩))), (22, (.const (.string ⟨#[109, 105, 110]⟩))), (23, (.const (.string ⟨#[97, 110, 100]⟩))), (24, (.const (.string ⟨#[111, 114]⟩))), (25, (.const (.string ⟨#[110, 111, 116]⟩))), (26, (.const (.string ⟨#[116, 114, 117, 101]⟩))), (27, (.const (.string ⟨#[102, 97, 108, 115, 101]⟩))), (28, (.const (.string ⟨#[104, 97, 108, 102, 95, 117, 112]⟩))), (29, (.const (.string ⟨#[104, 97, 108, 102, 95, 101, 118, 101, 110]⟩))), (30, (.const (.string ⟨#[100, 111, 119, 110]⟩))), (31, (.const (.string ⟨#[117, 112]⟩))), (32, (.const (.string ⟨#[102, 108, 111, 111, 114]⟩)))], none⟩,
    ⟨(some 0), .mov (.tmp 1), none⟩])
  .ret)),
  2, [.tmp 0]⟩
theorem c19 : compF Try.prog Q Try.f19 = some p19 := by kernel_rfl
theorem ht19 : HasText Try.prog 19 Try.f19 := ⟨Try.func19, rfl, by decide⟩
-- excise/exciseref09.Reserved
def p20_l0 : PC := (.seq (.seq (.ops 3 0 [⟨(some 6), .mov (.tmp 4), none⟩,
      ⟨(some 7), .mov (.tmp 3), none⟩,
      ⟨(some 8), .lenL (.tmp 7), none⟩,
      ⟨(some 9), .bin .lss (.tmp 6) (.tmp 8), none⟩])
    (.cond (.tmp 9)
     .skip
     (.exit 0)))
    (.seq (.block 1
     (.seq (.ops 5 0 [⟨(some 12), .mov (.tmp 3), none⟩,
       ⟨(some 13), .mov (.tmp 4), none⟩,
       ⟨(some 14), .atL 1 (.tmp 12) (.tmp 13), none⟩,
       ⟨(some 15), .load none (.tmp 14), none⟩,
       ⟨(some 16), .mov (.tmp 0), none⟩,
       ⟨(some 17), .bin .eql (.tmp 15) (.tmp 16), none⟩])
     (.cond (.tmp 17)
      (.seq (.ops 6 0 [⟨(some 2), .mov (.const (.bool true)), none⟩])
      .ret)
      .skip)))
    (.ops 4 0 [⟨(some 10), .mov (.tmp 4), none⟩,
      ⟨(some 11), .bin .add (.tmp 10) (.const (.int .i64 1)), none⟩,
      ⟨(some 4), .mov (.tmp 11), none⟩])))
def p20 : PF := ⟨(.seq (.ops 0 0 [⟨(some 2), .mov (.const (.bool false)), none⟩])
  (.seq (.ops 1 0 [⟨(some 5), .call (.func 19) [], none⟩,
    ⟨(some 3), .mov (.tmp 5), none⟩])
  (.seq (.seq (.ops 2 0 [⟨(some 4), .mov (.const (.int .i64 0)), none⟩])
  (.block 0
   (.loop p20_l0)))
  (.seq (.ops 7 0 [⟨(some 2), .mov (.const (.bool false)), none⟩])
  .ret)))),
  18, [.tmp 2]⟩
theorem c20 : compF Try.prog Q Try.f20 = some p20 := by kernel_rfl
theorem ht20 : HasText Try.prog 20 Try.f20 := ⟨Try.func20, rfl, by decide⟩
-- (*excise/scope.checker).def
def p24 : PF := ⟨(.seq (.ops 0 0 [⟨(some 2), .mov (.const (.int .i64 0)), none⟩])
  (.seq (.seq (.ops 1 0 [⟨(some 4), .mov (.tmp 0), none⟩,
    ⟨(some 5), .nilCheck (.tmp 4), none⟩,
    ⟨(some 6), .fieldAddr 0 (.tmp 5), none⟩,
    ⟨(some 7), .fieldAddr 0 (.tmp 6), none⟩,
    ⟨(some 8), .load none (.tmp 7), none⟩,
    ⟨(some 9), .call (.func 41) [(.tmp 8)], none⟩,
    ⟨(some 10), .un .not (.tmp 9), none⟩])
  (.cond (.tmp 10)
   (.seq (.ops 2 0 [⟨(some 2), .mov (.const (.int .i64 90)), none⟩])
   .ret)
   .skip))
  (.seq (.ops 3 0 [⟨(some 3), .mov (.func 42), none⟩])
  (.seq (.seq (.ops 4 0 [⟨(some 11), .mov (.tmp 0), none⟩,
    ⟨(some 12), .nilCheck (.tmp 11), none⟩,
    ⟨(some 13), .fieldAddr 0 (.tmp 12), none⟩,
    ⟨(some 14), .fieldAddr 5 (.tmp 13), none⟩,
    ⟨(some 15), .load none (.tmp 14), none⟩,
    ⟨(some 16), .lenL (.tmp 15), none⟩,
    ⟨(some 17), .bin .gtr (.tmp 16) (.const (.int .i64 8)), none⟩,
    ⟨(some 18), .mov (.tmp 17), none⟩,
    ⟨(some 19), .mov (.tmp 0), (some ((some 18), false))⟩,
    ⟨(some 20), .nilCheck (.tmp 19), (some ((some 18), false))⟩,
    ⟨(some 21), .fieldAddr 7 (.tmp 20), (some ((some 18), false))⟩,
    ⟨(some 22), .load none (.tmp 21), (some ((some 18), false))⟩,
    ⟨(some 23), .lenL (.tmp 22), (some ((some 18), false))⟩,
    ⟨(some 24), .bin .gtr (.tmp 23) (.const (.int .i64 16)), (some ((some 18), false))⟩,
    ⟨(some 25), .pick (.tmp 18) (.const (.bool true)) (.tmp 24), none⟩,
    ⟨(some 26), .mov (.tmp 25), none⟩,
    ⟨(some 27), .mov (.tmp 0), (some ((some 26), false))⟩,
    ⟨(some 28), .nilCheck (.tmp 27), (some ((some 26), false))⟩,
    ⟨(some 29), .fieldAddr 0 (.tmp 28), (some ((some 26), false))⟩,
    ⟨(some 30), .fieldAddr 6 (.tmp 29), (some ((some 26), false))⟩,
    ⟨(some 31), .load none (.tmp 30), (some ((some 26), false))⟩,
    ⟨(some 32), .lenL (.tmp 31), (some ((some 26), false))⟩,
    ⟨(some 33), .bin .gtr (.tmp 32) (.const (.int .i64 16)), (some ((some 26), false))⟩,
    ⟨(some 34), .pick (.tmp 26) (.const (.bool true)) (.tmp 33), none⟩,
    ⟨(some 35), .mov (.tmp 34), none⟩,
    ⟨(some 36), .mov (.tmp 0), (some ((some 35), false))⟩,
    ⟨(some 37), .nilCheck (.tmp 36), (some ((some 35), false))⟩,
    ⟨(some 38), .fieldAddr 7 (.tmp 37), (some ((some 35), false))⟩,
    ⟨(some 39), .load none (.tmp 38), (some ((some 35), false))⟩,
    ⟨(some 40), .mov (.tmp 3), (some ((some 35), false))⟩,
    ⟨(some 41), .call (.func 43) [(.tmp 39), (.tmp 40)], (some ((some 35), false))⟩,
    ⟨(some 42), .pick (.tmp 35) (.const (.bool true)) (.tmp 41), none⟩])
  (.cond (.tmp 42)
   (.seq (.ops 5 0 [⟨(some 2), .mov (.const (.int .i64 92)), none⟩])
   .ret)
   .skip))
  (.seq (.ops 6 0 [⟨(some 2), .mov (.const (.int .i64 0)), none⟩])
  .ret))))),
  43, [.tmp 2]⟩
theorem c24 : compF Try.prog Q Try.f24 = some p24 := by kernel_rfl
theorem ht24 : HasText Try.prog 24 Try.f24 := ⟨Try.func24, rfl, by decide⟩
-- (*excise/scope.checker).table
def p25 : PF := ⟨(.seq (.ops 0 0 [⟨(some 4), .mov (.const (.int .i64 0)), none⟩])
  (.seq (.ops 1 1 [⟨(some 8), .mov (.tmp 0), none⟩,
    ⟨(some 9), .nilCheck (.tmp 8), none⟩,
    ⟨(some 10), .fieldAddr 0 (.tmp 9), none⟩,
    ⟨(some 11), .fieldAddr 5 (.tmp 10), none⟩,
    ⟨(some 12), .load none (.tmp 11), none⟩,
    ⟨(some 13), .mov (.tmp 1), none⟩,
    ⟨(some 14), .atL 2 (.tmp 12) (.tmp 13), none⟩,
    ⟨(some 15), .load (some 2) (.tmp 14), none⟩,
    ⟨(some 5), .alloc 83 (.agg [(.str []), (.sl none 0 (.fix 0))]), none⟩,
    ⟨none, .store 2 (.tmp 5) (.tmp 15), none⟩])
  (.seq (.ops 2 0 [⟨(some 17), .mov (.tmp 0), none⟩,
    ⟨(some 18), .nilCheck (.tmp 17), none⟩,
    ⟨(some 19), .fieldAddr 0 (.tmp 18), none⟩,
    ⟨(some 20), .load (some 7) (.tmp 19), none⟩,
    ⟨(some 21), .fieldAddr 0 (.tmp 5), none⟩,
    ⟨(some 22), .load none (.tmp 21), none⟩,
    ⟨(some 23), .call (.func 15) [(.tmp 20), (.tmp 22)], none⟩,
    ⟨(some 16), .mov (.tmp 23), none⟩,
    ⟨(some 24), .extract (.tmp 16) 0, none⟩,
    ⟨(some 25), .extract (.tmp 16) 1, none⟩,
    ⟨(some 6), .mov (.tmp 24), none⟩,
    ⟨(some 7), .mov (.tmp 25), none⟩])
  (.seq (.block 0
   (.seq (.ops 3 0 [⟨(some 27), .fieldAddr 0 (.tmp 5), none⟩,
     ⟨(some 28), .load none (.tmp 27), none⟩,
     ⟨(some 29), .call (.func 41) [(.tmp 28)], none⟩,
     ⟨(some 30), .un .not (.tmp 29), none⟩,
     ⟨(some 26), .mov (.tmp 30), none⟩])
   (.cond (.tmp 26)
    (.seq (.ops 4 0 [⟨(some 4), .mov (.const (.int .i64 90)), none⟩])
    .ret)
    (.seq (.ops 5 0 [⟨(some 32), .mov (.tmp 6), none⟩,
      ⟨(some 33), .mov (.tmp 1), none⟩,
      ⟨(some 34), .bin .lss (.tmp 32) (.tmp 33), none⟩,
      ⟨(some 31), .mov (.tmp 34), none⟩])
    (.cond (.tmp 31)
     (.seq (.ops 6 0 [⟨(some 4), .mov (.const (.int .i64 5)), none⟩])
     .ret)
     (.seq (.ops 7 0 [⟨(some 36), .fieldAddr 1 (.tmp 5), none⟩,
       ⟨(some 37), .load none (.tmp 36), none⟩,
       ⟨(some 38), .lenL (.tmp 37), none⟩,
       ⟨(some 39), .bin .lss (.tmp 38) (.const (.int .i64 1)), none⟩,
       ⟨(some 40), .mov (.tmp 39), none⟩,
       ⟨(some 41), .fieldAddr 1 (.tmp 5), (some ((some 40), false))⟩,
       ⟨(some 42), .load none (.tmp 41), (some ((some 40), false))⟩,
       ⟨(some 43), .lenL (.tmp 42), (some ((some 40), false))⟩,
       ⟨(some 44), .bin .gtr (.tmp 43) (.const (.int .i64 32)), (some ((some 40), false))⟩,
       ⟨(some 45), .pick (.tmp 40) (.const (.bool true)) (.tmp 44), none⟩,
       ⟨(some 35), .mov (.tmp 45), none⟩])
     (.cond (.tmp 35)
      (.seq (.ops 8 0 [⟨(some 4), .mov (.const (.int .i64 92)), none⟩])
      .ret)
      .skip)))))))
  (.seq (.ops 9 0 [⟨(some 4), .mov (.const (.int .i64 0)), none⟩])
  .ret))))),
  46, [.tmp 4]⟩
theorem c25 : compF Try.prog Q Try.f25 = some p25 := by kernel_rfl
theorem ht25 : HasText Try.prog 25 Try.f25 := ⟨Try.func25, rfl, by decide⟩
-- (*excise/scope.checker).section
def p26 : PF := ⟨(.seq (.ops 0 0 [⟨(some 4), .mov (.const (.int .i64 0)), none⟩])
  (.seq (.ops 1 1 [⟨(some 8), .mov (.tmp 0), none⟩,
    ⟨(some 9), .nilCheck (.tmp 8), none⟩,
    ⟨(some 10), .fieldAddr 7 (.tmp 9), none⟩,
    ⟨(some 11), .load none (.tmp 10), none⟩,
    ⟨(some 12), .mov (.tmp 1), none⟩,
    ⟨(some 13), .atL 5 (.tmp 11) (.tmp 12), none⟩,
    ⟨(some 14), .load (some 5) (.tmp 13), none⟩,
    ⟨(some 5), .alloc 41 (.agg [(.int .i64 0), (.int .i64 0), (.str []), (.int .i64 0), (.sl none 0 (.fix 0))]), none⟩,
    ⟨none, .store 5 (.tmp 5) (.tmp 14), none⟩])
  (.seq (.seq (.ops 2 0 [⟨(some 15), .mov (.tmp 1), none⟩,
    ⟨(some 16), .bin .eql (.tmp 15) (.const (.int .i64 0)), none⟩])
  (.cond (.tmp 16)
   (.seq (.seq (.ops 3 0 [⟨(some 17), .fieldAddr 2 (.tmp 5), none⟩,
     ⟨(some 18), .load none (.tmp 17), none⟩,
     ⟨(some 19), .bin .neq (.tmp 18) (.const (.string ⟨#[]⟩)), none⟩])
   (.cond (.tmp 19)
    (.seq (.ops 4 0 [⟨(some 4), .mov (.const (.int .i64 90)), none⟩])
    .ret)
    .skip))
   (.seq (.seq (.ops 5 0 [⟨(some 20), .fieldAddr 4 (.tmp 5), none⟩,
     ⟨(some 21), .load none (.tmp 20), none⟩,
     ⟨(some 22), .lenL (.tmp 21), none⟩,
     ⟨(some 23), .bin .gtr (.tmp 22) (.const (.int .i64 64)), none⟩,
     ⟨(some 24), .mov (.tmp 23), none⟩,
     ⟨(some 25), .fieldAddr 3 (.tmp 5), (some ((some 24), false))⟩,
     ⟨(some 26), .load none (.tmp 25), (some ((some 24), false))⟩,
     ⟨(some 27), .bin .neq (.tmp 26) (.const (.int .i64 0)), (some ((some 24), false))⟩,
     ⟨(some 28), .pick (.tmp 24) (.const (.bool true)) (.tmp 27), none⟩])
   (.cond (.tmp 28)
    (.seq (.ops 6 0 [⟨(some 4), .mov (.const (.int .i64 92)), none⟩])
    .ret)
    .skip))
   (.seq (.ops 7 0 [⟨(some 4), .mov (.const (.int .i64 0)), none⟩])
   .ret)))
   .skip))
  (.seq (.ops 8 0 [⟨(some 30), .mov (.tmp 0), none⟩,
    ⟨(some 31), .nilCheck (.tmp 30), none⟩,
    ⟨(some 32), .fieldAddr 7 (.tmp 31), none⟩,
    ⟨(some 33), .load none (.tmp 32), none⟩,
    ⟨(some 34), .fieldAddr 0 (.tmp 5), none⟩,
    ⟨(some 35), .load none (.tmp 34), none⟩,
    ⟨(some 36), .fieldAddr 2 (.tmp 5), none⟩,
    ⟨(some 37), .load none (.tmp 36), none⟩,
    ⟨(some 38), .call (.func 44) [(.tmp 33), (.tmp 35), (.tmp 37)], none⟩,
    ⟨(some 29), .mov (.tmp 38), none⟩,
    ⟨(some 39), .extract (.tmp 29) 0, none⟩,
    ⟨(some 40), .extract (.tmp 29) 1, none⟩,
    ⟨(some 6), .mov (.tmp 39), none⟩,
    ⟨(some 7), .mov (.tmp 40), none⟩])
  (.seq (.block 0
   (.seq (.ops 9 0 [⟨(some 42), .fieldAddr 2 (.tmp 5), none⟩,
     ⟨(some 43), .load none (.tmp 42), none⟩,
     ⟨(some 44), .call (.func 41) [(.tmp 43)], none⟩,
     ⟨(some 45), .un .not (.tmp 44), none⟩,
     ⟨(some 41), .mov (.tmp 45), none⟩])
   (.cond (.tmp 41)
    (.seq (.ops 10 0 [⟨(some 4), .mov (.const (.int .i64 90)), none⟩])
    .ret)
    (.seq (.ops3 11 0 [(0, 0, ⟨(some 47), .mov (.tmp 6), none⟩),
      (1, 0, ⟨(some 48), .mov (.tmp 1), none⟩),
      (2, 0, ⟨(some 49), .bin .lss (.tmp 47) (.tmp 48), none⟩),
      (3, 0, ⟨(some 50), .mov (.tmp 49), none⟩),
      (4, 0, ⟨(some 51), .mov (.tmp 0), (some ((some 50), false))⟩),
      (5, 0, ⟨(some 52), .fieldAddr 0 (.tmp 5), (some ((some 50), false))⟩),
      (6, 0, ⟨(some 53), .load none (.tmp 52), (some ((some 50), false))⟩),
      (8, 0, ⟨(some 55), .fieldAddr 2 (.tmp 5), (some ((some 50), false))⟩),
      (9, 0, ⟨(some 56), .load none (.tmp 55), (some ((some 50), false))⟩)] [(7, 0, ⟨(some 54), .call (.func 45) [(.tmp 51), (.tmp 53)], (some ((some 50), false))⟩, [3, 4, 6]),
      (10, 0, ⟨(some 57), .lookup 39 (.tmp 54) (.tmp 56) false, (some ((some 50), false))⟩, [3, 9]),
      (11, 0, ⟨(some 58), .pick (.tmp 50) (.const (.bool true)) (.tmp 57), none⟩, [3]),
      (12, 0, ⟨(some 46), .mov (.tmp 58), none⟩, [])] [])
    (.cond (.tmp 46)
     (.seq (.ops 12 0 [⟨(some 4), .mov (.const (.int .i64 5)), none⟩])
     .ret)
     (.seq (.ops 13 0 [⟨(some 60), .fieldAddr 4 (.tmp 5), none⟩,
       ⟨(some 61), .load none (.tmp 60), none⟩,
       ⟨(some 62), .lenL (.tmp 61), none⟩,
       ⟨(some 63), .bin .gtr (.tmp 62) (.const (.int .i64 64)), none⟩,
       ⟨(some 64), .mov (.tmp 63), none⟩,
       ⟨(some 65), .fieldAddr 3 (.tmp 5), (some ((some 64), false))⟩,
       ⟨(some 66), .load none (.tmp 65), (some ((some 64), false))⟩,
       ⟨(some 67), .bin .lss (.tmp 66) (.const (.int .i64 1)), (some ((some 64), false))⟩,
       ⟨(some 68), .pick (.tmp 64) (.const (.bool true)) (.tmp 67), none⟩,
       ⟨(some 69), .mov (.tmp 68), none⟩,
       ⟨(some 70), .fieldAddr 3 (.tmp 5), (some ((some 69), false))⟩,
       ⟨(some 71), .load none (.tmp 70), (some ((some 69), false))⟩,
       ⟨(some 72), .bin .gtr (.tmp 71) (.const (.int .i64 1024)), (some ((some 69), false))⟩,
       ⟨(some 73), .pick (.tmp 69) (.const (.bool true)) (.tmp 72), none⟩,
       ⟨(some 59), .mov (.tmp 73), none⟩])
     (.cond (.tmp 59)
      (.seq (.ops 14 0 [⟨(some 4), .mov (.const (.int .i64 92)), none⟩])
      .ret)
      .skip)))))))
  (.seq (.ops 15 0 [⟨(some 4), .mov (.const (.int .i64 0)), none⟩])
  .ret)))))),
  74, [.tmp 4]⟩
theorem c26 : compF Try.prog Q Try.f26 = some p26 := by kernel_rfl
theorem ht26 : HasText Try.prog 26 Try.f26 := ⟨Try.func26, rfl, by decide⟩
-- (*excise/scope.checker).item
def p27 : PF := ⟨(.seq (.ops 0 0 [⟨(some 6), .mov (.const (.int .i64 0)), none⟩])
  (.seq (.ops 1 1 [⟨(some 10), .mov (.tmp 0), none⟩,
    ⟨(some 11), .nilCheck (.tmp 10), none⟩,
    ⟨(some 12), .fieldAddr 7 (.tmp 11), none⟩,
    ⟨(some 13), .load none (.tmp 12), none⟩,
    ⟨(some 14), .mov (.tmp 1), none⟩,
    ⟨(some 15), .atL 5 (.tmp 13) (.tmp 14), none⟩,
    ⟨(some 16), .load (some 5) (.tmp 15), none⟩,
    ⟨(some 7), .alloc 41 (.agg [(.int .i64 0), (.int .i64 0), (.str []), (.int .i64 0), (.sl none 0 (.fix 0))]), none⟩,
    ⟨none, .store 5 (.tmp 7) (.tmp 16), none⟩])
  (.seq (.ops 2 1 [⟨(some 17), .fieldAddr 4 (.tmp 7), none⟩,
    ⟨(some 18), .load none (.tmp 17), none⟩,
    ⟨(some 19), .mov (.tmp 2), none⟩,
    ⟨(some 20), .atL 23 (.tmp 18) (.tmp 19), none⟩,
    ⟨(some 21), .fieldAddr 0 (.tmp 20), none⟩,
    ⟨(some 22), .load none (.tmp 21), none⟩,
    ⟨(some 8), .alloc 9 (.str []), none⟩,
    ⟨none, .store 1 (.tmp 8) (.tmp 22), none⟩])
  (.seq (.seq (.ops 3 0 [⟨(some 23), .load none (.tmp 8), none⟩,
    ⟨(some 24), .call (.func 41) [(.tmp 23)], none⟩,
    ⟨(some 25), .un .not (.tmp 24), none⟩])
  (.cond (.tmp 25)
   (.seq (.ops 4 0 [⟨(some 6), .mov (.const (.int .i64 90)), none⟩])
   .ret)
   .skip))
  (.seq (.ops 5 0 [⟨(some 26), .fieldAddr 4 (.tmp 7), none⟩,
    ⟨(some 27), .load none (.tmp 26), none⟩,
    ⟨(some 28), .mov (.tmp 2), none⟩,
    ⟨(some 29), .sliceL 23 (.tmp 27) none (some (.tmp 28)), none⟩,
    ⟨(some 30), .mkF 47 [] [(.tmp 8)], none⟩,
    ⟨(some 31), .call (.func 46) [(.tmp 29), (.tmp 30)], none⟩,
    ⟨(some 9), .mov (.tmp 31), none⟩])
  (.seq (.seq (.ops3 6 0 [(0, 0, ⟨(some 32), .mov (.tmp 9), none⟩),
    (1, 0, ⟨(some 33), .mov (.tmp 32), none⟩),
    (2, 0, ⟨(some 34), .mov (.tmp 1), (some ((some 33), false))⟩),
    (3, 0, ⟨(some 35), .bin .gtr (.tmp 34) (.const (.int .i64 0)), (some ((some 33), false))⟩),
    (4, 0, ⟨(some 36), .mov (.tmp 35), (some ((some 33), false))⟩),
    (5, 0, ⟨(some 37), .load none (.tmp 8), (some ((some 36), true))⟩),
    (6, 0, ⟨(some 38), .fieldAddr 2 (.tmp 7), (some ((some 36), true))⟩),
    (7, 0, ⟨(some 39), .load none (.tmp 38), (some ((some 36), true))⟩),
    (8, 0, ⟨(some 40), .bin .eql (.tmp 37) (.tmp 39), (some ((some 36), true))⟩),
    (9, 0, ⟨(some 41), .mov (.tmp 40), (some ((some 36), true))⟩),
    (10, 0, ⟨(some 42), .mov (.tmp 0), (some ((some 41), false))⟩),
    (11, 0, ⟨(some 43), .fieldAddr 0 (.tmp 7), (some ((some 41), false))⟩),
    (12, 0, ⟨(some 44), .load none (.tmp 43), (some ((some 41), false))⟩),
    (14, 0, ⟨(some 46), .load none (.tmp 8), (some ((some 41), false))⟩)] [(13, 0, ⟨(some 45), .call (.func 45) [(.tmp 42), (.tmp 44)], (some ((some 41), false))⟩, [9, 10, 12]),
    (15, 0, ⟨(some 47), .lookup 39 (.tmp 45) (.tmp 46) false, (some ((some 41), false))⟩, [9, 14]),
    (16, 0, ⟨(some 48), .pick (.tmp 41) (.const (.bool true)) (.tmp 47), (some ((some 36), true))⟩, [4, 9]),
    (17, 0, ⟨(some 49), .pick (.tmp 36) (.tmp 48) (.const (.bool false)), (some ((some 33), false))⟩, [1, 4]),
    (18, 0, ⟨(some 50), .pick (.tmp 33) (.const (.bool true)) (.tmp 49), none⟩, [1])] [])
  (.cond (.tmp 50)
   (.seq (.ops 7 0 [⟨(some 6), .mov (.const (.int .i64 5)), none⟩])
   .ret)
   .skip))
  (.seq (.ops 8 0 [⟨(some 6), .mov (.const (.int .i64 0)), none⟩])
  .ret))))))),
  51, [.tmp 6]⟩
theorem c27 : compF Try.prog Q Try.f27 = some p27 := by kernel_rfl
theorem ht27 : HasText Try.prog 27 Try.f27 := ⟨Try.func27, rfl, by decide⟩
-- excise/scope.Flat$1
def p36_l0 : PC := (.seq (.ops 5 0 [⟨(some 37), .bin .lss (.tmp 36) (.tmp 35), none⟩])
    (.seq (.cond (.tmp 37)
     .skip
     (.exit 0))
    (.seq (.block 1
     (.seq (.ops 6 1 [⟨(some 38), .atL 4 (.tmp 34) (.tmp 36), none⟩,
       ⟨(some 39), .load (some 4) (.tmp 38), none⟩,
       ⟨(some 10), .alloc 25 (.agg [(.str []), (.int .i64 0), (.sl none 0 (.fix 0)), (.sl none 0 (.fix 0))]), none⟩,
       ⟨none, .store 4 (.tmp 10) (.tmp 39), none⟩])
     (.ops 7 0 [⟨(some 40), .load none (.tmp 4), none⟩,
       ⟨(some 41), .load (some 4) (.tmp 10), none⟩,
       ⟨(some 42), .mov (.tmp 8), none⟩,
       ⟨(some 43), .mov (.tmp 2), none⟩,
       ⟨(some 44), .bin .add (.tmp 43) (.const (.int .i64 1)), none⟩,
       ⟨(some 45), .call (.tmp 40) [(.tmp 41), (.tmp 42), (.tmp 44)], none⟩])))
    (.ops 8 0 [⟨(some 46), .bin .add (.tmp 36) (.const (.int .i64 1)), none⟩,
      ⟨(some 36), .mov (.tmp 46), none⟩]))))
def p36 : PF := ⟨(.seq (.ops 0 1 [⟨(some 5), .box 25 (.tmp 0), none⟩])
  (.seq (.seq (.ops 1 0 [⟨(some 11), .load none (.tmp 3), none⟩,
    ⟨(some 12), .lenL (.tmp 11), none⟩,
    ⟨(some 13), .bin .geq (.tmp 12) (.const (.int .i64 64)), none⟩,
    ⟨(some 14), .mov (.tmp 13), none⟩,
    ⟨(some 15), .mov (.tmp 2), (some ((some 14), false))⟩,
    ⟨(some 16), .bin .gtr (.tmp 15) (.const (.int .i64 16)), (some ((some 14), false))⟩,
    ⟨(some 17), .pick (.tmp 14) (.const (.bool true)) (.tmp 16), none⟩])
  (.cond (.tmp 17)
   .ret
   .skip))
  (.seq (.ops 2 0 [⟨(some 18), .load none (.tmp 3), none⟩,
    ⟨(some 19), .lenL (.tmp 18), none⟩,
    ⟨(some 8), .mov (.tmp 19), none⟩])
  (.seq (.ops3 3 2 [(0, 0, ⟨(some 20), .load none (.tmp 3), none⟩),
    (1, 0, ⟨(some 21), .mov (.tmp 1), none⟩),
    (2, 0, ⟨(some 22), .mov (.tmp 2), none⟩),
    (3, 0, ⟨(some 23), .fieldAddr 0 (.tmp 5), none⟩),
    (4, 0, ⟨(some 24), .load none (.tmp 23), none⟩),
    (5, 0, ⟨(some 25), .fieldAddr 1 (.tmp 5), none⟩),
    (6, 0, ⟨(some 26), .load none (.tmp 25), none⟩),
    (7, 0, ⟨(some 27), .fieldAddr 2 (.tmp 5), none⟩),
    (8, 0, ⟨(some 28), .load none (.tmp 27), none⟩)] [(9, 0, ⟨(some 29), .call (.func 14) [(.tmp 28)], none⟩, [8]),
    (10, 0, ⟨(some 30), .build [(.int .i64 0), (.int .i64 0), (.str []), (.int .i64 0), (.sl none 0 (.fix 0))] [((0, 1), (.tmp 21)), ((1, 1), (.tmp 22)), ((2, 1), (.tmp 24)), ((3, 1), (.tmp 26)), ((4, 1), (.tmp 29))], none⟩, [1, 2, 4, 6]),
    (11, 0, ⟨(some 31), .bslice 41 5 1 (.agg [(.int .i64 0), (.int .i64 0), (.str []), (.int .i64 0), (.sl none 0 (.fix 0))]) [(0, (.tmp 30))], none⟩, []),
    (12, 1, ⟨(some 32), .append 41 5 64 (.tmp 20) (.tmp 31), none⟩, [0]),
    (13, 2, ⟨none, .store 1 (.tmp 3) (.tmp 32), none⟩, [0, 1, 2, 3, 4, 5, 6, 7, 8])] [])
  (.seq (.ops 4 0 [⟨(some 33), .fieldAddr 3 (.tmp 5), none⟩,
    ⟨(some 34), .load none (.tmp 33), none⟩,
    ⟨(some 35), .lenL (.tmp 34), none⟩,
    ⟨(some 36), .mov (.const (.int .i64 0)), none⟩])
  (.block 0
   (.loop p36_l0))))))),
  47, []⟩
theorem c36 : compF Try.prog Q Try.f36 = some p36 := by kernel_rfl
theorem ht36 : HasText Try.prog 36 Try.f36 := ⟨Try.func36, rfl, by decide⟩
-- slices.Contains[[]string,string]
def p37 : PF := ⟨(.seq (.ops 0 0 [⟨(some 4), .mov (.const (.bool false)), none⟩])
  (.seq (.ops 1 0 [⟨(some 5), .mov (.tmp 0), none⟩,
    ⟨(some 6), .mov (.tmp 1), none⟩,
    ⟨(some 7), .call (.func 63) [(.tmp 5), (.tmp 6)], none⟩,
    ⟨(some 8), .bin .geq (.tmp 7) (.const (.int .i64 0)), none⟩,
    ⟨(some 4), .mov (.tmp 8), none⟩])
  .ret)),
  9, [.tmp 4]⟩
theorem c37 : compF Try.prog Q Try.f37 = some p37 := by kernel_rfl
theorem ht37 : HasText Try.prog 37 Try.f37 := ⟨Try.func37, rfl, by decide⟩
-- slices.IndexFunc[[]excise/api.Table,excise/api.Table]
def p38_l0 : PC := (.seq (.ops 2 0 [⟨(some 9), .bin .lss (.tmp 8) (.tmp 7), none⟩])
    (.seq (.cond (.tmp 9)
     .skip
     (.exit 0))
    (.seq (.block 1
     (.seq (.ops 3 0 [⟨(some 10), .mov (.tmp 8), none⟩,
       ⟨(some 5), .mov (.tmp 10), none⟩])
     (.seq (.ops 4 0 [⟨(some 11), .mov (.tmp 1), none⟩,
       ⟨(some 12), .mov (.tmp 0), none⟩,
       ⟨(some 13), .mov (.tmp 5), none⟩,
       ⟨(some 14), .atL 2 (.tmp 12) (.tmp 13), none⟩,
       ⟨(some 15), .load (some 2) (.tmp 14), none⟩,
       ⟨(some 16), .call (.tmp 11) [(.tmp 15)], none⟩])
     (.cond (.tmp 16)
      (.seq (.ops 5 0 [⟨(some 17), .mov (.tmp 5), none⟩,
        ⟨(some 4), .mov (.tmp 17), none⟩])
      .ret)
      .skip))))
    (.ops 6 0 [⟨(some 18), .bin .add (.tmp 8) (.const (.int .i64 1)), none⟩,
      ⟨(some 8), .mov (.tmp 18), none⟩]))))
def p38 : PF := ⟨(.seq (.ops 0 0 [⟨(some 4), .mov (.const (.int .i64 0)), none⟩])
  (.seq (.seq (.ops 1 0 [⟨(some 6), .mov (.tmp 0), none⟩,
    ⟨(some 7), .lenL (.tmp 6), none⟩,
    ⟨(some 8), .mov (.const (.int .i64 0)), none⟩])
  (.block 0
   (.loop p38_l0)))
  (.seq (.ops 7 0 [⟨(some 4), .mov (.const (.int .i64 (-1))), none⟩])
  .ret))),
  19, [.tmp 4]⟩
theorem c38 : compF Try.prog Q Try.f38 = some p38 := by kernel_rfl
theorem ht38 : HasText Try.prog 38 Try.f38 := ⟨Try.func38, rfl, by decide⟩
-- excise/scope.Table$1
def p39 : PF := ⟨(.seq (.ops 0 1 [⟨(some 2), .box 83 (.tmp 0), none⟩,
    ⟨(some 3), .mov (.const (.bool false)), none⟩])
  (.seq (.ops 1 0 [⟨(some 4), .fieldAddr 0 (.tmp 2), none⟩,
    ⟨(some 5), .load none (.tmp 4), none⟩,
    ⟨(some 6), .load none (.tmp 1), none⟩,
    ⟨(some 7), .bin .eql (.tmp 5) (.tmp 6), none⟩,
    ⟨(some 3), .mov (.tmp 7), none⟩])
  .ret)),
  8, [.tmp 3]⟩
theorem c39 : compF Try.prog Q Try.f39 = some p39 := by kernel_rfl
theorem ht39 : HasText Try.prog 39 Try.f39 := ⟨Try.func39, rfl, by decide⟩
-- excise/scope.may
def p41 : PF := ⟨(.seq (.ops 0 0 [⟨(some 2), .mov (.const (.bool false)), none⟩])
  (.seq (.ops 1 0 [⟨(some 3), .mov (.tmp 0), none⟩,
    ⟨(some 4), .call (.func 64) [(.tmp 3)], none⟩,
    ⟨(some 5), .mov (.tmp 4), none⟩,
    ⟨(some 6), .mov (.tmp 0), (some ((some 5), true))⟩,
    ⟨(some 7), .call (.func 12) [(.tmp 6)], (some ((some 5), true))⟩,
    ⟨(some 8), .un .not (.tmp 7), (some ((some 5), true))⟩,
    ⟨(some 9), .pick (.tmp 5) (.tmp 8) (.const (.bool false)), none⟩,
    ⟨(some 2), .mov (.tmp 9), none⟩])
  .ret)),
  10, [.tmp 2]⟩
theorem c41 : compF Try.prog Q Try.f41 = some p41 := by kernel_rfl
theorem ht41 : HasText Try.prog 41 Try.f41 := ⟨Try.func41, rfl, by decide⟩
-- (*excise/scope.checker).def$1
def p42 : PF := ⟨(.seq (.ops 0 1 [⟨(some 1), .box 41 (.tmp 0), none⟩,
    ⟨(some 2), .mov (.const (.bool false)), none⟩])
  (.seq (.ops 1 0 [⟨(some 3), .fieldAddr 1 (.tmp 1), none⟩,
    ⟨(some 4), .load none (.tmp 3), none⟩,
    ⟨(some 5), .bin .gtr (.tmp 4) (.const (.int .i64 4)), none⟩,
    ⟨(some 2), .mov (.tmp 5), none⟩])
  .ret)),
  6, [.tmp 2]⟩
theorem c42 : compF Try.prog Q Try.f42 = some p42 := by kernel_rfl
theorem ht42 : HasText Try.prog 42 Try.f42 := ⟨Try.func42, rfl, by decide⟩
-- slices.ContainsFunc[[]excise/api.Sect,excise/api.Sect]
def p43 : PF := ⟨(.seq (.ops 0 0 [⟨(some 4), .mov (.const (.bool false)), none⟩])
  (.seq (.ops 1 0 [⟨(some 5), .mov (.tmp 0), none⟩,
    ⟨(some 6), .mov (.tmp 1), none⟩,
    ⟨(some 7), .call (.func 65) [(.tmp 5), (.tmp 6)], none⟩,
    ⟨(some 8), .bin .geq (.tmp 7) (.const (.int .i64 0)), none⟩,
    ⟨(some 4), .mov (.tmp 8), none⟩])
  .ret)),
  9, [.tmp 4]⟩
theorem c43 : compF Try.prog Q Try.f43 = some p43 := by kernel_rfl
theorem ht43 : HasText Try.prog 43 Try.f43 := ⟨Try.func43, rfl, by decide⟩
-- excise/scope.Kid
def p44_l0 : PC := (.seq (.ops 2 0 [⟨(some 15), .bin .lss (.tmp 14) (.tmp 13), none⟩])
    (.seq (.cond (.tmp 15)
     .skip
     (.exit 0))
    (.seq (.block 1
     (.seq (.ops 3 0 [⟨(some 16), .atL 1 (.tmp 12) (.tmp 14), none⟩,
       ⟨(some 17), .load none (.tmp 16), none⟩,
       ⟨(some 9), .mov (.tmp 17), none⟩])
     (.seq (.ops 4 0 [⟨(some 18), .mov (.tmp 0), none⟩,
       ⟨(some 19), .mov (.tmp 9), none⟩,
       ⟨(some 20), .atL 5 (.tmp 18) (.tmp 19), none⟩,
       ⟨(some 21), .fieldAddr 2 (.tmp 20), none⟩,
       ⟨(some 22), .load none (.tmp 21), none⟩,
       ⟨(some 23), .mov (.tmp 2), none⟩,
       ⟨(some 24), .bin .eql (.tmp 22) (.tmp 23), none⟩])
     (.cond (.tmp 24)
      (.seq (.ops 5 0 [⟨(some 25), .mov (.tmp 9), none⟩,
        ⟨(some 6), .mov (.tmp 25), none⟩,
        ⟨(some 7), .mov (.const (.bool true)), none⟩])
      .ret)
      .skip))))
    (.ops 6 0 [⟨(some 26), .bin .add (.tmp 14) (.const (.int .i64 1)), none⟩,
      ⟨(some 14), .mov (.tmp 26), none⟩]))))
def p44 : PF := ⟨(.seq (.ops 0 0 [⟨(some 6), .mov (.const (.int .i64 0)), none⟩,
    ⟨(some 7), .mov (.const (.bool false)), none⟩])
  (.seq (.seq (.ops 1 0 [⟨(some 10), .mov (.tmp 0), none⟩,
    ⟨(some 11), .mov (.tmp 1), none⟩,
    ⟨(some 12), .call (.func 66) [(.tmp 10), (.tmp 11)], none⟩,
    ⟨(some 13), .lenL (.tmp 12), none⟩,
    ⟨(some 14), .mov (.const (.int .i64 0)), none⟩])
  (.block 0
   (.loop p44_l0)))
  (.seq (.ops 7 0 [⟨(some 6), .mov (.const (.int .i64 0)), none⟩,
    ⟨(some 7), .mov (.const (.bool false)), none⟩])
  .ret))),
  27, [.tmp 6, .tmp 7]⟩
theorem c44 : compF Try.prog Q Try.f44 = some p44 := by kernel_rfl
theorem ht44 : HasText Try.prog 44 Try.f44 := ⟨Try.func44, rfl, by decide⟩
-- (*excise/scope.checker).around
def p45_l0 : PC := (.seq (.ops 9 0 [⟨(some 44), .bin .lss (.tmp 43) (.tmp 42), none⟩])
       (.seq (.cond (.tmp 44)
        .skip
        (.exit 2))
       (.seq (.block 3
        (.seq (.ops 10 1 [⟨(some 45), .atL 23 (.tmp 41) (.tmp 43), none⟩,
          ⟨(some 46), .load (some 23) (.tmp 45), none⟩,
          ⟨(some 8), .alloc 55 (.agg [(.str []), (.int .i64 0), (.int .i64 0), (.int .i64 0), (.bool false), (.int .i64 0), (.int .i64 0), (.int .i64 0), (.str []), (.str []), (.int .i64 0), (.bool false), (.int .u64 0), (.int .u64 0), (.int .u64 0), (.int .u64 0), (.int .i64 0), (.bool false), (.str []), (.int .i64 0), (.int .i64 0), (.int .i64 0), (.sl none 0 (.fix 0))]), none⟩,
          ⟨none, .store 23 (.tmp 8) (.tmp 46), none⟩])
        (.ops 11 0 [⟨(some 47), .mov (.tmp 5), none⟩,
          ⟨(some 48), .fieldAddr 0 (.tmp 8), none⟩,
          ⟨(some 49), .load none (.tmp 48), none⟩,
          ⟨none, .update 9 (.tmp 47) (.tmp 49) (.const (.bool true)), none⟩])))
       (.ops 12 0 [⟨(some 50), .bin .add (.tmp 43) (.const (.int .i64 1)), none⟩,
         ⟨(some 43), .mov (.tmp 50), none⟩]))))
def p45_l1 : PC := (.seq (.ops 3 0 [⟨(some 16), .bin .lss (.tmp 15) (.tmp 14), none⟩])
    (.seq (.cond (.tmp 16)
     .skip
     (.exit 0))
    (.seq (.block 1
     (.seq (.seq (.ops 4 0 [⟨(some 17), .mov (.tmp 1), none⟩,
       ⟨(some 18), .bin .lss (.tmp 17) (.const (.int .i64 0)), none⟩,
       ⟨(some 19), .mov (.tmp 18), none⟩,
       ⟨(some 20), .mov (.tmp 1), (some ((some 19), false))⟩,
       ⟨(some 21), .mov (.tmp 0), (some ((some 19), false))⟩,
       ⟨(some 22), .nilCheck (.tmp 21), (some ((some 19), false))⟩,
       ⟨(some 23), .fieldAddr 7 (.tmp 22), (some ((some 19), false))⟩,
       ⟨(some 24), .load none (.tmp 23), (some ((some 19), false))⟩,
       ⟨(some 25), .lenL (.tmp 24), (some ((some 19), false))⟩,
       ⟨(some 26), .bin .geq (.tmp 20) (.tmp 25), (some ((some 19), false))⟩,
       ⟨(some 27), .pick (.tmp 19) (.const (.bool true)) (.tmp 26), none⟩])
     (.cond (.tmp 27)
      (.exit 0)
      .skip))
     (.seq (.ops 5 1 [⟨(some 28), .mov (.tmp 0), none⟩,
       ⟨(some 29), .nilCheck (.tmp 28), none⟩,
       ⟨(some 30), .fieldAddr 7 (.tmp 29), none⟩,
       ⟨(some 31), .load none (.tmp 30), none⟩,
       ⟨(some 32), .mov (.tmp 1), none⟩,
       ⟨(some 33), .atL 5 (.tmp 31) (.tmp 32), none⟩,
       ⟨(some 34), .load (some 5) (.tmp 33), none⟩,
       ⟨(some 6), .alloc 41 (.agg [(.int .i64 0), (.int .i64 0), (.str []), (.int .i64 0), (.sl none 0 (.fix 0))]), none⟩,
       ⟨none, .store 5 (.tmp 6) (.tmp 34), none⟩])
     (.seq (.seq (.ops 6 0 [⟨(some 35), .mov (.tmp 1), none⟩,
       ⟨(some 36), .bin .gtr (.tmp 35) (.const (.int .i64 0)), none⟩])
     (.cond (.tmp 36)
      (.ops 7 0 [⟨(some 37), .mov (.tmp 5), none⟩,
        ⟨(some 38), .fieldAddr 2 (.tmp 6), none⟩,
        ⟨(some 39), .load none (.tmp 38), none⟩,
        ⟨none, .update 9 (.tmp 37) (.tmp 39) (.const (.bool true)), none⟩])
      .skip))
     (.seq (.seq (.ops 8 0 [⟨(some 40), .fieldAddr 4 (.tmp 6), none⟩,
       ⟨(some 41), .load none (.tmp 40), none⟩,
       ⟨(some 42), .lenL (.tmp 41), none⟩,
       ⟨(some 43), .mov (.const (.int .i64 0)), none⟩])
     (.block 2
      (.loop p45_l0)))
     (.ops 13 0 [⟨(some 51), .fieldAddr 0 (.tmp 6), none⟩,
       ⟨(some 52), .load none (.tmp 51), none⟩,
       ⟨(some 1), .mov (.tmp 52), none⟩]))))))
    (.ops 14 0 [⟨(some 53), .bin .add (.tmp 15) (.const (.int .i64 1)), none⟩,
      ⟨(some 15), .mov (.tmp 53), none⟩]))))
def p45 : PF := ⟨(.seq (.ops 0 0 [⟨(some 4), .mov (.const (.map none)), none⟩])
  (.seq (.ops 1 1 [⟨(some 9), .mmap, none⟩,
    ⟨(some 5), .mov (.tmp 9), none⟩])
  (.seq (.seq (.ops 2 0 [⟨(some 10), .mov (.tmp 0), none⟩,
    ⟨(some 11), .nilCheck (.tmp 10), none⟩,
    ⟨(some 12), .fieldAddr 7 (.tmp 11), none⟩,
    ⟨(some 13), .load none (.tmp 12), none⟩,
    ⟨(some 14), .lenL (.tmp 13), none⟩,
    ⟨(some 15), .mov (.const (.int .i64 0)), none⟩])
  (.block 0
   (.loop p45_l1)))
  (.seq (.ops 15 0 [⟨(some 54), .mov (.tmp 5), none⟩,
    ⟨(some 4), .mov (.tmp 54), none⟩])
  .ret)))),
  55, [.tmp 4]⟩
theorem c45 : compF Try.prog Q Try.f45 = some p45 := by kernel_rfl
theorem ht45 : HasText Try.prog 45 Try.f45 := ⟨Try.func45, rfl, by decide⟩
-- slices.ContainsFunc[[]excise/api.Item,excise/api.Item]
def p46 : PF := ⟨(.seq (.ops 0 0 [⟨(some 4), .mov (.const (.bool false)), none⟩])
  (.seq (.ops 1 0 [⟨(some 5), .mov (.tmp 0), none⟩,
    ⟨(some 6), .mov (.tmp 1), none⟩,
    ⟨(some 7), .call (.func 67) [(.tmp 5), (.tmp 6)], none⟩,
    ⟨(some 8), .bin .geq (.tmp 7) (.const (.int .i64 0)), none⟩,
    ⟨(some 4), .mov (.tmp 8), none⟩])
  .ret)),
  9, [.tmp 4]⟩
theorem c46 : compF Try.prog Q Try.f46 = some p46 := by kernel_rfl
theorem ht46 : HasText Try.prog 46 Try.f46 := ⟨Try.func46, rfl, by decide⟩
-- (*excise/scope.checker).item$1
def p47 : PF := ⟨(.seq (.ops 0 1 [⟨(some 2), .box 55 (.tmp 0), none⟩,
    ⟨(some 3), .mov (.const (.bool false)), none⟩])
  (.seq (.ops 1 0 [⟨(some 4), .fieldAddr 0 (.tmp 2), none⟩,
    ⟨(some 5), .load none (.tmp 4), none⟩,
    ⟨(some 6), .load none (.tmp 1), none⟩,
    ⟨(some 7), .bin .eql (.tmp 5) (.tmp 6), none⟩,
    ⟨(some 3), .mov (.tmp 7), none⟩])
  .ret)),
  8, [.tmp 3]⟩
theorem c47 : compF Try.prog Q Try.f47 = some p47 := by kernel_rfl
theorem ht47 : HasText Try.prog 47 Try.f47 := ⟨Try.func47, rfl, by decide⟩
-- slices.Index[[]string,string]
def p63_l0 : PC := (.seq (.ops 2 0 [⟨(some 9), .bin .lss (.tmp 8) (.tmp 7), none⟩])
    (.seq (.cond (.tmp 9)
     .skip
     (.exit 0))
    (.seq (.block 1
     (.seq (.ops 3 0 [⟨(some 10), .mov (.tmp 8), none⟩,
       ⟨(some 5), .mov (.tmp 10), none⟩])
     (.seq (.ops 4 0 [⟨(some 11), .mov (.tmp 1), none⟩,
       ⟨(some 12), .mov (.tmp 0), none⟩,
       ⟨(some 13), .mov (.tmp 5), none⟩,
       ⟨(some 14), .atL 1 (.tmp 12) (.tmp 13), none⟩,
       ⟨(some 15), .load none (.tmp 14), none⟩,
       ⟨(some 16), .bin .eql (.tmp 11) (.tmp 15), none⟩])
     (.cond (.tmp 16)
      (.seq (.ops 5 0 [⟨(some 17), .mov (.tmp 5), none⟩,
        ⟨(some 4), .mov (.tmp 17), none⟩])
      .ret)
      .skip))))
    (.ops 6 0 [⟨(some 18), .bin .add (.tmp 8) (.const (.int .i64 1)), none⟩,
      ⟨(some 8), .mov (.tmp 18), none⟩]))))
def p63 : PF := ⟨(.seq (.ops 0 0 [⟨(some 4), .mov (.const (.int .i64 0)), none⟩])
  (.seq (.seq (.ops 1 0 [⟨(some 6), .mov (.tmp 0), none⟩,
    ⟨(some 7), .lenL (.tmp 6), none⟩,
    ⟨(some 8), .mov (.const (.int .i64 0)), none⟩])
  (.block 0
   (.loop p63_l0)))
  (.seq (.ops 7 0 [⟨(some 4), .mov (.const (.int .i64 (-1))), none⟩])
  .ret))),
  19, [.tmp 4]⟩
theorem c63 : compF Try.prog Q Try.f63 = some p63 := by kernel_rfl
theorem ht63 : HasText Try.prog 63 Try.f63 := ⟨Try.func63, rfl, by decide⟩
-- excise/lex.Name
def p64 : PF := ⟨(.seq (.ops 0 0 [⟨(some 2), .mov (.const (.bool false)), none⟩])
  (.seq (.ops 1 0 [⟨(some 3), .mov (.tmp 0), none⟩,
    ⟨(some 4), .bin .neq (.tmp 3) (.const (.string ⟨#[]⟩)), none⟩,
    ⟨(some 5), .mov (.tmp 4), none⟩,
    ⟨(some 6), .mov (.tmp 0), (some ((some 5), true))⟩,
    ⟨(some 7), .lenS (.tmp 6), (some ((some 5), true))⟩,
    ⟨(some 8), .bin .leq (.tmp 7) (.const (.int .i64 32)), (some ((some 5), true))⟩,
    ⟨(some 9), .pick (.tmp 5) (.tmp 8) (.const (.bool false)), none⟩,
    ⟨(some 10), .mov (.tmp 9), none⟩,
    ⟨(some 11), .mov (.tmp 0), (some ((some 10), true))⟩,
    ⟨(some 12), .indexS (.tmp 11) (.const (.int .i64 0)), (some ((some 10), true))⟩,
    ⟨(some 13), .call (.func 76) [(.tmp 12)], (some ((some 10), true))⟩,
    ⟨(some 14), .pick (.tmp 10) (.tmp 13) (.const (.bool false)), none⟩,
    ⟨(some 15), .mov (.tmp 14), none⟩,
    ⟨(some 16), .mov (.tmp 0), (some ((some 15), true))⟩,
    ⟨(some 17), .call (.func 77) [(.tmp 16)], (some ((some 15), true))⟩,
    ⟨(some 18), .mov (.tmp 0), (some ((some 15), true))⟩,
    ⟨(some 19), .lenS (.tmp 18), (some ((some 15), true))⟩,
    ⟨(some 20), .bin .eql (.tmp 17) (.tmp 19), (some ((some 15), true))⟩,
    ⟨(some 21), .pick (.tmp 15) (.tmp 20) (.const (.bool false)), none⟩,
    ⟨(some 2), .mov (.tmp 21), none⟩])
  .ret)),
  22, [.tmp 2]⟩
theorem c64 : compF Try.prog Q Try.f64 = some p64 := by kernel_rfl
theorem ht64 : HasText Try.prog 64 Try.f64 := ⟨Try.func64, rfl, by decide⟩
-- slices.IndexFunc[[]excise/api.Sect,excise/api.Sect]
def p65_l0 : PC := (.seq (.ops 2 0 [⟨(some 9), .bin .lss (.tmp 8) (.tmp 7), none⟩])
    (.seq (.cond (.tmp 9)
     .skip
     (.exit 0))
    (.seq (.block 1
     (.seq (.ops 3 0 [⟨(some 10), .mov (.tmp 8), none⟩,
       ⟨(some 5), .mov (.tmp 10), none⟩])
     (.seq (.ops 4 0 [⟨(some 11), .mov (.tmp 1), none⟩,
       ⟨(some 12), .mov (.tmp 0), none⟩,
       ⟨(some 13), .mov (.tmp 5), none⟩,
       ⟨(some 14), .atL 5 (.tmp 12) (.tmp 13), none⟩,
       ⟨(some 15), .load (some 5) (.tmp 14), none⟩,
       ⟨(some 16), .call (.tmp 11) [(.tmp 15)], none⟩])
     (.cond (.tmp 16)
      (.seq (.ops 5 0 [⟨(some 17), .mov (.tmp 5), none⟩,
        ⟨(some 4), .mov (.tmp 17), none⟩])
      .ret)
      .skip))))
    (.ops 6 0 [⟨(some 18), .bin .add (.tmp 8) (.const (.int .i64 1)), none⟩,
      ⟨(some 8), .mov (.tmp 18), none⟩]))))
def p65 : PF := ⟨(.seq (.ops 0 0 [⟨(some 4), .mov (.const (.int .i64 0)), none⟩])
  (.seq (.seq (.ops 1 0 [⟨(some 6), .mov (.tmp 0), none⟩,
    ⟨(some 7), .lenL (.tmp 6), none⟩,
    ⟨(some 8), .mov (.const (.int .i64 0)), none⟩])
  (.block 0
   (.loop p65_l0)))
  (.seq (.ops 7 0 [⟨(some 4), .mov (.const (.int .i64 (-1))), none⟩])
  .ret))),
  19, [.tmp 4]⟩
theorem c65 : compF Try.prog Q Try.f65 = some p65 := by kernel_rfl
theorem ht65 : HasText Try.prog 65 Try.f65 := ⟨Try.func65, rfl, by decide⟩
-- excise/scope.Kids
def p66_l0 : PC := (.seq (.ops 3 0 [⟨(some 11), .bin .lss (.tmp 10) (.tmp 9), none⟩])
    (.seq (.cond (.tmp 11)
     .skip
     (.exit 0))
    (.seq (.block 1
     (.seq (.ops 4 1 [⟨(some 12), .mov (.tmp 10), none⟩,
       ⟨(some 13), .atL 5 (.tmp 8) (.tmp 10), none⟩,
       ⟨(some 14), .load (some 5) (.tmp 13), none⟩,
       ⟨(some 7), .alloc 41 (.agg [(.int .i64 0), (.int .i64 0), (.str []), (.int .i64 0), (.sl none 0 (.fix 0))]), none⟩,
       ⟨(some 6), .mov (.tmp 12), none⟩,
       ⟨none, .store 5 (.tmp 7) (.tmp 14), none⟩])
     (.seq (.ops 5 0 [⟨(some 15), .mov (.tmp 1), none⟩,
       ⟨(some 16), .bin .geq (.tmp 15) (.const (.int .i64 0)), none⟩,
       ⟨(some 17), .mov (.tmp 16), none⟩,
       ⟨(some 18), .fieldAddr 0 (.tmp 7), (some ((some 17), true))⟩,
       ⟨(some 19), .load none (.tmp 18), (some ((some 17), true))⟩,
       ⟨(some 20), .mov (.tmp 1), (some ((some 17), true))⟩,
       ⟨(some 21), .bin .eql (.tmp 19) (.tmp 20), (some ((some 17), true))⟩,
       ⟨(some 22), .pick (.tmp 17) (.tmp 21) (.const (.bool false)), none⟩])
     (.cond (.tmp 22)
      (.ops 6 2 [⟨(some 23), .mov (.tmp 5), none⟩,
        ⟨(some 24), .mov (.tmp 6), none⟩,
        ⟨(some 25), .bslice 3 1 1 (.int .i64 0) [(0, (.tmp 24))], none⟩,
        ⟨(some 26), .append 3 1 8 (.tmp 23) (.tmp 25), none⟩,
        ⟨(some 5), .mov (.tmp 26), none⟩])
      .skip))))
    (.ops 7 0 [⟨(some 27), .bin .add (.tmp 10) (.const (.int .i64 1)), none⟩,
      ⟨(some 10), .mov (.tmp 27), none⟩]))))
def p66 : PF := ⟨(.seq (.ops 0 0 [⟨(some 4), .mov (.const (.slice none 0 0)), none⟩])
  (.seq (.ops 1 0 [⟨(some 5), .mov (.const (.slice none 0 0)), none⟩])
  (.seq (.seq (.ops 2 0 [⟨(some 8), .mov (.tmp 0), none⟩,
    ⟨(some 9), .lenL (.tmp 8), none⟩,
    ⟨(some 10), .mov (.const (.int .i64 0)), none⟩])
  (.block 0
   (.loop p66_l0)))
  (.seq (.ops 8 0 [⟨(some 28), .mov (.tmp 5), none⟩,
    ⟨(some 4), .mov (.tmp 28), none⟩])
  .ret)))),
  29, [.tmp 4]⟩
theorem c66 : compF Try.prog Q Try.f66 = some p66 := by kernel_rfl
theorem ht66 : HasText Try.prog 66 Try.f66 := ⟨Try.func66, rfl, by decide⟩
-- slices.IndexFunc[[]excise/api.Item,excise/api.Item]
def p67_l0 : PC := (.seq (.ops 2 0 [⟨(some 9), .bin .lss (.tmp 8) (.tmp 7), none⟩])
    (.seq (.cond (.tmp 9)
     .skip
     (.exit 0))
    (.seq (.block 1
     (.seq (.ops 3 0 [⟨(some 10), .mov (.tmp 8), none⟩,
       ⟨(some 5), .mov (.tmp 10), none⟩])
     (.seq (.ops 4 0 [⟨(some 11), .mov (.tmp 1), none⟩,
       ⟨(some 12), .mov (.tmp 0), none⟩,
       ⟨(some 13), .mov (.tmp 5), none⟩,
       ⟨(some 14), .atL 23 (.tmp 12) (.tmp 13), none⟩,
       ⟨(some 15), .load (some 23) (.tmp 14), none⟩,
       ⟨(some 16), .call (.tmp 11) [(.tmp 15)], none⟩])
     (.cond (.tmp 16)
      (.seq (.ops 5 0 [⟨(some 17), .mov (.tmp 5), none⟩,
        ⟨(some 4), .mov (.tmp 17), none⟩])
      .ret)
      .skip))))
    (.ops 6 0 [⟨(some 18), .bin .add (.tmp 8) (.const (.int .i64 1)), none⟩,
      ⟨(some 8), .mov (.tmp 18), none⟩]))))
def p67 : PF := ⟨(.seq (.ops 0 0 [⟨(some 4), .mov (.const (.int .i64 0)), none⟩])
  (.seq (.seq (.ops 1 0 [⟨(some 6), .mov (.tmp 0), none⟩,
    ⟨(some 7), .lenL (.tmp 6), none⟩,
    ⟨(some 8), .mov (.const (.int .i64 0)), none⟩])
  (.block 0
   (.loop p67_l0)))
  (.seq (.ops 7 0 [⟨(some 4), .mov (.const (.int .i64 (-1))), none⟩])
  .ret))),
  19, [.tmp 4]⟩
theorem c67 : compF Try.prog Q Try.f67 = some p67 := by kernel_rfl
theorem ht67 : HasText Try.prog 67 Try.f67 := ⟨Try.func67, rfl, by decide⟩
-- excise/scope.read$1
def p68 : PF := ⟨(.seq (.ops 0 1 [⟨(some 2), .box 55 (.tmp 0), none⟩,
    ⟨(some 3), .mov (.const (.bool false)), none⟩])
  (.seq (.ops 1 0 [⟨(some 4), .fieldAddr 0 (.tmp 2), none⟩,
    ⟨(some 5), .load none (.tmp 4), none⟩,
    ⟨(some 6), .load none (.tmp 1), none⟩,
    ⟨(some 7), .bin .eql (.tmp 5) (.tmp 6), none⟩,
    ⟨(some 8), .mov (.tmp 7), none⟩,
    ⟨(some 9), .fieldAddr 1 (.tmp 2), (some ((some 8), true))⟩,
    ⟨(some 10), .load none (.tmp 9), (some ((some 8), true))⟩,
    ⟨(some 11), .bin .eql (.tmp 10) (.const (.int .i64 1)), (some ((some 8), true))⟩,
    ⟨(some 12), .mov (.tmp 11), (some ((some 8), true))⟩,
    ⟨(some 13), .fieldAddr 1 (.tmp 2), (some ((some 12), false))⟩,
    ⟨(some 14), .load none (.tmp 13), (some ((some 12), false))⟩,
    ⟨(some 15), .bin .eql (.tmp 14) (.const (.int .i64 2)), (some ((some 12), false))⟩,
    ⟨(some 16), .pick (.tmp 12) (.const (.bool true)) (.tmp 15), (some ((some 8), true))⟩,
    ⟨(some 17), .pick (.tmp 8) (.tmp 16) (.const (.bool false)), none⟩,
    ⟨(some 3), .mov (.tmp 17), none⟩])
  .ret)),
  18, [.tmp 3]⟩
theorem c68 : compF Try.prog Q Try.f68 = some p68 := by kernel_rfl
theorem ht68 : HasText Try.prog 68 Try.f68 := ⟨Try.func68, rfl, by decide⟩
-- excise/lex.letter
def p76 : PF := ⟨(.seq (.ops 0 0 [⟨(some 2), .mov (.const (.bool false)), none⟩])
  (.seq (.ops 1 0 [⟨(some 3), .mov (.tmp 0), none⟩,
    ⟨(some 4), .bin .eql (.tmp 3) (.const (.int .u8 95)), none⟩,
    ⟨(some 5), .mov (.tmp 4), none⟩,
    ⟨(some 6), .mov (.tmp 0), (some ((some 5), false))⟩,
    ⟨(some 7), .bin .geq (.tmp 6) (.const (.int .u8 97)), (some ((some 5), false))⟩,
    ⟨(some 8), .mov (.tmp 7), (some ((some 5), false))⟩,
    ⟨(some 9), .mov (.tmp 0), (some ((some 8), true))⟩,
    ⟨(some 10), .bin .leq (.tmp 9) (.const (.int .u8 122)), (some ((some 8), true))⟩,
    ⟨(some 11), .pick (.tmp 8) (.tmp 10) (.const (.bool false)), (some ((some 5), false))⟩,
    ⟨(some 12), .pick (.tmp 5) (.const (.bool true)) (.tmp 11), none⟩,
    ⟨(some 13), .mov (.tmp 12), none⟩,
    ⟨(some 14), .mov (.tmp 0), (some ((some 13), false))⟩,
    ⟨(some 15), .bin .geq (.tmp 14) (.const (.int .u8 65)), (some ((some 13), false))⟩,
    ⟨(some 16), .mov (.tmp 15), (some ((some 13), false))⟩,
    ⟨(some 17), .mov (.tmp 0), (some ((some 16), true))⟩,
    ⟨(some 18), .bin .leq (.tmp 17) (.const (.int .u8 90)), (some ((some 16), true))⟩,
    ⟨(some 19), .pick (.tmp 16) (.tmp 18) (.const (.bool false)), (some ((some 13), false))⟩,
    ⟨(some 20), .pick (.tmp 13) (.const (.bool true)) (.tmp 19), none⟩,
    ⟨(some 2), .mov (.tmp 20), none⟩])
  .ret)),
  21, [.tmp 2]⟩
theorem c76 : compF Try.prog Q Try.f76 = some p76 := by kernel_rfl
theorem ht76 : HasText Try.prog 76 Try.f76 := ⟨Try.func76, rfl, by decide⟩
-- excise/lex.run
def p77_l0 : PC := (.seq (.seq (.ops 2 0 [⟨(some 4), .mov (.tmp 3), none⟩,
      ⟨(some 5), .mov (.tmp 0), none⟩,
      ⟨(some 6), .lenS (.tmp 5), none⟩,
      ⟨(some 7), .bin .lss (.tmp 4) (.tmp 6), none⟩,
      ⟨(some 8), .mov (.tmp 7), none⟩,
      ⟨(some 9), .mov (.tmp 0), (some ((some 8), true))⟩,
      ⟨(some 10), .mov (.tmp 3), (some ((some 8), true))⟩,
      ⟨(some 11), .indexS (.tmp 9) (.tmp 10), (some ((some 8), true))⟩,
      ⟨(some 12), .call (.func 76) [(.tmp 11)], (some ((some 8), true))⟩,
      ⟨(some 13), .mov (.tmp 12), (some ((some 8), true))⟩,
      ⟨(some 14), .mov (.tmp 0), (some ((some 13), false))⟩,
      ⟨(some 15), .mov (.tmp 3), (some ((some 13), false))⟩,
      ⟨(some 16), .indexS (.tmp 14) (.tmp 15), (some ((some 13), false))⟩,
      ⟨(some 17), .call (.func 78) [(.tmp 16)], (some ((some 13), false))⟩,
      ⟨(some 18), .pick (.tmp 13) (.const (.bool true)) (.tmp 17), (some ((some 8), true))⟩,
      ⟨(some 19), .pick (.tmp 8) (.tmp 18) (.const (.bool false)), none⟩])
    (.cond (.tmp 19)
     .skip
     (.exit 0)))
    (.block 1
     (.ops 3 0 [⟨(some 20), .mov (.tmp 3), none⟩,
       ⟨(some 21), .bin .add (.tmp 20) (.const (.int .i64 1)), none⟩,
       ⟨(some 3), .mov (.tmp 21), none⟩])))
def p77 : PF := ⟨(.seq (.ops 0 0 [⟨(some 2), .mov (.const (.int .i64 0)), none⟩])
  (.seq (.ops 1 0 [⟨(some 3), .mov (.const (.int .i64 0)), none⟩])
  (.seq (.block 0
   (.loop p77_l0))
  (.seq (.ops 4 0 [⟨(some 22), .mov (.tmp 3), none⟩,
    ⟨(some 2), .mov (.tmp 22), none⟩])
  .ret)))),
  23, [.tmp 2]⟩
theorem c77 : compF Try.prog Q Try.f77 = some p77 := by kernel_rfl
theorem ht77 : HasText Try.prog 77 Try.f77 := ⟨Try.func77, rfl, by decide⟩
-- excise/lex.digit
def p78 : PF := ⟨(.seq (.ops 0 0 [⟨(some 2), .mov (.const (.bool false)), none⟩])
  (.seq (.ops 1 0 [⟨(some 3), .mov (.tmp 0), none⟩,
    ⟨(some 4), .bin .geq (.tmp 3) (.const (.int .u8 48)), none⟩,
    ⟨(some 5), .mov (.tmp 4), none⟩,
    ⟨(some 6), .mov (.tmp 0), (some ((some 5), true))⟩,
    ⟨(some 7), .bin .leq (.tmp 6) (.const (.int .u8 57)), (some ((some 5), true))⟩,
    ⟨(some 8), .pick (.tmp 5) (.tmp 7) (.const (.bool false)), none⟩,
    ⟨(some 2), .mov (.tmp 8), none⟩])
  .ret)),
  9, [.tmp 2]⟩
theorem c78 : compF Try.prog Q Try.f78 = some p78 := by kernel_rfl
theorem ht78 : HasText Try.prog 78 Try.f78 := ⟨Try.func78, rfl, by decide⟩
end Go.Proofs.Ytfnlokknpldkgaa
