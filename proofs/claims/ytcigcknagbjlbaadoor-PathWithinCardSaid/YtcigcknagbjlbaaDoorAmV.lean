/- The resolved code of the functions. Written by mkp.py. -/
import Derived.Test.YtcigcknagbjlbaaDoorAmU
import Derived.Test.YtcigcknagbjlbaaDoorChecked
namespace Go.Proofs.YtcigcknagbjlbaaDoor
open Go Go.Am
set_option maxRecDepth 100000
set_option linter.unusedVariables false

def quiet : List FuncId := [4,5,6,7,8,9,10,11,12,13,14,15,16,17,18]
def Q (f : FuncId) : Bool := quiet.contains f

-- excise/exciselaw15.PathWithin
def p3 : PF := ⟨(.seq (.ops 0 2 [⟨(some 2), .box 27 (.tmp 0), none⟩,
    ⟨(some 3), .box 25 (.tmp 1), none⟩,
    ⟨(some 4), .mov (.const (.bool false)), none⟩])
  (.seq (.ops2 1 2 [10] [⟨(some 8), .fieldAddr 0 (.tmp 2), none⟩,
    ⟨(some 9), .load none (.tmp 8), none⟩,
    ⟨(some 10), .fieldAddr 0 (.tmp 2), none⟩,
    ⟨(some 11), .load none (.tmp 10), none⟩,
    ⟨(some 12), .lenL (.tmp 11), none⟩,
    ⟨(some 13), .min [(.tmp 12), (.const (.int .i64 100))], none⟩,
    ⟨(some 14), .sliceL 5 (.tmp 9) none (some (.tmp 13)), none⟩,
    ⟨(some 15), .fieldAddr 1 (.tmp 2), none⟩,
    ⟨(some 16), .load (some 4) (.tmp 15), none⟩,
    ⟨(some 17), .fieldAddr 5 (.tmp 2), none⟩,
    ⟨(some 18), .load (some 4) (.tmp 17), none⟩,
    ⟨(some 6), .alloc 25 (.agg [(.int .i64 0), (.int .i64 0), (.int .i64 0), (.int .i64 0)]), none⟩,
    ⟨(some 7), .alloc 25 (.agg [(.int .i64 0), (.int .i64 0), (.int .i64 0), (.int .i64 0)]), none⟩,
    ⟨(some 5), .mov (.tmp 14), none⟩,
    ⟨none, .store 4 (.tmp 6) (.tmp 16), none⟩,
    ⟨none, .store 4 (.tmp 7) (.tmp 18), none⟩] [])
  (.seq (.seq (.ops 2 0 [⟨(some 19), .call (.func 4) [], none⟩,
    ⟨(some 20), .un .not (.tmp 19), none⟩])
  (.cond (.tmp 20)
   (.seq (.ops 3 0 [⟨(some 4), .mov (.const (.bool false)), none⟩])
   .ret)
   .skip))
  (.seq (.seq (.ops 4 0 [⟨(some 21), .mov (.tmp 5), none⟩,
    ⟨(some 22), .load (some 4) (.tmp 6), none⟩,
    ⟨(some 23), .load (some 4) (.tmp 7), none⟩,
    ⟨(some 24), .call (.func 5) [(.tmp 21), (.tmp 22), (.tmp 23)], none⟩,
    ⟨(some 25), .mov (.tmp 24), none⟩,
    ⟨(some 26), .mov (.tmp 5), (some ((some 25), true))⟩,
    ⟨(some 27), .load (some 4) (.tmp 7), (some ((some 25), true))⟩,
    ⟨(some 28), .load (some 4) (.tmp 3), (some ((some 25), true))⟩,
    ⟨(some 29), .call (.func 5) [(.tmp 26), (.tmp 27), (.tmp 28)], (some ((some 25), true))⟩,
    ⟨(some 30), .pick (.tmp 25) (.tmp 29) (.const (.bool false)), none⟩,
    ⟨(some 31), .mov (.tmp 30), none⟩,
    ⟨(some 32), .mov (.tmp 5), (some ((some 31), true))⟩,
    ⟨(some 33), .load (some 4) (.tmp 6), (some ((some 31), true))⟩,
    ⟨(some 34), .load (some 4) (.tmp 3), (some ((some 31), true))⟩,
    ⟨(some 35), .call (.func 5) [(.tmp 32), (.tmp 33), (.tmp 34)], (some ((some 31), true))⟩,
    ⟨(some 36), .un .not (.tmp 35), (some ((some 31), true))⟩,
    ⟨(some 37), .pick (.tmp 31) (.tmp 36) (.const (.bool false)), none⟩])
  (.cond (.tmp 37)
   (.seq (.ops 5 0 [⟨(some 4), .mov (.const (.bool false)), none⟩])
   .ret)
   .skip))
  (.seq (.ops 6 0 [⟨(some 38), .mov (.tmp 5), none⟩,
    ⟨(some 39), .load (some 4) (.tmp 6), none⟩,
    ⟨(some 40), .load (some 4) (.tmp 6), none⟩,
    ⟨(some 41), .call (.func 5) [(.tmp 38), (.tmp 39), (.tmp 40)], none⟩,
    ⟨(some 42), .mov (.tmp 5), none⟩,
    ⟨(some 43), .load (some 4) (.tmp 6), none⟩,
    ⟨(some 44), .call (.func 6) [(.tmp 42), (.tmp 43)], none⟩,
    ⟨(some 45), .bin .eql (.tmp 44) (.const (.int .i64 0)), none⟩,
    ⟨(some 46), .cmp false 4 (.tmp 41) (.tmp 45), none⟩,
    ⟨(some 4), .mov (.tmp 46), none⟩])
  .ret))))),
  47, [.tmp 4]⟩

theorem c3 : compF Tryd.prog Q Tryd.f3 = some p3 := by kernel_rfl
theorem ht3 : HasText Tryd.prog 3 Tryd.f3 := ⟨Tryd.func3, rfl, by decide⟩

-- excise/exciselaw15.live
def p4 : PF := ⟨(.seq (.ops 0 0 [⟨(some 0), .mov (.const (.bool false)), none⟩])
  (.seq (.ops 1 2 [⟨(some 5), .build [(.int .i64 0), (.int .i64 0), (.str []), (.int .i64 0), (.sl none 0 (.fix 0))] [((0, 1), (.const (.int .i64 (-1)))), ((1, 1), (.const (.int .i64 1)))], none⟩,
    ⟨(some 6), .build [(.int .i64 0), (.int .i64 0), (.str []), (.int .i64 0), (.sl none 0 (.fix 0))] [((0, 1), (.const (.int .i64 0))), ((1, 1), (.const (.int .i64 2))), ((2, 1), (.const (.string ⟨#[106, 111, 98, 115]⟩))), ((3, 1), (.const (.int .i64 5)))], none⟩,
    ⟨(some 7), .build [(.str []), (.int .i64 0), (.int .i64 0), (.int .i64 0), (.bool false), (.int .i64 0), (.int .i64 0), (.int .i64 0), (.str []), (.str []), (.int .i64 0), (.bool false), (.int .u64 0), (.int .u64 0), (.int .u64 0), (.int .u64 0), (.int .i64 0), (.bool false), (.str []), (.int .i64 0), (.int .i64 0), (.int .i64 0), (.sl none 0 (.fix 0))] [((0, 1), (.const (.string ⟨#[104]⟩))), ((1, 1), (.const (.int .i64 1)))], none⟩,
    ⟨(some 8), .bslice 49 23 1 (.agg [(.str []), (.int .i64 0), (.int .i64 0), (.int .i64 0), (.bool false), (.int .i64 0), (.int .i64 0), (.int .i64 0), (.str []), (.str []), (.int .i64 0), (.bool false), (.int .u64 0), (.int .u64 0), (.int .u64 0), (.int .u64 0), (.int .i64 0), (.bool false), (.str []), (.int .i64 0), (.int .i64 0), (.int .i64 0), (.sl none 0 (.fix 0))]) [(0, (.tmp 7))], none⟩,
    ⟨(some 9), .build [(.int .i64 0), (.int .i64 0), (.str []), (.int .i64 0), (.sl none 0 (.fix 0))] [((0, 1), (.const (.int .i64 1))), ((1, 1), (.const (.int .i64 3))), ((2, 1), (.const (.string ⟨#[100, 97, 121, 115]⟩))), ((3, 1), (.const (.int .i64 5))), ((4, 1), (.tmp 8))], none⟩,
    ⟨(some 10), .bslice 35 5 3 (.agg [(.int .i64 0), (.int .i64 0), (.str []), (.int .i64 0), (.sl none 0 (.fix 0))]) [(0, (.tmp 5)), (1, (.tmp 6)), (2, (.tmp 9))], none⟩,
    ⟨(some 1), .mov (.tmp 10), none⟩])
  (.seq (.ops 2 1 [⟨(some 11), .build [(.int .i64 0), (.int .i64 0), (.int .i64 0)] [((0, 1), (.const (.int .i64 3))), ((1, 1), (.const (.int .i64 7)))], none⟩,
    ⟨(some 12), .build [(.int .i64 0), (.int .i64 0), (.int .i64 0), (.int .i64 0)] [((0, 1), (.const (.int .i64 2))), ((1, 3), (.tmp 11))], none⟩,
    ⟨(some 2), .alloc 25 (.agg [(.int .i64 0), (.int .i64 0), (.int .i64 0), (.int .i64 0)]), none⟩,
    ⟨none, .store 4 (.tmp 2) (.tmp 12), none⟩])
  (.seq (.ops 3 1 [⟨(some 14), .mov (.tmp 1), none⟩,
    ⟨(some 15), .load (some 4) (.tmp 2), none⟩,
    ⟨(some 16), .call (.func 7) [(.tmp 14), (.tmp 15)], none⟩,
    ⟨(some 13), .mov (.tmp 16), none⟩,
    ⟨(some 17), .extract (.tmp 13) 0, none⟩,
    ⟨(some 18), .extract (.tmp 13) 1, none⟩,
    ⟨(some 3), .alloc 25 (.agg [(.int .i64 0), (.int .i64 0), (.int .i64 0), (.int .i64 0)]), none⟩,
    ⟨none, .store 4 (.tmp 3) (.tmp 17), none⟩,
    ⟨(some 4), .mov (.tmp 18), none⟩])
  (.seq (.ops 4 0 [⟨(some 19), .mov (.tmp 1), none⟩,
    ⟨(some 20), .load (some 4) (.tmp 2), none⟩,
    ⟨(some 21), .call (.func 8) [(.tmp 19), (.tmp 20)], none⟩,
    ⟨(some 22), .bin .eql (.tmp 21) (.const (.string ⟨#[47, 106, 111, 98, 115, 58, 51, 47, 100, 97, 121, 115, 58, 55]⟩)), none⟩,
    ⟨(some 23), .mov (.tmp 22), none⟩,
    ⟨(some 24), .mov (.tmp 4), (some ((some 23), true))⟩,
    ⟨(some 25), .pick (.tmp 23) (.tmp 24) (.const (.bool false)), none⟩,
    ⟨(some 26), .mov (.tmp 25), none⟩,
    ⟨(some 27), .load (some 4) (.tmp 3), (some ((some 26), true))⟩,
    ⟨(some 28), .build [(.int .i64 0), (.int .i64 0), (.int .i64 0)] [((0, 1), (.const (.int .i64 3)))], (some ((some 26), true))⟩,
    ⟨(some 29), .build [(.int .i64 0), (.int .i64 0), (.int .i64 0), (.int .i64 0)] [((0, 1), (.const (.int .i64 1))), ((1, 3), (.tmp 28))], (some ((some 26), true))⟩,
    ⟨(some 30), .cmp false 25 (.tmp 27) (.tmp 29), (some ((some 26), true))⟩,
    ⟨(some 31), .pick (.tmp 26) (.tmp 30) (.const (.bool false)), none⟩,
    ⟨(some 32), .mov (.tmp 31), none⟩,
    ⟨(some 33), .mov (.tmp 1), (some ((some 32), true))⟩,
    ⟨(some 34), .load (some 4) (.tmp 2), (some ((some 32), true))⟩,
    ⟨(some 35), .build [(.int .i64 0), (.int .i64 0), (.int .i64 0), (.int .i64 0), (.int .i64 0)] [((0, 4), (.tmp 34))], (some ((some 32), true))⟩,
    ⟨(some 36), .call (.func 9) [(.tmp 33), (.tmp 35)], (some ((some 32), true))⟩,
    ⟨(some 37), .bin .eql (.tmp 36) (.const (.string ⟨#[47, 106, 111, 98, 115, 58, 51, 47, 100, 97, 121, 115, 58, 55, 46, 104]⟩)), (some ((some 32), true))⟩,
    ⟨(some 38), .pick (.tmp 32) (.tmp 37) (.const (.bool false)), none⟩,
    ⟨(some 39), .mov (.tmp 38), none⟩,
    ⟨(some 40), .mov (.tmp 1), (some ((some 39), true))⟩,
    ⟨(some 41), .load (some 4) (.tmp 2), (some ((some 39), true))⟩,
    ⟨(some 42), .call (.func 10) [(.tmp 40), (.tmp 41)], (some ((some 39), true))⟩,
    ⟨(some 43), .bin .eql (.tmp 42) (.const (.int .i64 7)), (some ((some 39), true))⟩,
    ⟨(some 44), .pick (.tmp 39) (.tmp 43) (.const (.bool false)), none⟩,
    ⟨(some 0), .mov (.tmp 44), none⟩])
  .ret))))),
  45, [.tmp 0]⟩

theorem c4 : compF Tryd.prog Q Tryd.f4 = some p4 := by kernel_rfl
theorem ht4 : HasText Tryd.prog 4 Tryd.f4 := ⟨Tryd.func4, rfl, by decide⟩

-- excise/path.Within
def p5 : PF := ⟨(.seq (.ops 0 2 [⟨(some 4), .box 25 (.tmp 1), none⟩,
    ⟨(some 5), .box 25 (.tmp 2), none⟩,
    ⟨(some 6), .mov (.const (.bool false)), none⟩])
  (.seq (.ops 1 1 [⟨(some 10), .mov (.tmp 0), none⟩,
    ⟨(some 11), .load (some 4) (.tmp 4), none⟩,
    ⟨(some 12), .fieldAddr 0 (.tmp 5), none⟩,
    ⟨(some 13), .load none (.tmp 12), none⟩,
    ⟨(some 14), .call (.func 11) [(.tmp 10), (.tmp 11), (.tmp 13)], none⟩,
    ⟨(some 9), .mov (.tmp 14), none⟩,
    ⟨(some 15), .extract (.tmp 9) 0, none⟩,
    ⟨(some 16), .extract (.tmp 9) 1, none⟩,
    ⟨(some 7), .alloc 25 (.agg [(.int .i64 0), (.int .i64 0), (.int .i64 0), (.int .i64 0)]), none⟩,
    ⟨none, .store 4 (.tmp 7) (.tmp 15), none⟩,
    ⟨(some 8), .mov (.tmp 16), none⟩])
  (.seq (.ops 2 0 [⟨(some 17), .mov (.tmp 8), none⟩,
    ⟨(some 18), .mov (.tmp 17), none⟩,
    ⟨(some 19), .load (some 4) (.tmp 7), (some ((some 18), true))⟩,
    ⟨(some 20), .load (some 4) (.tmp 5), (some ((some 18), true))⟩,
    ⟨(some 21), .cmp false 25 (.tmp 19) (.tmp 20), (some ((some 18), true))⟩,
    ⟨(some 22), .pick (.tmp 18) (.tmp 21) (.const (.bool false)), none⟩,
    ⟨(some 23), .mov (.tmp 22), none⟩,
    ⟨(some 24), .mov (.tmp 0), (some ((some 23), true))⟩,
    ⟨(some 25), .load (some 4) (.tmp 5), (some ((some 23), true))⟩,
    ⟨(some 26), .call (.func 6) [(.tmp 24), (.tmp 25)], (some ((some 23), true))⟩,
    ⟨(some 27), .bin .eql (.tmp 26) (.const (.int .i64 0)), (some ((some 23), true))⟩,
    ⟨(some 28), .pick (.tmp 23) (.tmp 27) (.const (.bool false)), none⟩,
    ⟨(some 6), .mov (.tmp 28), none⟩])
  .ret))),
  29, [.tmp 6]⟩

theorem c5 : compF Tryd.prog Q Tryd.f5 = some p5 := by kernel_rfl
theorem ht5 : HasText Tryd.prog 5 Tryd.f5 := ⟨Tryd.func5, rfl, by decide⟩

-- excise/path.Check
def p6_l0 : PC := (.seq (.ops 4 0 [⟨(some 26), .bin .lss (.tmp 25) (.const (.int .i64 3)), none⟩])
    (.seq (.cond (.tmp 26)
     .skip
     (.exit 0))
    (.seq (.block 1
     (.seq (.ops 5 0 [⟨(some 27), .mov (.tmp 25), none⟩,
       ⟨(some 28), .indexA 3 1 none (.tmp 24) (.tmp 25), none⟩,
       ⟨(some 5), .mov (.tmp 27), none⟩,
       ⟨(some 6), .mov (.tmp 28), none⟩])
     (.seq (.ops 6 0 [⟨(some 29), .mov (.tmp 5), none⟩,
       ⟨(some 30), .mov (.tmp 0), none⟩,
       ⟨(some 31), .fieldAddr 0 (.tmp 3), none⟩,
       ⟨(some 32), .load none (.tmp 31), none⟩,
       ⟨(some 33), .atL 5 (.tmp 30) (.tmp 32), none⟩,
       ⟨(some 34), .fieldAddr 1 (.tmp 33), none⟩,
       ⟨(some 35), .load none (.tmp 34), none⟩,
       ⟨(some 36), .bin .sub (.tmp 35) (.const (.int .i64 1)), none⟩,
       ⟨(some 37), .bin .lss (.tmp 29) (.tmp 36), none⟩,
       ⟨(some 7), .mov (.tmp 37), none⟩])
     (.seq (.ops 7 0 [⟨(some 38), .mov (.tmp 7), none⟩,
       ⟨(some 39), .mov (.tmp 38), none⟩,
       ⟨(some 40), .mov (.tmp 6), (some ((some 39), true))⟩,
       ⟨(some 41), .call (.func 13) [(.tmp 40)], (some ((some 39), true))⟩,
       ⟨(some 42), .un .not (.tmp 41), (some ((some 39), true))⟩,
       ⟨(some 43), .pick (.tmp 39) (.tmp 42) (.const (.bool false)), none⟩,
       ⟨(some 44), .mov (.tmp 43), none⟩,
       ⟨(some 45), .mov (.tmp 7), (some ((some 44), false))⟩,
       ⟨(some 46), .un .not (.tmp 45), (some ((some 44), false))⟩,
       ⟨(some 47), .mov (.tmp 46), (some ((some 44), false))⟩,
       ⟨(some 48), .mov (.tmp 6), (some ((some 47), true))⟩,
       ⟨(some 49), .bin .neq (.tmp 48) (.const (.int .i64 0)), (some ((some 47), true))⟩,
       ⟨(some 50), .pick (.tmp 47) (.tmp 49) (.const (.bool false)), (some ((some 44), false))⟩,
       ⟨(some 51), .pick (.tmp 44) (.const (.bool true)) (.tmp 50), none⟩])
     (.cond (.tmp 51)
      (.seq (.ops 8 0 [⟨(some 4), .mov (.const (.int .i64 150)), none⟩])
      .ret)
      .skip)))))
    (.ops 9 0 [⟨(some 52), .bin .add (.tmp 25) (.const (.int .i64 1)), none⟩,
      ⟨(some 25), .mov (.tmp 52), none⟩]))))
def p6 : PF := ⟨(.seq (.ops 0 1 [⟨(some 3), .box 25 (.tmp 1), none⟩,
    ⟨(some 4), .mov (.const (.int .i64 0)), none⟩])
  (.seq (.seq (.ops 1 0 [⟨(some 8), .mov (.tmp 0), none⟩,
    ⟨(some 9), .call (.func 12) [(.tmp 8)], none⟩,
    ⟨(some 10), .un .not (.tmp 9), none⟩,
    ⟨(some 11), .mov (.tmp 10), none⟩,
    ⟨(some 12), .fieldAddr 0 (.tmp 3), (some ((some 11), false))⟩,
    ⟨(some 13), .load none (.tmp 12), (some ((some 11), false))⟩,
    ⟨(some 14), .bin .lss (.tmp 13) (.const (.int .i64 0)), (some ((some 11), false))⟩,
    ⟨(some 15), .pick (.tmp 11) (.const (.bool true)) (.tmp 14), none⟩,
    ⟨(some 16), .mov (.tmp 15), none⟩,
    ⟨(some 17), .fieldAddr 0 (.tmp 3), (some ((some 16), false))⟩,
    ⟨(some 18), .load none (.tmp 17), (some ((some 16), false))⟩,
    ⟨(some 19), .mov (.tmp 0), (some ((some 16), false))⟩,
    ⟨(some 20), .lenL (.tmp 19), (some ((some 16), false))⟩,
    ⟨(some 21), .bin .geq (.tmp 18) (.tmp 20), (some ((some 16), false))⟩,
    ⟨(some 22), .pick (.tmp 16) (.const (.bool true)) (.tmp 21), none⟩])
  (.cond (.tmp 22)
   (.seq (.ops 2 0 [⟨(some 4), .mov (.const (.int .i64 150)), none⟩])
   .ret)
   .skip))
  (.seq (.seq (.ops 3 0 [⟨(some 23), .fieldAddr 1 (.tmp 3), none⟩,
    ⟨(some 24), .load (some 3) (.tmp 23), none⟩,
    ⟨(some 25), .mov (.const (.int .i64 0)), none⟩])
  (.block 0
   (.loop p6_l0)))
  (.seq (.ops 10 0 [⟨(some 4), .mov (.const (.int .i64 0)), none⟩])
  .ret)))),
  53, [.tmp 4]⟩

theorem c6 : compF Tryd.prog Q Tryd.f6 = some p6 := by kernel_rfl
theorem ht6 : HasText Tryd.prog 6 Tryd.f6 := ⟨Tryd.func6, rfl, by decide⟩

-- excise/path.Parent
def p7 : PF := ⟨(.seq (.ops 0 2 [⟨(some 3), .box 25 (.tmp 1), none⟩,
    ⟨(some 4), .alloc 25 (.agg [(.int .i64 0), (.int .i64 0), (.int .i64 0), (.int .i64 0)]), none⟩,
    ⟨(some 5), .mov (.const (.bool false)), none⟩])
  (.seq (.seq (.ops 1 0 [⟨(some 6), .mov (.tmp 0), none⟩,
    ⟨(some 7), .load (some 4) (.tmp 3), none⟩,
    ⟨(some 8), .call (.func 6) [(.tmp 6), (.tmp 7)], none⟩,
    ⟨(some 9), .bin .neq (.tmp 8) (.const (.int .i64 0)), none⟩,
    ⟨(some 10), .mov (.tmp 9), none⟩,
    ⟨(some 11), .mov (.tmp 0), (some ((some 10), false))⟩,
    ⟨(some 12), .fieldAddr 0 (.tmp 3), (some ((some 10), false))⟩,
    ⟨(some 13), .load none (.tmp 12), (some ((some 10), false))⟩,
    ⟨(some 14), .atL 5 (.tmp 11) (.tmp 13), (some ((some 10), false))⟩,
    ⟨(some 15), .fieldAddr 1 (.tmp 14), (some ((some 10), false))⟩,
    ⟨(some 16), .load none (.tmp 15), (some ((some 10), false))⟩,
    ⟨(some 17), .bin .eql (.tmp 16) (.const (.int .i64 1)), (some ((some 10), false))⟩,
    ⟨(some 18), .pick (.tmp 10) (.const (.bool true)) (.tmp 17), none⟩])
  (.cond (.tmp 18)
   (.seq (.ops 2 0 [⟨(some 19), .build [(.int .i64 0), (.int .i64 0), (.int .i64 0), (.int .i64 0)] [], none⟩,
     ⟨none, .store 4 (.tmp 4) (.tmp 19), none⟩,
     ⟨(some 5), .mov (.const (.bool false)), none⟩])
   .ret)
   .skip))
  (.seq (.ops 3 0 [⟨(some 20), .mov (.tmp 0), none⟩,
    ⟨(some 21), .fieldAddr 0 (.tmp 3), none⟩,
    ⟨(some 22), .load none (.tmp 21), none⟩,
    ⟨(some 23), .atL 5 (.tmp 20) (.tmp 22), none⟩,
    ⟨(some 24), .fieldAddr 1 (.tmp 23), none⟩,
    ⟨(some 25), .load none (.tmp 24), none⟩,
    ⟨(some 26), .bin .sub (.tmp 25) (.const (.int .i64 2)), none⟩,
    ⟨(some 27), .fieldAddr 1 (.tmp 3), none⟩,
    ⟨(some 28), .atA 3 1 (.tmp 27) (.tmp 26), none⟩,
    ⟨none, .store 1 (.tmp 28) (.const (.int .i64 0)), none⟩])
  (.seq (.ops 4 0 [⟨(some 29), .mov (.tmp 0), none⟩,
    ⟨(some 30), .fieldAddr 0 (.tmp 3), none⟩,
    ⟨(some 31), .load none (.tmp 30), none⟩,
    ⟨(some 32), .atL 5 (.tmp 29) (.tmp 31), none⟩,
    ⟨(some 33), .fieldAddr 0 (.tmp 32), none⟩,
    ⟨(some 34), .load none (.tmp 33), none⟩,
    ⟨(some 35), .fieldAddr 0 (.tmp 3), none⟩,
    ⟨none, .store 1 (.tmp 35) (.tmp 34), none⟩])
  (.seq (.ops 5 0 [⟨(some 36), .load (some 4) (.tmp 3), none⟩,
    ⟨none, .store 4 (.tmp 4) (.tmp 36), none⟩,
    ⟨(some 5), .mov (.const (.bool true)), none⟩])
  .ret))))),
  37, [.cell 4 25, .tmp 5]⟩

theorem c7 : compF Tryd.prog Q Tryd.f7 = some p7 := by kernel_rfl
theorem ht7 : HasText Tryd.prog 7 Tryd.f7 := ⟨Tryd.func7, rfl, by decide⟩

-- excise/path.Text
def p8_l0 : PC := (.seq (.seq (.ops 7 0 [⟨(some 20), .mov (.tmp 7), none⟩,
      ⟨(some 21), .mov (.tmp 20), none⟩,
      ⟨(some 22), .mov (.tmp 0), (some ((some 21), true))⟩,
      ⟨(some 23), .fieldAddr 0 (.tmp 6), (some ((some 21), true))⟩,
      ⟨(some 24), .load none (.tmp 23), (some ((some 21), true))⟩,
      ⟨(some 25), .atL 5 (.tmp 22) (.tmp 24), (some ((some 21), true))⟩,
      ⟨(some 26), .fieldAddr 1 (.tmp 25), (some ((some 21), true))⟩,
      ⟨(some 27), .load none (.tmp 26), (some ((some 21), true))⟩,
      ⟨(some 28), .bin .gtr (.tmp 27) (.const (.int .i64 1)), (some ((some 21), true))⟩,
      ⟨(some 29), .pick (.tmp 21) (.tmp 28) (.const (.bool false)), none⟩])
    (.cond (.tmp 29)
     .skip
     (.exit 0)))
    (.seq (.block 1
     (.ops 9 0 [⟨(some 36), .mov (.tmp 0), none⟩,
       ⟨(some 37), .fieldAddr 0 (.tmp 6), none⟩,
       ⟨(some 38), .load none (.tmp 37), none⟩,
       ⟨(some 39), .atL 5 (.tmp 36) (.tmp 38), none⟩,
       ⟨(some 40), .fieldAddr 2 (.tmp 39), none⟩,
       ⟨(some 41), .load none (.tmp 40), none⟩,
       ⟨(some 42), .bin .add (.const (.string ⟨#[47]⟩)) (.tmp 41), none⟩,
       ⟨(some 43), .bin .add (.tmp 42) (.const (.string ⟨#[58]⟩)), none⟩,
       ⟨(some 44), .mov (.tmp 0), none⟩,
       ⟨(some 45), .load (some 4) (.tmp 6), none⟩,
       ⟨(some 46), .call (.func 10) [(.tmp 44), (.tmp 45)], none⟩,
       ⟨(some 47), .call (.func 14) [(.tmp 46), (.const (.int .i64 10))], none⟩,
       ⟨(some 48), .bin .add (.tmp 43) (.tmp 47), none⟩,
       ⟨(some 49), .mov (.tmp 5), none⟩,
       ⟨(some 50), .bin .add (.tmp 48) (.tmp 49), none⟩,
       ⟨(some 5), .mov (.tmp 50), none⟩]))
    (.seq (.seq (.ops 10 0 [⟨(some 51), .load (some 4) (.tmp 6), none⟩])
    (.ops 11 1 [⟨(some 6), .alloc 25 (.agg [(.int .i64 0), (.int .i64 0), (.int .i64 0), (.int .i64 0)]), none⟩,
      ⟨none, .store 4 (.tmp 6) (.tmp 51), none⟩]))
    (.ops 8 0 [⟨(some 31), .mov (.tmp 0), none⟩,
      ⟨(some 32), .load (some 4) (.tmp 6), none⟩,
      ⟨(some 33), .call (.func 7) [(.tmp 31), (.tmp 32)], none⟩,
      ⟨(some 30), .mov (.tmp 33), none⟩,
      ⟨(some 34), .extract (.tmp 30) 0, none⟩,
      ⟨(some 35), .extract (.tmp 30) 1, none⟩,
      ⟨none, .store 4 (.tmp 6) (.tmp 34), none⟩,
      ⟨(some 7), .mov (.tmp 35), none⟩]))))
def p8 : PF := ⟨(.seq (.ops 0 1 [⟨(some 3), .box 25 (.tmp 1), none⟩,
    ⟨(some 4), .mov (.const (.string ⟨#[]⟩)), none⟩])
  (.seq (.seq (.ops 1 0 [⟨(some 8), .mov (.tmp 0), none⟩,
    ⟨(some 9), .load (some 4) (.tmp 3), none⟩,
    ⟨(some 10), .call (.func 6) [(.tmp 8), (.tmp 9)], none⟩,
    ⟨(some 11), .bin .neq (.tmp 10) (.const (.int .i64 0)), none⟩])
  (.cond (.tmp 11)
   (.seq (.ops 2 0 [⟨(some 4), .mov (.const (.string ⟨#[63]⟩)), none⟩])
   .ret)
   .skip))
  (.seq (.seq (.ops 3 0 [⟨(some 12), .mov (.tmp 0), none⟩,
    ⟨(some 13), .fieldAddr 0 (.tmp 3), none⟩,
    ⟨(some 14), .load none (.tmp 13), none⟩,
    ⟨(some 15), .atL 5 (.tmp 12) (.tmp 14), none⟩,
    ⟨(some 16), .fieldAddr 1 (.tmp 15), none⟩,
    ⟨(some 17), .load none (.tmp 16), none⟩,
    ⟨(some 18), .bin .eql (.tmp 17) (.const (.int .i64 1)), none⟩])
  (.cond (.tmp 18)
   (.seq (.ops 4 0 [⟨(some 4), .mov (.const (.string ⟨#[47]⟩)), none⟩])
   .ret)
   .skip))
  (.seq (.ops 5 0 [⟨(some 5), .mov (.const (.string ⟨#[]⟩)), none⟩])
  (.seq (.seq (.ops 6 1 [⟨(some 19), .load (some 4) (.tmp 3), none⟩,
    ⟨(some 6), .alloc 25 (.agg [(.int .i64 0), (.int .i64 0), (.int .i64 0), (.int .i64 0)]), none⟩,
    ⟨none, .store 4 (.tmp 6) (.tmp 19), none⟩,
    ⟨(some 7), .mov (.const (.bool true)), none⟩])
  (.block 0
   (.loop p8_l0)))
  (.seq (.ops 12 0 [⟨(some 52), .mov (.tmp 5), none⟩,
    ⟨(some 4), .mov (.tmp 52), none⟩])
  .ret)))))),
  53, [.tmp 4]⟩

theorem c8 : compF Tryd.prog Q Tryd.f8 = some p8 := by kernel_rfl
theorem ht8 : HasText Tryd.prog 8 Tryd.f8 := ⟨Tryd.func8, rfl, by decide⟩

-- excise/path.CellText
def p9 : PF := ⟨(.seq (.ops 0 1 [⟨(some 3), .box 55 (.tmp 1), none⟩,
    ⟨(some 4), .mov (.const (.string ⟨#[]⟩)), none⟩])
  (.seq (.seq (.ops 1 0 [⟨(some 5), .mov (.tmp 0), none⟩,
    ⟨(some 6), .load (some 5) (.tmp 3), none⟩,
    ⟨(some 7), .call (.func 15) [(.tmp 5), (.tmp 6)], none⟩,
    ⟨(some 8), .bin .neq (.tmp 7) (.const (.int .i64 0)), none⟩])
  (.cond (.tmp 8)
   (.seq (.ops 2 0 [⟨(some 4), .mov (.const (.string ⟨#[63]⟩)), none⟩])
   .ret)
   .skip))
  (.seq (.ops 3 0 [⟨(some 9), .mov (.tmp 0), none⟩,
    ⟨(some 10), .fieldAddr 0 (.tmp 3), none⟩,
    ⟨(some 11), .load (some 4) (.tmp 10), none⟩,
    ⟨(some 12), .call (.func 8) [(.tmp 9), (.tmp 11)], none⟩,
    ⟨(some 13), .bin .add (.tmp 12) (.const (.string ⟨#[46]⟩)), none⟩,
    ⟨(some 14), .mov (.tmp 0), none⟩,
    ⟨(some 15), .fieldAddr 0 (.tmp 3), none⟩,
    ⟨(some 16), .fieldAddr 0 (.tmp 15), none⟩,
    ⟨(some 17), .load none (.tmp 16), none⟩,
    ⟨(some 18), .atL 5 (.tmp 14) (.tmp 17), none⟩,
    ⟨(some 19), .fieldAddr 4 (.tmp 18), none⟩,
    ⟨(some 20), .load none (.tmp 19), none⟩,
    ⟨(some 21), .fieldAddr 4 (.tmp 3), none⟩,
    ⟨(some 22), .load none (.tmp 21), none⟩,
    ⟨(some 23), .atL 23 (.tmp 20) (.tmp 22), none⟩,
    ⟨(some 24), .fieldAddr 0 (.tmp 23), none⟩,
    ⟨(some 25), .load none (.tmp 24), none⟩,
    ⟨(some 26), .bin .add (.tmp 13) (.tmp 25), none⟩,
    ⟨(some 4), .mov (.tmp 26), none⟩])
  .ret))),
  27, [.tmp 4]⟩

theorem c9 : compF Tryd.prog Q Tryd.f9 = some p9 := by kernel_rfl
theorem ht9 : HasText Tryd.prog 9 Tryd.f9 := ⟨Tryd.func9, rfl, by decide⟩

-- excise/path.Id
def p10 : PF := ⟨(.seq (.ops 0 1 [⟨(some 3), .box 25 (.tmp 1), none⟩,
    ⟨(some 4), .mov (.const (.int .i64 0)), none⟩])
  (.seq (.seq (.ops 1 0 [⟨(some 5), .mov (.tmp 0), none⟩,
    ⟨(some 6), .load (some 4) (.tmp 3), none⟩,
    ⟨(some 7), .call (.func 6) [(.tmp 5), (.tmp 6)], none⟩,
    ⟨(some 8), .bin .neq (.tmp 7) (.const (.int .i64 0)), none⟩,
    ⟨(some 9), .mov (.tmp 8), none⟩,
    ⟨(some 10), .mov (.tmp 0), (some ((some 9), false))⟩,
    ⟨(some 11), .fieldAddr 0 (.tmp 3), (some ((some 9), false))⟩,
    ⟨(some 12), .load none (.tmp 11), (some ((some 9), false))⟩,
    ⟨(some 13), .atL 5 (.tmp 10) (.tmp 12), (some ((some 9), false))⟩,
    ⟨(some 14), .fieldAddr 1 (.tmp 13), (some ((some 9), false))⟩,
    ⟨(some 15), .load none (.tmp 14), (some ((some 9), false))⟩,
    ⟨(some 16), .bin .eql (.tmp 15) (.const (.int .i64 1)), (some ((some 9), false))⟩,
    ⟨(some 17), .pick (.tmp 9) (.const (.bool true)) (.tmp 16), none⟩])
  (.cond (.tmp 17)
   (.seq (.ops 2 0 [⟨(some 4), .mov (.const (.int .i64 0)), none⟩])
   .ret)
   .skip))
  (.seq (.ops 3 0 [⟨(some 18), .mov (.tmp 0), none⟩,
    ⟨(some 19), .fieldAddr 0 (.tmp 3), none⟩,
    ⟨(some 20), .load none (.tmp 19), none⟩,
    ⟨(some 21), .atL 5 (.tmp 18) (.tmp 20), none⟩,
    ⟨(some 22), .fieldAddr 1 (.tmp 21), none⟩,
    ⟨(some 23), .load none (.tmp 22), none⟩,
    ⟨(some 24), .bin .sub (.tmp 23) (.const (.int .i64 2)), none⟩,
    ⟨(some 25), .fieldAddr 1 (.tmp 3), none⟩,
    ⟨(some 26), .atA 3 1 (.tmp 25) (.tmp 24), none⟩,
    ⟨(some 27), .load none (.tmp 26), none⟩,
    ⟨(some 4), .mov (.tmp 27), none⟩])
  .ret))),
  28, [.tmp 4]⟩

theorem c10 : compF Tryd.prog Q Tryd.f10 = some p10 := by kernel_rfl
theorem ht10 : HasText Tryd.prog 10 Tryd.f10 := ⟨Tryd.func10, rfl, by decide⟩

-- excise/path.Around
def p11_l0 : PC := (.seq (.seq (.ops 2 0 [⟨(some 13), .mov (.tmp 8), none⟩])
    (.cond (.tmp 13)
     .skip
     (.exit 0)))
    (.seq (.block 1
     (.seq (.ops 4 0 [⟨(some 20), .fieldAddr 0 (.tmp 4), none⟩,
       ⟨(some 21), .load none (.tmp 20), none⟩,
       ⟨(some 22), .mov (.tmp 2), none⟩,
       ⟨(some 23), .bin .eql (.tmp 21) (.tmp 22), none⟩])
     (.cond (.tmp 23)
      (.seq (.ops 5 0 [⟨(some 24), .load (some 4) (.tmp 4), none⟩,
        ⟨none, .store 4 (.tmp 6) (.tmp 24), none⟩,
        ⟨(some 7), .mov (.const (.bool true)), none⟩])
      .ret)
      .skip)))
    (.ops 3 0 [⟨(some 15), .mov (.tmp 0), none⟩,
      ⟨(some 16), .load (some 4) (.tmp 4), none⟩,
      ⟨(some 17), .call (.func 7) [(.tmp 15), (.tmp 16)], none⟩,
      ⟨(some 14), .mov (.tmp 17), none⟩,
      ⟨(some 18), .extract (.tmp 14) 0, none⟩,
      ⟨(some 19), .extract (.tmp 14) 1, none⟩,
      ⟨none, .store 4 (.tmp 4) (.tmp 18), none⟩,
      ⟨(some 8), .mov (.tmp 19), none⟩])))
def p11 : PF := ⟨(.seq (.ops 0 2 [⟨(some 4), .box 25 (.tmp 1), none⟩,
    ⟨(some 6), .alloc 25 (.agg [(.int .i64 0), (.int .i64 0), (.int .i64 0), (.int .i64 0)]), none⟩,
    ⟨(some 7), .mov (.const (.bool false)), none⟩])
  (.seq (.seq (.ops 1 0 [⟨(some 9), .mov (.tmp 0), none⟩,
    ⟨(some 10), .load (some 4) (.tmp 4), none⟩,
    ⟨(some 11), .call (.func 6) [(.tmp 9), (.tmp 10)], none⟩,
    ⟨(some 12), .bin .eql (.tmp 11) (.const (.int .i64 0)), none⟩,
    ⟨(some 8), .mov (.tmp 12), none⟩])
  (.block 0
   (.loop p11_l0)))
  (.seq (.ops 6 0 [⟨(some 25), .build [(.int .i64 0), (.int .i64 0), (.int .i64 0), (.int .i64 0)] [], none⟩,
    ⟨none, .store 4 (.tmp 6) (.tmp 25), none⟩,
    ⟨(some 7), .mov (.const (.bool false)), none⟩])
  .ret))),
  26, [.cell 6 25, .tmp 7]⟩

theorem c11 : compF Tryd.prog Q Tryd.f11 = some p11 := by kernel_rfl
theorem ht11 : HasText Tryd.prog 11 Tryd.f11 := ⟨Tryd.func11, rfl, by decide⟩

-- excise/path.sound
def p12_l0 : PC := (.seq (.ops 2 0 [⟨(some 8), .bin .lss (.tmp 7) (.tmp 6), none⟩])
    (.seq (.cond (.tmp 8)
     .skip
     (.exit 0))
    (.seq (.block 1
     (.seq (.ops 3 1 [⟨(some 9), .mov (.tmp 7), none⟩,
       ⟨(some 10), .atL 5 (.tmp 5) (.tmp 7), none⟩,
       ⟨(some 11), .load (some 5) (.tmp 10), none⟩,
       ⟨(some 4), .alloc 35 (.agg [(.int .i64 0), (.int .i64 0), (.str []), (.int .i64 0), (.sl none 0 (.fix 0))]), none⟩,
       ⟨(some 3), .mov (.tmp 9), none⟩,
       ⟨none, .store 5 (.tmp 4) (.tmp 11), none⟩])
     (.seq (.seq (.ops 4 0 [⟨(some 12), .fieldAddr 1 (.tmp 4), none⟩,
       ⟨(some 13), .load none (.tmp 12), none⟩,
       ⟨(some 14), .bin .lss (.tmp 13) (.const (.int .i64 1)), none⟩,
       ⟨(some 15), .mov (.tmp 14), none⟩,
       ⟨(some 16), .fieldAddr 1 (.tmp 4), (some ((some 15), false))⟩,
       ⟨(some 17), .load none (.tmp 16), (some ((some 15), false))⟩,
       ⟨(some 18), .bin .gtr (.tmp 17) (.const (.int .i64 4)), (some ((some 15), false))⟩,
       ⟨(some 19), .pick (.tmp 15) (.const (.bool true)) (.tmp 18), none⟩])
     (.cond (.tmp 19)
      (.seq (.ops 5 0 [⟨(some 2), .mov (.const (.bool false)), none⟩])
      .ret)
      .skip))
     (.seq (.seq (.ops 6 0 [⟨(some 20), .mov (.tmp 3), none⟩,
       ⟨(some 21), .bin .eql (.tmp 20) (.const (.int .i64 0)), none⟩])
     (.cond (.tmp 21)
      (.seq (.seq (.ops 7 0 [⟨(some 22), .fieldAddr 0 (.tmp 4), none⟩,
        ⟨(some 23), .load none (.tmp 22), none⟩,
        ⟨(some 24), .bin .neq (.tmp 23) (.const (.int .i64 (-1))), none⟩,
        ⟨(some 25), .mov (.tmp 24), none⟩,
        ⟨(some 26), .fieldAddr 1 (.tmp 4), (some ((some 25), false))⟩,
        ⟨(some 27), .load none (.tmp 26), (some ((some 25), false))⟩,
        ⟨(some 28), .bin .neq (.tmp 27) (.const (.int .i64 1)), (some ((some 25), false))⟩,
        ⟨(some 29), .pick (.tmp 25) (.const (.bool true)) (.tmp 28), none⟩])
      (.cond (.tmp 29)
       (.seq (.ops 8 0 [⟨(some 2), .mov (.const (.bool false)), none⟩])
       .ret)
       .skip))
      (.exit 1))
      .skip))
     (.seq (.ops 9 0 [⟨(some 30), .fieldAddr 0 (.tmp 4), none⟩,
       ⟨(some 31), .load none (.tmp 30), none⟩,
       ⟨(some 32), .bin .lss (.tmp 31) (.const (.int .i64 0)), none⟩,
       ⟨(some 33), .mov (.tmp 32), none⟩,
       ⟨(some 34), .fieldAddr 0 (.tmp 4), (some ((some 33), false))⟩,
       ⟨(some 35), .load none (.tmp 34), (some ((some 33), false))⟩,
       ⟨(some 36), .mov (.tmp 3), (some ((some 33), false))⟩,
       ⟨(some 37), .bin .geq (.tmp 35) (.tmp 36), (some ((some 33), false))⟩,
       ⟨(some 38), .pick (.tmp 33) (.const (.bool true)) (.tmp 37), none⟩,
       ⟨(some 39), .mov (.tmp 38), none⟩,
       ⟨(some 40), .fieldAddr 1 (.tmp 4), (some ((some 39), false))⟩,
       ⟨(some 41), .load none (.tmp 40), (some ((some 39), false))⟩,
       ⟨(some 42), .mov (.tmp 0), (some ((some 39), false))⟩,
       ⟨(some 43), .fieldAddr 0 (.tmp 4), (some ((some 39), false))⟩,
       ⟨(some 44), .load none (.tmp 43), (some ((some 39), false))⟩,
       ⟨(some 45), .atL 5 (.tmp 42) (.tmp 44), (some ((some 39), false))⟩,
       ⟨(some 46), .fieldAddr 1 (.tmp 45), (some ((some 39), false))⟩,
       ⟨(some 47), .load none (.tmp 46), (some ((some 39), false))⟩,
       ⟨(some 48), .bin .add (.tmp 47) (.const (.int .i64 1)), (some ((some 39), false))⟩,
       ⟨(some 49), .bin .neq (.tmp 41) (.tmp 48), (some ((some 39), false))⟩,
       ⟨(some 50), .pick (.tmp 39) (.const (.bool true)) (.tmp 49), none⟩])
     (.cond (.tmp 50)
      (.seq (.ops 10 0 [⟨(some 2), .mov (.const (.bool false)), none⟩])
      .ret)
      .skip))))))
    (.ops 11 0 [⟨(some 51), .bin .add (.tmp 7) (.const (.int .i64 1)), none⟩,
      ⟨(some 7), .mov (.tmp 51), none⟩]))))
def p12 : PF := ⟨(.seq (.ops 0 0 [⟨(some 2), .mov (.const (.bool false)), none⟩])
  (.seq (.seq (.ops 1 0 [⟨(some 5), .mov (.tmp 0), none⟩,
    ⟨(some 6), .lenL (.tmp 5), none⟩,
    ⟨(some 7), .mov (.const (.int .i64 0)), none⟩])
  (.block 0
   (.loop p12_l0)))
  (.seq (.ops 12 0 [⟨(some 2), .mov (.const (.bool true)), none⟩])
  .ret))),
  52, [.tmp 2]⟩

theorem c12 : compF Tryd.prog Q Tryd.f12 = some p12 := by kernel_rfl
theorem ht12 : HasText Tryd.prog 12 Tryd.f12 := ⟨Tryd.func12, rfl, by decide⟩

-- excise/path.id
def p13 : PF := ⟨(.seq (.ops 0 0 [⟨(some 2), .mov (.const (.bool false)), none⟩])
  (.seq (.ops 1 0 [⟨(some 3), .mov (.tmp 0), none⟩,
    ⟨(some 4), .bin .geq (.tmp 3) (.const (.int .i64 1)), none⟩,
    ⟨(some 5), .mov (.tmp 4), none⟩,
    ⟨(some 6), .mov (.tmp 0), (some ((some 5), true))⟩,
    ⟨(some 7), .bin .leq (.tmp 6) (.const (.int .i64 9007199254740992)), (some ((some 5), true))⟩,
    ⟨(some 8), .pick (.tmp 5) (.tmp 7) (.const (.bool false)), none⟩,
    ⟨(some 2), .mov (.tmp 8), none⟩])
  .ret)),
  9, [.tmp 2]⟩

theorem c13 : compF Tryd.prog Q Tryd.f13 = some p13 := by kernel_rfl
theorem ht13 : HasText Tryd.prog 13 Tryd.f13 := ⟨Tryd.func13, rfl, by decide⟩

-- strconv.FormatInt
def p14 : PF := ⟨(.seq (.ops 0 0 [⟨(some 4), .mov (.const (.string ⟨#[]⟩)), none⟩])
  (.seq (.ops 1 0 [⟨(some 5), .mov (.tmp 0), none⟩,
    ⟨(some 6), .mov (.tmp 1), none⟩,
    ⟨(some 7), .call (.func 16) [(.tmp 5), (.tmp 6)], none⟩,
    ⟨(some 4), .mov (.tmp 7), none⟩])
  .ret)),
  8, [.tmp 4]⟩

theorem c14 : compF Tryd.prog Q Tryd.f14 = some p14 := by kernel_rfl
theorem ht14 : HasText Tryd.prog 14 Tryd.f14 := ⟨Tryd.func14, rfl, by decide⟩

-- excise/path.CheckCell
def p15 : PF := ⟨(.seq (.ops 0 1 [⟨(some 3), .box 55 (.tmp 1), none⟩,
    ⟨(some 4), .mov (.const (.int .i64 0)), none⟩])
  (.seq (.seq (.ops 1 0 [⟨(some 6), .mov (.tmp 0), none⟩,
    ⟨(some 7), .fieldAddr 0 (.tmp 3), none⟩,
    ⟨(some 8), .load (some 4) (.tmp 7), none⟩,
    ⟨(some 9), .call (.func 6) [(.tmp 6), (.tmp 8)], none⟩,
    ⟨(some 5), .mov (.tmp 9), none⟩])
  (.seq (.ops 2 0 [⟨(some 10), .mov (.tmp 5), none⟩,
    ⟨(some 11), .bin .neq (.tmp 10) (.const (.int .i64 0)), none⟩])
  (.cond (.tmp 11)
   (.seq (.ops 3 0 [⟨(some 12), .mov (.tmp 5), none⟩,
     ⟨(some 4), .mov (.tmp 12), none⟩])
   .ret)
   .skip)))
  (.seq (.seq (.ops 4 0 [⟨(some 13), .fieldAddr 4 (.tmp 3), none⟩,
    ⟨(some 14), .load none (.tmp 13), none⟩,
    ⟨(some 15), .bin .lss (.tmp 14) (.const (.int .i64 0)), none⟩,
    ⟨(some 16), .mov (.tmp 15), none⟩,
    ⟨(some 17), .fieldAddr 4 (.tmp 3), (some ((some 16), false))⟩,
    ⟨(some 18), .load none (.tmp 17), (some ((some 16), false))⟩,
    ⟨(some 19), .mov (.tmp 0), (some ((some 16), false))⟩,
    ⟨(some 20), .fieldAddr 0 (.tmp 3), (some ((some 16), false))⟩,
    ⟨(some 21), .fieldAddr 0 (.tmp 20), (some ((some 16), false))⟩,
    ⟨(some 22), .load none (.tmp 21), (some ((some 16), false))⟩,
    ⟨(some 23), .atL 5 (.tmp 19) (.tmp 22), (some ((some 16), false))⟩,
    ⟨(some 24), .fieldAddr 4 (.tmp 23), (some ((some 16), false))⟩,
    ⟨(some 25), .load none (.tmp 24), (some ((some 16), false))⟩,
    ⟨(some 26), .lenL (.tmp 25), (some ((some 16), false))⟩,
    ⟨(some 27), .bin .geq (.tmp 18) (.tmp 26), (some ((some 16), false))⟩,
    ⟨(some 28), .pick (.tmp 16) (.const (.bool true)) (.tmp 27), none⟩])
  (.cond (.tmp 28)
   (.seq (.ops 5 0 [⟨(some 4), .mov (.const (.int .i64 150)), none⟩])
   .ret)
   .skip))
  (.seq (.ops 6 0 [⟨(some 4), .mov (.const (.int .i64 0)), none⟩])
  .ret)))),
  29, [.tmp 4]⟩

theorem c15 : compF Tryd.prog Q Tryd.f15 = some p15 := by kernel_rfl
theorem ht15 : HasText Tryd.prog 15 Tryd.f15 := ⟨Tryd.func15, rfl, by decide⟩

-- internal/strconv.FormatInt
def p16 : PF := ⟨(.seq (.ops 0 0 [⟨(some 4), .mov (.const (.string ⟨#[]⟩)), none⟩])
  (.seq (.seq (.ops 1 0 [⟨(some 10), .mov (.tmp 1), none⟩,
    ⟨(some 11), .bin .eql (.tmp 10) (.const (.int .i64 10)), none⟩])
  (.cond (.tmp 11)
   (.seq (.seq (.ops 2 0 [⟨(some 12), .mov (.tmp 0), none⟩,
     ⟨(some 13), .bin .leq (.const (.int .i64 0)) (.tmp 12), none⟩,
     ⟨(some 14), .mov (.tmp 13), none⟩,
     ⟨(some 15), .mov (.tmp 0), (some ((some 14), true))⟩,
     ⟨(some 16), .bin .lss (.tmp 15) (.const (.int .i64 100)), (some ((some 14), true))⟩,
     ⟨(some 17), .pick (.tmp 14) (.tmp 16) (.const (.bool false)), none⟩])
   (.cond (.tmp 17)
    (.seq (.ops 3 0 [⟨(some 18), .mov (.tmp 0), none⟩,
      ⟨(some 19), .call (.func 17) [(.tmp 18)], none⟩,
      ⟨(some 4), .mov (.tmp 19), none⟩])
    .ret)
    .skip))
   (.seq (.ops 4 1 [⟨(some 5), .alloc 63 (.agg [(.int .u8 0), (.int .u8 0), (.int .u8 0), (.int .u8 0), (.int .u8 0), (.int .u8 0), (.int .u8 0), (.int .u8 0), (.int .u8 0), (.int .u8 0), (.int .u8 0), (.int .u8 0), (.int .u8 0), (.int .u8 0), (.int .u8 0), (.int .u8 0), (.int .u8 0), (.int .u8 0), (.int .u8 0), (.int .u8 0), (.int .u8 0), (.int .u8 0), (.int .u8 0), (.int .u8 0)]), none⟩])
   (.seq (.ops 5 0 [⟨(some 20), .mov (.tmp 0), none⟩,
     ⟨(some 21), .conv .u64 (.tmp 20), none⟩,
     ⟨(some 6), .mov (.tmp 21), none⟩])
   (.seq (.seq (.ops 6 0 [⟨(some 22), .mov (.tmp 0), none⟩,
     ⟨(some 23), .bin .lss (.tmp 22) (.const (.int .i64 0)), none⟩])
   (.cond (.tmp 23)
    (.ops 7 0 [⟨(some 24), .mov (.tmp 6), none⟩,
      ⟨(some 25), .un .neg (.tmp 24), none⟩,
      ⟨(some 6), .mov (.tmp 25), none⟩])
    .skip))
   (.seq (.ops 8 0 [⟨(some 26), .mov (.tmp 6), none⟩,
     ⟨(some 27), .call (.func 18) [(.tmp 26)], none⟩,
     ⟨(some 7), .mov (.tmp 27), none⟩])
   (.seq (.ops 9 0 [⟨(some 28), .mov (.tmp 7), none⟩,
     ⟨(some 29), .bin .add (.const (.int .i64 1)) (.tmp 28), none⟩,
     ⟨(some 30), .sliceA 24 1 (.tmp 5) (some (.const (.int .i64 1))) (some (.tmp 29)), none⟩,
     ⟨(some 31), .mov (.tmp 6), none⟩,
     ⟨(some 32), .call (.func 19) [(.tmp 30), (.tmp 31)], none⟩])
   (.seq (.seq (.ops 10 0 [⟨(some 33), .mov (.tmp 0), none⟩,
     ⟨(some 34), .bin .lss (.tmp 33) (.const (.int .i64 0)), none⟩])
   (.cond (.tmp 34)
    (.seq (.ops 11 0 [⟨(some 35), .atA 24 1 (.tmp 5) (.const (.int .i64 0)), none⟩,
      ⟨none, .store 1 (.tmp 35) (.const (.int .u8 45)), none⟩])
    (.seq (.ops 12 0 [⟨(some 36), .mov (.tmp 7), none⟩,
      ⟨(some 37), .bin .add (.const (.int .i64 1)) (.tmp 36), none⟩,
      ⟨(some 38), .sliceA 24 1 (.tmp 5) none (some (.tmp 37)), none⟩,
      ⟨(some 39), .toStr (.tmp 38), none⟩,
      ⟨(some 4), .mov (.tmp 39), none⟩])
    .ret))
    .skip))
   (.seq (.ops 13 0 [⟨(some 40), .mov (.tmp 7), none⟩,
     ⟨(some 41), .bin .add (.const (.int .i64 1)) (.tmp 40), none⟩,
     ⟨(some 42), .sliceA 24 1 (.tmp 5) (some (.const (.int .i64 1))) (some (.tmp 41)), none⟩,
     ⟨(some 43), .toStr (.tmp 42), none⟩,
     ⟨(some 4), .mov (.tmp 43), none⟩])
   .ret))))))))
   .skip))
  (.seq (.ops 14 0 [⟨(some 45), .mov (.tmp 0), none⟩,
    ⟨(some 46), .conv .u64 (.tmp 45), none⟩,
    ⟨(some 47), .mov (.tmp 1), none⟩,
    ⟨(some 48), .mov (.tmp 0), none⟩,
    ⟨(some 49), .bin .lss (.tmp 48) (.const (.int .i64 0)), none⟩,
    ⟨(some 50), .call (.func 20) [(.const (.slice none 0 0)), (.tmp 46), (.tmp 47), (.tmp 49), (.const (.bool false))], none⟩,
    ⟨(some 44), .mov (.tmp 50), none⟩,
    ⟨(some 51), .extract (.tmp 44) 0, none⟩,
    ⟨(some 52), .extract (.tmp 44) 1, none⟩,
    ⟨(some 8), .mov (.tmp 51), none⟩,
    ⟨(some 9), .mov (.tmp 52), none⟩])
  (.seq (.ops 15 0 [⟨(some 53), .mov (.tmp 9), none⟩,
    ⟨(some 4), .mov (.tmp 53), none⟩])
  .ret)))),
  54, [.tmp 4]⟩

theorem c16 : compF Tryd.prog Q Tryd.f16 = some p16 := by kernel_rfl
theorem ht16 : HasText Tryd.prog 16 Tryd.f16 := ⟨Tryd.func16, rfl, by decide⟩

-- internal/strconv.small
def p17 : PF := ⟨(.seq (.ops 0 0 [⟨(some 2), .mov (.const (.string ⟨#[]⟩)), none⟩])
  (.seq (.seq (.ops 1 0 [⟨(some 3), .mov (.tmp 0), none⟩,
    ⟨(some 4), .bin .lss (.tmp 3) (.const (.int .i64 10)), none⟩])
  (.cond (.tmp 4)
   (.seq (.ops 2 0 [⟨(some 5), .mov (.tmp 0), none⟩,
     ⟨(some 6), .mov (.tmp 0), none⟩,
     ⟨(some 7), .bin .add (.tmp 6) (.const (.int .i64 1)), none⟩,
     ⟨(some 8), .sliceS (.const (.string ⟨#[48, 49, 50, 51, 52, 53, 54, 55, 56, 57, 97, 98, 99, 100, 101, 102, 103, 104, 105, 106, 107, 108, 109, 110, 111, 112, 113, 114, 115, 116, 117, 118, 119, 120, 121, 122]⟩)) (some (.tmp 5)) (some (.tmp 7)), none⟩,
     ⟨(some 2), .mov (.tmp 8), none⟩])
   .ret)
   .skip))
  (.seq (.ops 3 0 [⟨(some 9), .mov (.tmp 0), none⟩,
    ⟨(some 10), .bin .mul (.tmp 9) (.const (.int .i64 2)), none⟩,
    ⟨(some 11), .mov (.tmp 0), none⟩,
    ⟨(some 12), .bin .mul (.tmp 11) (.const (.int .i64 2)), none⟩,
    ⟨(some 13), .bin .add (.tmp 12) (.const (.int .i64 2)), none⟩,
    ⟨(some 14), .sliceS (.const (.string ⟨#[48, 48, 48, 49, 48, 50, 48, 51, 48, 52, 48, 53, 48, 54, 48, 55, 48, 56, 48, 57, 49, 48, 49, 49, 49, 50, 49, 51, 49, 52, 49, 53, 49, 54, 49, 55, 49, 56, 49, 57, 50, 48, 50, 49, 50, 50, 50, 51, 50, 52, 50, 53, 50, 54, 50, 55, 50, 56, 50, 57, 51, 48, 51, 49, 51, 50, 51, 51, 51, 52, 51, 53, 51, 54, 51, 55, 51, 56, 51, 57, 52, 48, 52, 49, 52, 50, 52, 51, 52, 52, 52, 53, 52, 54, 52, 55, 52, 56, 52, 57, 53, 48, 53, 49, 53, 50, 53, 51, 53, 52, 53, 53, 53, 54, 53, 55, 53, 56, 53, 57, 54, 48, 54, 49, 54, 50, 54, 51, 54, 52, 54, 53, 54, 54, 54, 55, 54, 56, 54, 57, 55, 48, 55, 49, 55, 50, 55, 51, 55, 52, 55, 53, 55, 54, 55, 55, 55, 56, 55, 57, 56, 48, 56, 49, 56, 50, 56, 51, 56, 52, 56, 53, 56, 54, 56, 55, 56, 56, 56, 57, 57, 48, 57, 49, 57, 50, 57, 51, 57, 52, 57, 53, 57, 54, 57, 55, 57, 56, 57, 57]⟩)) (some (.tmp 10)) (some (.tmp 13)), none⟩,
    ⟨(some 2), .mov (.tmp 14), none⟩])
  .ret))),
  15, [.tmp 2]⟩

theorem c17 : compF Tryd.prog Q Tryd.f17 = some p17 := by kernel_rfl
theorem ht17 : HasText Tryd.prog 17 Tryd.f17 := ⟨Tryd.func17, rfl, by decide⟩

-- internal/strconv.numDigits
def p18 : PF := ⟨(.seq (.ops 0 0 [⟨(some 2), .mov (.const (.int .i64 0)), none⟩])
  (.seq (.ops 1 0 [⟨(some 4), .mov (.tmp 0), none⟩,
    ⟨(some 5), .call (.func 22) [(.tmp 4)], none⟩,
    ⟨(some 6), .call (.func 21) [(.tmp 5)], none⟩,
    ⟨(some 3), .mov (.tmp 6), none⟩])
  (.seq (.ops 2 0 [⟨(some 7), .mov (.tmp 3), none⟩,
    ⟨(some 8), .mov (.tmp 0), none⟩,
    ⟨(some 9), .mov (.tmp 3), none⟩,
    ⟨(some 10), .atA 20 1 (.global 0) (.tmp 9), none⟩,
    ⟨(some 11), .load none (.tmp 10), none⟩,
    ⟨(some 12), .bin .geq (.tmp 8) (.tmp 11), none⟩,
    ⟨(some 13), .call (.func 23) [(.tmp 12)], none⟩,
    ⟨(some 14), .bin .add (.tmp 7) (.tmp 13), none⟩,
    ⟨(some 2), .mov (.tmp 14), none⟩])
  .ret))),
  15, [.tmp 2]⟩

theorem c18 : compF Tryd.prog Q Tryd.f18 = some p18 := by kernel_rfl
theorem ht18 : HasText Tryd.prog 18 Tryd.f18 := ⟨Tryd.func18, rfl, by decide⟩

end Go.Proofs.YtcigcknagbjlbaaDoor
