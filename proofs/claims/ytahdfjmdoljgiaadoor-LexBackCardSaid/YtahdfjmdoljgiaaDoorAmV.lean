/- The resolved code of the functions. Written by mkp.py. -/
import Derived.Test.YtahdfjmdoljgiaaDoorAmU
import Derived.Test.YtahdfjmdoljgiaaDoorChecked
namespace Go.Proofs.YtahdfjmdoljgiaaDoor
open Go Go.Am
set_option maxRecDepth 100000
set_option linter.unusedVariables false
def quiet : List FuncId := [10, 11, 12, 13, 14, 15, 16, 17, 18, 19, 20, 21, 22, 23, 24, 25, 26, 27, 28, 32, 33, 34, 35, 36, 37, 38, 39, 40, 41, 42, 43, 44, 45, 47, 49, 50, 51, 52, 53, 54, 55, 56, 60, 61, 62, 66, 67, 68, 69, 70, 71, 73, 77, 78, 79]
def Q (f : FuncId) : Bool := quiet.contains f
def p3 : PF := ⟨(.seq (.ops 0 0 [⟨some 2, .mov (.const (.bool false)), none⟩])
 (.seq (.ops 1 0 [⟨some 10, .mov (.tmp 0), none⟩,
 ⟨some 11, .call (.func 8) [(.tmp 10)], none⟩,
 ⟨some 9, .mov (.tmp 11), none⟩,
 ⟨some 12, .extract (.tmp 9) 0, none⟩,
 ⟨some 13, .extract (.tmp 9) 1, none⟩,
 ⟨some 14, .extract (.tmp 9) 2, none⟩,
 ⟨some 3, .mov (.tmp 12), none⟩,
 ⟨some 4, .mov (.tmp 13), none⟩,
 ⟨some 5, .mov (.tmp 14), none⟩])
 (.seq (.ops 2 0 [⟨some 16, .mov (.tmp 0), none⟩,
 ⟨some 17, .call (.func 9) [(.tmp 16)], none⟩,
 ⟨some 15, .mov (.tmp 17), none⟩,
 ⟨some 18, .extract (.tmp 15) 0, none⟩,
 ⟨some 19, .extract (.tmp 15) 1, none⟩,
 ⟨some 20, .extract (.tmp 15) 2, none⟩,
 ⟨some 6, .mov (.tmp 18), none⟩,
 ⟨some 7, .mov (.tmp 19), none⟩,
 ⟨some 8, .mov (.tmp 20), none⟩])
 (.seq (.ops 3 0 [⟨some 21, .call (.func 10) [], none⟩,
 ⟨some 22, .mov (.tmp 21), none⟩,
 ⟨some 23, .mov (.tmp 4), (some ((some 22), true))⟩,
 ⟨some 24, .mov (.tmp 7), (some ((some 22), true))⟩,
 ⟨some 25, .bin .eql (.tmp 23) (.tmp 24), (some ((some 22), true))⟩,
 ⟨some 26, .pick (.tmp 22) (.tmp 25) (.const (.bool false)), none⟩,
 ⟨some 27, .mov (.tmp 26), none⟩,
 ⟨some 28, .mov (.tmp 5), (some ((some 27), true))⟩,
 ⟨some 29, .mov (.tmp 8), (some ((some 27), true))⟩,
 ⟨some 30, .bin .eql (.tmp 28) (.tmp 29), (some ((some 27), true))⟩,
 ⟨some 31, .pick (.tmp 27) (.tmp 30) (.const (.bool false)), none⟩,
 ⟨some 32, .mov (.tmp 31), none⟩,
 ⟨some 33, .mov (.tmp 3), (some ((some 32), true))⟩,
 ⟨some 34, .mov (.tmp 6), (some ((some 32), true))⟩,
 ⟨some 35, .call (.func 11) [(.tmp 33), (.tmp 34)], (some ((some 32), true))⟩,
 ⟨some 36, .pick (.tmp 32) (.tmp 35) (.const (.bool false)), none⟩,
 ⟨some 2, .mov (.tmp 36), none⟩])
 .ret)))),
 37, [.tmp 2]⟩
theorem c3 : compF Tryd.prog Q Tryd.f3 = some p3 := by kernel_rfl
def p5_l0 : PC := (.seq (.ops 6 0 [⟨some 27, .bin .lss (.tmp 26) (.tmp 25), none⟩])
 (.seq (.cond (.tmp 27)
 .skip
 (.exit 0))
 (.seq (.block 1
 (.seq (.ops 7 1 [⟨some 28, .atL 13 (.tmp 24) (.tmp 26), none⟩,
 ⟨some 29, .load (some 13) (.tmp 28), none⟩,
 ⟨some 8, .alloc 41 (.agg [(.int .i64 0), (.str []), (.int .i64 0), (.bool false), (.int .u64 0), (.int .u64 0), (.int .u64 0), (.int .u64 0), (.int .i64 0), (.bool false), (.str []), (.int .i64 0), (.int .i64 0)]), none⟩,
 ⟨none, .store 13 (.tmp 8) (.tmp 29), none⟩])
 (.seq (.seq (.ops 8 0 [⟨some 30, .fieldAddr 12 (.tmp 8), none⟩,
 ⟨some 31, .load none (.tmp 30), none⟩,
 ⟨some 32, .mov (.tmp 6), none⟩,
 ⟨some 33, .bin .neq (.tmp 31) (.tmp 32), none⟩,
 ⟨some 34, .mov (.tmp 33), none⟩,
 ⟨some 35, .fieldAddr 1 (.tmp 8), (some ((some 34), false))⟩,
 ⟨some 36, .load none (.tmp 35), (some ((some 34), false))⟩,
 ⟨some 37, .bin .eql (.tmp 36) (.const (.string ⟨#[]⟩)), (some ((some 34), false))⟩,
 ⟨some 38, .pick (.tmp 34) (.const (.bool true)) (.tmp 37), none⟩,
 ⟨some 39, .mov (.tmp 38), none⟩,
 ⟨some 40, .mov (.tmp 0), (some ((some 39), false))⟩,
 ⟨some 41, .mov (.tmp 6), (some ((some 39), false))⟩,
 ⟨some 42, .sliceS (.tmp 40) (some (.tmp 41)) none, (some ((some 39), false))⟩,
 ⟨some 43, .fieldAddr 1 (.tmp 8), (some ((some 39), false))⟩,
 ⟨some 44, .load none (.tmp 43), (some ((some 39), false))⟩,
 ⟨some 45, .call (.func 17) [(.tmp 42), (.tmp 44)], (some ((some 39), false))⟩,
 ⟨some 46, .un .not (.tmp 45), (some ((some 39), false))⟩,
 ⟨some 47, .pick (.tmp 39) (.const (.bool true)) (.tmp 46), none⟩])
 (.cond (.tmp 47)
 (.seq (.ops 9 0 [⟨some 2, .mov (.const (.bool false)), none⟩])
 .ret)
 .skip))
 (.ops 10 0 [⟨some 48, .mov (.tmp 0), none⟩,
 ⟨some 49, .mov (.tmp 6), none⟩,
 ⟨some 50, .fieldAddr 1 (.tmp 8), none⟩,
 ⟨some 51, .load none (.tmp 50), none⟩,
 ⟨some 52, .lenS (.tmp 51), none⟩,
 ⟨some 53, .bin .add (.tmp 49) (.tmp 52), none⟩,
 ⟨some 54, .call (.func 16) [(.tmp 48), (.tmp 53)], none⟩,
 ⟨some 6, .mov (.tmp 54), none⟩]))))
 (.ops 11 0 [⟨some 55, .bin .add (.tmp 26) (.const (.int .i64 1)), none⟩,
 ⟨some 26, .mov (.tmp 55), none⟩]))))
def p5 : PF := ⟨(.seq (.ops 0 0 [⟨some 2, .mov (.const (.bool false)), none⟩])
 (.seq (.ops 1 0 [⟨some 10, .mov (.tmp 0), none⟩,
 ⟨some 11, .call (.func 8) [(.tmp 10)], none⟩,
 ⟨some 9, .mov (.tmp 11), none⟩,
 ⟨some 12, .extract (.tmp 9) 0, none⟩,
 ⟨some 13, .extract (.tmp 9) 1, none⟩,
 ⟨some 14, .extract (.tmp 9) 2, none⟩,
 ⟨some 3, .mov (.tmp 12), none⟩,
 ⟨some 4, .mov (.tmp 13), none⟩,
 ⟨some 5, .mov (.tmp 14), none⟩])
 (.seq (.seq (.ops 2 0 [⟨some 15, .mov (.tmp 5), none⟩,
 ⟨some 16, .bin .neq (.tmp 15) (.const (.int .i64 0)), none⟩,
 ⟨some 17, .mov (.tmp 16), none⟩,
 ⟨some 18, .call (.func 10) [], (some ((some 17), false))⟩,
 ⟨some 19, .un .not (.tmp 18), (some ((some 17), false))⟩,
 ⟨some 20, .pick (.tmp 17) (.const (.bool true)) (.tmp 19), none⟩])
 (.cond (.tmp 20)
 (.seq (.ops 3 0 [⟨some 21, .call (.func 10) [], none⟩,
 ⟨some 2, .mov (.tmp 21), none⟩])
 .ret)
 .skip))
 (.seq (.ops 4 0 [⟨some 22, .mov (.tmp 0), none⟩,
 ⟨some 23, .call (.func 16) [(.tmp 22), (.const (.int .i64 0))], none⟩,
 ⟨some 6, .mov (.tmp 23), none⟩])
 (.seq (.seq (.ops 5 0 [⟨some 24, .mov (.tmp 3), none⟩,
 ⟨some 25, .lenL (.tmp 24), none⟩,
 ⟨some 26, .mov (.const (.int .i64 0)), none⟩])
 (.block 0
 (.loop p5_l0)))
 (.seq (.ops 12 0 [⟨some 56, .mov (.tmp 6), none⟩,
 ⟨some 57, .mov (.tmp 0), none⟩,
 ⟨some 58, .lenS (.tmp 57), none⟩,
 ⟨some 59, .bin .eql (.tmp 56) (.tmp 58), none⟩,
 ⟨some 2, .mov (.tmp 59), none⟩])
 .ret)))))),
 60, [.tmp 2]⟩
theorem c5 : compF Tryd.prog Q Tryd.f5 = some p5 := by kernel_rfl
def p7_l0 : PC := (.seq (.ops 13 0 [⟨some 50, .bin .lss (.tmp 49) (.tmp 48), none⟩])
 (.seq (.cond (.tmp 50)
 .skip
 (.exit 0))
 (.seq (.block 1
 (.seq (.ops 14 0 [⟨some 51, .mov (.tmp 49), none⟩,
 ⟨some 9, .mov (.tmp 51), none⟩])
 (.seq (.ops 15 0 [⟨some 52, .mov (.tmp 7), none⟩,
 ⟨some 53, .mov (.tmp 9), none⟩,
 ⟨some 54, .mov (.tmp 3), none⟩,
 ⟨some 55, .mov (.tmp 9), none⟩,
 ⟨some 56, .atL 13 (.tmp 54) (.tmp 55), none⟩,
 ⟨some 57, .fieldAddr 12 (.tmp 56), none⟩,
 ⟨some 58, .load none (.tmp 57), none⟩,
 ⟨some 59, .atL 13 (.tmp 52) (.tmp 53), none⟩,
 ⟨some 60, .fieldAddr 12 (.tmp 59), none⟩,
 ⟨none, .store 1 (.tmp 60) (.tmp 58), none⟩])
 (.seq (.ops 16 0 [⟨some 61, .mov (.tmp 7), none⟩,
 ⟨some 62, .mov (.tmp 9), none⟩,
 ⟨some 63, .atL 13 (.tmp 61) (.tmp 62), none⟩,
 ⟨some 64, .load (some 13) (.tmp 63), none⟩,
 ⟨some 65, .mov (.tmp 3), none⟩,
 ⟨some 66, .mov (.tmp 9), none⟩,
 ⟨some 67, .atL 13 (.tmp 65) (.tmp 66), none⟩,
 ⟨some 68, .load (some 13) (.tmp 67), none⟩,
 ⟨some 69, .cmp true 41 (.tmp 64) (.tmp 68), none⟩])
 (.cond (.tmp 69)
 (.seq (.ops 17 0 [⟨some 2, .mov (.const (.bool false)), none⟩])
 .ret)
 .skip)))))
 (.ops 18 0 [⟨some 70, .bin .add (.tmp 49) (.const (.int .i64 1)), none⟩,
 ⟨some 49, .mov (.tmp 70), none⟩]))))
def p7 : PF := ⟨(.seq (.ops 0 0 [⟨some 2, .mov (.const (.bool false)), none⟩])
 (.seq (.ops 1 0 [⟨some 11, .mov (.tmp 0), none⟩,
 ⟨some 12, .call (.func 8) [(.tmp 11)], none⟩,
 ⟨some 10, .mov (.tmp 12), none⟩,
 ⟨some 13, .extract (.tmp 10) 0, none⟩,
 ⟨some 14, .extract (.tmp 10) 1, none⟩,
 ⟨some 15, .extract (.tmp 10) 2, none⟩,
 ⟨some 3, .mov (.tmp 13), none⟩,
 ⟨some 4, .mov (.tmp 14), none⟩,
 ⟨some 5, .mov (.tmp 15), none⟩])
 (.seq (.seq (.ops 2 0 [⟨some 16, .mov (.tmp 5), none⟩,
 ⟨some 17, .bin .neq (.tmp 16) (.const (.int .i64 0)), none⟩,
 ⟨some 18, .mov (.tmp 17), none⟩,
 ⟨some 19, .call (.func 10) [], (some ((some 18), false))⟩,
 ⟨some 20, .un .not (.tmp 19), (some ((some 18), false))⟩,
 ⟨some 21, .pick (.tmp 18) (.const (.bool true)) (.tmp 20), none⟩])
 (.cond (.tmp 21)
 (.seq (.ops 3 0 [⟨some 22, .call (.func 10) [], none⟩,
 ⟨some 2, .mov (.tmp 22), none⟩])
 .ret)
 .skip))
 (.seq (.ops 4 0 [⟨some 23, .mov (.tmp 3), none⟩,
 ⟨some 24, .call (.func 25) [(.tmp 23)], none⟩,
 ⟨some 6, .mov (.tmp 24), none⟩])
 (.seq (.seq (.ops 5 0 [⟨some 25, .mov (.tmp 6), none⟩,
 ⟨some 26, .mov (.tmp 3), none⟩,
 ⟨some 27, .call (.func 26) [(.tmp 26)], none⟩,
 ⟨some 28, .bin .neq (.tmp 25) (.tmp 27), none⟩])
 (.cond (.tmp 28)
 (.seq (.ops 6 0 [⟨some 2, .mov (.const (.bool false)), none⟩])
 .ret)
 .skip))
 (.seq (.seq (.ops 7 0 [⟨some 29, .mov (.tmp 6), none⟩,
 ⟨some 30, .lenS (.tmp 29), none⟩,
 ⟨some 31, .bin .gtr (.tmp 30) (.const (.int .i64 16384)), none⟩])
 (.cond (.tmp 31)
 (.seq (.ops 8 0 [⟨some 2, .mov (.const (.bool true)), none⟩])
 .ret)
 .skip))
 (.seq (.ops 9 0 [⟨some 33, .mov (.tmp 6), none⟩,
 ⟨some 34, .call (.func 8) [(.tmp 33)], none⟩,
 ⟨some 32, .mov (.tmp 34), none⟩,
 ⟨some 35, .extract (.tmp 32) 0, none⟩,
 ⟨some 36, .extract (.tmp 32) 1, none⟩,
 ⟨some 37, .extract (.tmp 32) 2, none⟩,
 ⟨some 7, .mov (.tmp 35), none⟩,
 ⟨some 8, .mov (.tmp 36), none⟩,
 ⟨some 5, .mov (.tmp 37), none⟩])
 (.seq (.seq (.ops 10 0 [⟨some 38, .mov (.tmp 5), none⟩,
 ⟨some 39, .bin .neq (.tmp 38) (.const (.int .i64 0)), none⟩,
 ⟨some 40, .mov (.tmp 39), none⟩,
 ⟨some 41, .mov (.tmp 7), (some ((some 40), false))⟩,
 ⟨some 42, .lenL (.tmp 41), (some ((some 40), false))⟩,
 ⟨some 43, .mov (.tmp 3), (some ((some 40), false))⟩,
 ⟨some 44, .lenL (.tmp 43), (some ((some 40), false))⟩,
 ⟨some 45, .bin .neq (.tmp 42) (.tmp 44), (some ((some 40), false))⟩,
 ⟨some 46, .pick (.tmp 40) (.const (.bool true)) (.tmp 45), none⟩])
 (.cond (.tmp 46)
 (.seq (.ops 11 0 [⟨some 2, .mov (.const (.bool false)), none⟩])
 .ret)
 .skip))
 (.seq (.seq (.ops 12 0 [⟨some 47, .mov (.tmp 7), none⟩,
 ⟨some 48, .lenL (.tmp 47), none⟩,
 ⟨some 49, .mov (.const (.int .i64 0)), none⟩])
 (.block 0
 (.loop p7_l0)))
 (.seq (.ops 19 0 [⟨some 2, .mov (.const (.bool true)), none⟩])
 .ret)))))))))),
 71, [.tmp 2]⟩
theorem c7 : compF Tryd.prog Q Tryd.f7 = some p7 := by kernel_rfl
theorem ht7 : HasText Tryd.prog 7 Tryd.f7 := ⟨Tryd.func7, rfl, by decide⟩
def p8_l0 : PC := (.seq (.seq (.ops 5 0 [⟨some 14, .mov (.tmp 6), none⟩,
 ⟨some 15, .mov (.tmp 0), none⟩,
 ⟨some 16, .lenS (.tmp 15), none⟩,
 ⟨some 17, .bin .lss (.tmp 14) (.tmp 16), none⟩])
 (.cond (.tmp 17)
 .skip
 (.exit 0)))
 (.seq (.block 1
 (.seq (.ops 7 1 [⟨some 22, .mov (.tmp 0), none⟩,
 ⟨some 23, .mov (.tmp 6), none⟩,
 ⟨some 24, .call (.func 18) [(.tmp 22), (.tmp 23)], none⟩,
 ⟨some 21, .mov (.tmp 24), none⟩,
 ⟨some 25, .extract (.tmp 21) 0, none⟩,
 ⟨some 26, .extract (.tmp 21) 1, none⟩,
 ⟨some 7, .alloc 41 (.agg [(.int .i64 0), (.str []), (.int .i64 0), (.bool false), (.int .u64 0), (.int .u64 0), (.int .u64 0), (.int .u64 0), (.int .i64 0), (.bool false), (.str []), (.int .i64 0), (.int .i64 0)]), none⟩,
 ⟨none, .store 13 (.tmp 7) (.tmp 25), none⟩,
 ⟨some 8, .mov (.tmp 26), none⟩])
 (.seq (.seq (.ops 8 0 [⟨some 27, .mov (.tmp 8), none⟩,
 ⟨some 28, .bin .neq (.tmp 27) (.const (.int .i64 0)), none⟩])
 (.cond (.tmp 28)
 (.seq (.ops 9 0 [⟨some 29, .mov (.tmp 6), none⟩,
 ⟨some 30, .mov (.tmp 8), none⟩,
 ⟨some 2, .mov (.const (.slice none 0 0)), none⟩,
 ⟨some 3, .mov (.tmp 29), none⟩,
 ⟨some 4, .mov (.tmp 30), none⟩])
 .ret)
 .skip))
 (.seq (.ops 10 2 [⟨some 31, .mov (.tmp 5), none⟩,
 ⟨some 32, .load (some 13) (.tmp 7), none⟩,
 ⟨some 33, .bslice 41 13 1 (.agg [(.int .i64 0), (.str []), (.int .i64 0), (.bool false), (.int .u64 0), (.int .u64 0), (.int .u64 0), (.int .u64 0), (.int .i64 0), (.bool false), (.str []), (.int .i64 0), (.int .i64 0)]) [(0, (.tmp 32))], none⟩,
 ⟨some 34, .append 41 13 120 (.tmp 31) (.tmp 33), none⟩,
 ⟨some 5, .mov (.tmp 34), none⟩])
 (.ops 11 0 [⟨some 35, .mov (.tmp 6), none⟩,
 ⟨some 36, .fieldAddr 1 (.tmp 7), none⟩,
 ⟨some 37, .load none (.tmp 36), none⟩,
 ⟨some 38, .lenS (.tmp 37), none⟩,
 ⟨some 39, .bin .add (.tmp 35) (.tmp 38), none⟩,
 ⟨some 6, .mov (.tmp 39), none⟩])))))
 (.ops 6 0 [⟨some 18, .mov (.tmp 0), none⟩,
 ⟨some 19, .mov (.tmp 6), none⟩,
 ⟨some 20, .call (.func 16) [(.tmp 18), (.tmp 19)], none⟩,
 ⟨some 6, .mov (.tmp 20), none⟩])))
def p8 : PF := ⟨(.seq (.ops 0 0 [⟨some 2, .mov (.const (.slice none 0 0)), none⟩,
 ⟨some 3, .mov (.const (.int .i64 0)), none⟩,
 ⟨some 4, .mov (.const (.int .i64 0)), none⟩])
 (.seq (.seq (.ops 1 0 [⟨some 9, .mov (.tmp 0), none⟩,
 ⟨some 10, .lenS (.tmp 9), none⟩,
 ⟨some 11, .bin .gtr (.tmp 10) (.const (.int .i64 16384)), none⟩])
 (.cond (.tmp 11)
 (.seq (.ops 2 0 [⟨some 2, .mov (.const (.slice none 0 0)), none⟩,
 ⟨some 3, .mov (.const (.int .i64 0)), none⟩,
 ⟨some 4, .mov (.const (.int .i64 3)), none⟩])
 .ret)
 .skip))
 (.seq (.ops 3 0 [⟨some 5, .mov (.const (.slice none 0 0)), none⟩])
 (.seq (.seq (.ops 4 0 [⟨some 12, .mov (.tmp 0), none⟩,
 ⟨some 13, .call (.func 16) [(.tmp 12), (.const (.int .i64 0))], none⟩,
 ⟨some 6, .mov (.tmp 13), none⟩])
 (.block 0
 (.loop p8_l0)))
 (.seq (.ops 12 0 [⟨some 40, .mov (.tmp 5), none⟩,
 ⟨some 2, .mov (.tmp 40), none⟩,
 ⟨some 3, .mov (.const (.int .i64 0)), none⟩,
 ⟨some 4, .mov (.const (.int .i64 0)), none⟩])
 .ret))))),
 41, [.tmp 2, .tmp 3, .tmp 4]⟩
theorem c8 : compF Tryd.prog Q Tryd.f8 = some p8 := by kernel_rfl
theorem ht8 : HasText Tryd.prog 8 Tryd.f8 := ⟨Tryd.func8, rfl, by decide⟩
def p9_l0 : PC := (.seq (.seq (.ops 5 0 [⟨some 14, .mov (.tmp 6), none⟩,
 ⟨some 15, .mov (.tmp 0), none⟩,
 ⟨some 16, .lenS (.tmp 15), none⟩,
 ⟨some 17, .bin .lss (.tmp 14) (.tmp 16), none⟩])
 (.cond (.tmp 17)
 .skip
 (.exit 0)))
 (.block 1
 (.seq (.ops 6 1 [⟨some 19, .mov (.tmp 0), none⟩,
 ⟨some 20, .mov (.tmp 6), none⟩,
 ⟨some 21, .call (.func 19) [(.tmp 19), (.tmp 20)], none⟩,
 ⟨some 18, .mov (.tmp 21), none⟩,
 ⟨some 22, .extract (.tmp 18) 0, none⟩,
 ⟨some 23, .extract (.tmp 18) 1, none⟩,
 ⟨some 7, .alloc 41 (.agg [(.int .i64 0), (.str []), (.int .i64 0), (.bool false), (.int .u64 0), (.int .u64 0), (.int .u64 0), (.int .u64 0), (.int .i64 0), (.bool false), (.str []), (.int .i64 0), (.int .i64 0)]), none⟩,
 ⟨none, .store 13 (.tmp 7) (.tmp 22), none⟩,
 ⟨some 8, .mov (.tmp 23), none⟩])
 (.seq (.seq (.ops 7 0 [⟨some 24, .mov (.tmp 8), none⟩,
 ⟨some 25, .bin .neq (.tmp 24) (.const (.int .i64 0)), none⟩])
 (.cond (.tmp 25)
 (.seq (.ops 8 0 [⟨some 26, .mov (.tmp 6), none⟩,
 ⟨some 27, .mov (.tmp 8), none⟩,
 ⟨some 2, .mov (.const (.slice none 0 0)), none⟩,
 ⟨some 3, .mov (.tmp 26), none⟩,
 ⟨some 4, .mov (.tmp 27), none⟩])
 .ret)
 .skip))
 (.seq (.ops 9 2 [⟨some 28, .mov (.tmp 5), none⟩,
 ⟨some 29, .load (some 13) (.tmp 7), none⟩,
 ⟨some 30, .bslice 41 13 1 (.agg [(.int .i64 0), (.str []), (.int .i64 0), (.bool false), (.int .u64 0), (.int .u64 0), (.int .u64 0), (.int .u64 0), (.int .i64 0), (.bool false), (.str []), (.int .i64 0), (.int .i64 0)]) [(0, (.tmp 29))], none⟩,
 ⟨some 31, .append 41 13 120 (.tmp 28) (.tmp 30), none⟩,
 ⟨some 5, .mov (.tmp 31), none⟩])
 (.ops 10 0 [⟨some 32, .mov (.tmp 0), none⟩,
 ⟨some 33, .mov (.tmp 6), none⟩,
 ⟨some 34, .fieldAddr 1 (.tmp 7), none⟩,
 ⟨some 35, .load none (.tmp 34), none⟩,
 ⟨some 36, .lenS (.tmp 35), none⟩,
 ⟨some 37, .bin .add (.tmp 33) (.tmp 36), none⟩,
 ⟨some 38, .call (.func 20) [(.tmp 32), (.tmp 37)], none⟩,
 ⟨some 6, .mov (.tmp 38), none⟩]))))))
def p9 : PF := ⟨(.seq (.ops 0 0 [⟨some 2, .mov (.const (.slice none 0 0)), none⟩,
 ⟨some 3, .mov (.const (.int .i64 0)), none⟩,
 ⟨some 4, .mov (.const (.int .i64 0)), none⟩])
 (.seq (.seq (.ops 1 0 [⟨some 9, .mov (.tmp 0), none⟩,
 ⟨some 10, .lenS (.tmp 9), none⟩,
 ⟨some 11, .bin .gtr (.tmp 10) (.const (.int .i64 16384)), none⟩])
 (.cond (.tmp 11)
 (.seq (.ops 2 0 [⟨some 2, .mov (.const (.slice none 0 0)), none⟩,
 ⟨some 3, .mov (.const (.int .i64 0)), none⟩,
 ⟨some 4, .mov (.const (.int .i64 3)), none⟩])
 .ret)
 .skip))
 (.seq (.ops 3 0 [⟨some 5, .mov (.const (.slice none 0 0)), none⟩])
 (.seq (.ops 4 0 [⟨some 12, .mov (.tmp 0), none⟩,
 ⟨some 13, .call (.func 20) [(.tmp 12), (.const (.int .i64 0))], none⟩,
 ⟨some 6, .mov (.tmp 13), none⟩])
 (.seq (.block 0
 (.loop p9_l0))
 (.seq (.ops 11 0 [⟨some 39, .mov (.tmp 5), none⟩,
 ⟨some 2, .mov (.tmp 39), none⟩,
 ⟨some 3, .mov (.const (.int .i64 0)), none⟩,
 ⟨some 4, .mov (.const (.int .i64 0)), none⟩])
 .ret)))))),
 40, [.tmp 2, .tmp 3, .tmp 4]⟩
def p10 : PF := ⟨(.seq (.ops 0 0 [⟨some 0, .mov (.const (.bool false)), none⟩])
 (.seq (.ops 1 0 [⟨some 8, .call (.func 8) [(.const (.string ⟨#[97, 46, 98, 60, 61, 49, 46, 53, 48, 47, 47, 99]⟩))], none⟩,
 ⟨some 7, .mov (.tmp 8), none⟩,
 ⟨some 9, .extract (.tmp 7) 0, none⟩,
 ⟨some 10, .extract (.tmp 7) 1, none⟩,
 ⟨some 11, .extract (.tmp 7) 2, none⟩,
 ⟨some 1, .mov (.tmp 9), none⟩,
 ⟨some 2, .mov (.tmp 10), none⟩,
 ⟨some 3, .mov (.tmp 11), none⟩])
 (.seq (.ops 2 0 [⟨some 13, .call (.func 8) [(.const (.string ⟨#[32, 35]⟩))], none⟩,
 ⟨some 12, .mov (.tmp 13), none⟩,
 ⟨some 14, .extract (.tmp 12) 0, none⟩,
 ⟨some 15, .extract (.tmp 12) 1, none⟩,
 ⟨some 16, .extract (.tmp 12) 2, none⟩,
 ⟨some 4, .mov (.tmp 14), none⟩,
 ⟨some 5, .mov (.tmp 15), none⟩,
 ⟨some 6, .mov (.tmp 16), none⟩])
 (.seq (.ops 3 0 [⟨some 17, .mov (.tmp 3), none⟩,
 ⟨some 18, .bin .eql (.tmp 17) (.const (.int .i64 0)), none⟩,
 ⟨some 19, .mov (.tmp 18), none⟩,
 ⟨some 20, .mov (.tmp 2), (some ((some 19), true))⟩,
 ⟨some 21, .bin .eql (.tmp 20) (.const (.int .i64 0)), (some ((some 19), true))⟩,
 ⟨some 22, .pick (.tmp 19) (.tmp 21) (.const (.bool false)), none⟩,
 ⟨some 23, .mov (.tmp 22), none⟩,
 ⟨some 24, .mov (.tmp 1), (some ((some 23), true))⟩,
 ⟨some 25, .lenL (.tmp 24), (some ((some 23), true))⟩,
 ⟨some 26, .bin .eql (.tmp 25) (.const (.int .i64 5)), (some ((some 23), true))⟩,
 ⟨some 27, .pick (.tmp 23) (.tmp 26) (.const (.bool false)), none⟩,
 ⟨some 28, .mov (.tmp 27), none⟩,
 ⟨some 29, .mov (.tmp 1), (some ((some 28), true))⟩,
 ⟨some 30, .atL 13 (.tmp 29) (.const (.int .i64 3)), (some ((some 28), true))⟩,
 ⟨some 31, .fieldAddr 1 (.tmp 30), (some ((some 28), true))⟩,
 ⟨some 32, .load none (.tmp 31), (some ((some 28), true))⟩,
 ⟨some 33, .bin .eql (.tmp 32) (.const (.string ⟨#[60, 61]⟩)), (some ((some 28), true))⟩,
 ⟨some 34, .pick (.tmp 28) (.tmp 33) (.const (.bool false)), none⟩,
 ⟨some 35, .mov (.tmp 34), none⟩,
 ⟨some 36, .mov (.tmp 1), (some ((some 35), true))⟩,
 ⟨some 37, .atL 13 (.tmp 36) (.const (.int .i64 4)), (some ((some 35), true))⟩,
 ⟨some 38, .fieldAddr 2 (.tmp 37), (some ((some 35), true))⟩,
 ⟨some 39, .fieldAddr 1 (.tmp 38), (some ((some 35), true))⟩,
 ⟨some 40, .load (some 6) (.tmp 39), (some ((some 35), true))⟩,
 ⟨some 41, .build [(.int .u64 0), (.int .u64 0), (.int .u64 0), (.int .u64 0)] [((0, 1), (.const (.int .u64 150)))], (some ((some 35), true))⟩,
 ⟨some 42, .build [(.bool false), (.int .u64 0), (.int .u64 0), (.int .u64 0), (.int .u64 0), (.int .i64 0)] [((1, 4), (.tmp 41)), ((5, 1), (.const (.int .i64 2)))], (some ((some 35), true))⟩,
 ⟨some 43, .cmp false 37 (.tmp 40) (.tmp 42), (some ((some 35), true))⟩,
 ⟨some 44, .pick (.tmp 35) (.tmp 43) (.const (.bool false)), none⟩,
 ⟨some 45, .mov (.tmp 44), none⟩,
 ⟨some 46, .mov (.tmp 6), (some ((some 45), true))⟩,
 ⟨some 47, .bin .eql (.tmp 46) (.const (.int .i64 70)), (some ((some 45), true))⟩,
 ⟨some 48, .pick (.tmp 45) (.tmp 47) (.const (.bool false)), none⟩,
 ⟨some 49, .mov (.tmp 48), none⟩,
 ⟨some 50, .mov (.tmp 5), (some ((some 49), true))⟩,
 ⟨some 51, .bin .eql (.tmp 50) (.const (.int .i64 1)), (some ((some 49), true))⟩,
 ⟨some 52, .pick (.tmp 49) (.tmp 51) (.const (.bool false)), none⟩,
 ⟨some 0, .mov (.tmp 52), none⟩])
 .ret)))),
 53, [.tmp 0]⟩
theorem c10 : compF Tryd.prog Q Tryd.f10 = some p10 := by kernel_rfl
theorem ht10 : HasText Tryd.prog 10 Tryd.f10 := ⟨Tryd.func10, rfl, by decide⟩
def p11_l0 : PC := (.seq (.seq (.ops 4 0 [⟨some 11, .mov (.tmp 5), none⟩,
 ⟨some 12, .mov (.tmp 0), none⟩,
 ⟨some 13, .lenL (.tmp 12), none⟩,
 ⟨some 14, .bin .lss (.tmp 11) (.tmp 13), none⟩])
 (.cond (.tmp 14)
 .skip
 (.exit 0)))
 (.seq (.block 1
 (.seq (.ops 6 0 [⟨some 17, .mov (.tmp 0), none⟩,
 ⟨some 18, .mov (.tmp 5), none⟩,
 ⟨some 19, .atL 13 (.tmp 17) (.tmp 18), none⟩,
 ⟨some 20, .load (some 13) (.tmp 19), none⟩,
 ⟨some 21, .mov (.tmp 1), none⟩,
 ⟨some 22, .mov (.tmp 5), none⟩,
 ⟨some 23, .atL 13 (.tmp 21) (.tmp 22), none⟩,
 ⟨some 24, .load (some 13) (.tmp 23), none⟩,
 ⟨some 25, .cmp true 41 (.tmp 20) (.tmp 24), none⟩])
 (.cond (.tmp 25)
 (.seq (.ops 7 0 [⟨some 4, .mov (.const (.bool false)), none⟩])
 .ret)
 .skip)))
 (.ops 5 0 [⟨some 15, .mov (.tmp 5), none⟩,
 ⟨some 16, .bin .add (.tmp 15) (.const (.int .i64 1)), none⟩,
 ⟨some 5, .mov (.tmp 16), none⟩])))
def p11 : PF := ⟨(.seq (.ops 0 0 [⟨some 4, .mov (.const (.bool false)), none⟩])
 (.seq (.seq (.ops 1 0 [⟨some 6, .mov (.tmp 0), none⟩,
 ⟨some 7, .lenL (.tmp 6), none⟩,
 ⟨some 8, .mov (.tmp 1), none⟩,
 ⟨some 9, .lenL (.tmp 8), none⟩,
 ⟨some 10, .bin .neq (.tmp 7) (.tmp 9), none⟩])
 (.cond (.tmp 10)
 (.seq (.ops 2 0 [⟨some 4, .mov (.const (.bool false)), none⟩])
 .ret)
 .skip))
 (.seq (.seq (.ops 3 0 [⟨some 5, .mov (.const (.int .i64 0)), none⟩])
 (.block 0
 (.loop p11_l0)))
 (.seq (.ops 8 0 [⟨some 4, .mov (.const (.bool true)), none⟩])
 .ret)))),
 26, [.tmp 4]⟩
theorem c11 : compF Tryd.prog Q Tryd.f11 = some p11 := by kernel_rfl
theorem ht11 : HasText Tryd.prog 11 Tryd.f11 := ⟨Tryd.func11, rfl, by decide⟩
def p12_l0 : PC := (.seq (.seq (.ops 3 0 [⟨some 9, .mov (.tmp 5), none⟩,
 ⟨some 10, .mov (.tmp 0), none⟩,
 ⟨some 11, .lenS (.tmp 10), none⟩,
 ⟨some 12, .bin .sub (.tmp 11) (.const (.int .i64 1)), none⟩,
 ⟨some 13, .bin .lss (.tmp 9) (.tmp 12), none⟩])
 (.cond (.tmp 13)
 .skip
 (.exit 0)))
 (.seq (.block 1
 (.seq (.ops 5 0 [⟨some 16, .mov (.tmp 0), none⟩,
 ⟨some 17, .mov (.tmp 5), none⟩,
 ⟨some 18, .indexS (.tmp 16) (.tmp 17), none⟩,
 ⟨some 6, .mov (.tmp 18), none⟩])
 (.seq (.seq (.ops 6 0 [⟨some 19, .mov (.tmp 6), none⟩,
 ⟨some 20, .bin .neq (.tmp 19) (.const (.int .u8 92)), none⟩])
 (.cond (.tmp 20)
 (.seq (.ops 7 2 [⟨some 21, .mov (.tmp 4), none⟩,
 ⟨some 22, .mov (.tmp 6), none⟩,
 ⟨some 23, .bslice 5 1 1 (.int .u8 0) [(0, (.tmp 22))], none⟩,
 ⟨some 24, .append 5 1 1 (.tmp 21) (.tmp 23), none⟩,
 ⟨some 4, .mov (.tmp 24), none⟩])
 (.exit 1))
 .skip))
 (.seq (.ops 8 0 [⟨some 25, .mov (.tmp 5), none⟩,
 ⟨some 26, .bin .add (.tmp 25) (.const (.int .i64 1)), none⟩,
 ⟨some 5, .mov (.tmp 26), none⟩])
 (.seq (.seq (.ops 9 0 [⟨some 27, .mov (.tmp 0), none⟩,
 ⟨some 28, .mov (.tmp 5), none⟩,
 ⟨some 29, .indexS (.tmp 27) (.tmp 28), none⟩,
 ⟨some 30, .bin .neq (.tmp 29) (.const (.int .u8 120)), none⟩])
 (.cond (.tmp 30)
 (.seq (.ops 10 2 [⟨some 31, .mov (.tmp 4), none⟩,
 ⟨some 32, .mov (.tmp 0), none⟩,
 ⟨some 33, .mov (.tmp 5), none⟩,
 ⟨some 34, .indexS (.tmp 32) (.tmp 33), none⟩,
 ⟨some 35, .bslice 5 1 1 (.int .u8 0) [(0, (.tmp 34))], none⟩,
 ⟨some 36, .append 5 1 1 (.tmp 31) (.tmp 35), none⟩,
 ⟨some 4, .mov (.tmp 36), none⟩])
 (.exit 1))
 .skip))
 (.seq (.seq (.ops 11 0 [⟨some 37, .mov (.tmp 5), none⟩,
 ⟨some 38, .bin .add (.tmp 37) (.const (.int .i64 2)), none⟩,
 ⟨some 39, .mov (.tmp 0), none⟩,
 ⟨some 40, .lenS (.tmp 39), none⟩,
 ⟨some 41, .bin .sub (.tmp 40) (.const (.int .i64 1)), none⟩,
 ⟨some 42, .bin .geq (.tmp 38) (.tmp 41), none⟩])
 (.cond (.tmp 42)
 (.seq (.ops 12 0 [⟨some 2, .mov (.const (.string ⟨#[]⟩)), none⟩,
 ⟨some 3, .mov (.const (.bool false)), none⟩])
 .ret)
 .skip))
 (.seq (.ops 13 0 [⟨some 43, .mov (.tmp 0), none⟩,
 ⟨some 44, .mov (.tmp 5), none⟩,
 ⟨some 45, .bin .add (.tmp 44) (.const (.int .i64 1)), none⟩,
 ⟨some 46, .indexS (.tmp 43) (.tmp 45), none⟩,
 ⟨some 47, .call (.func 27) [(.const (.string ⟨#[48, 49, 50, 51, 52, 53, 54, 55, 56, 57, 97, 98, 99, 100, 101, 102]⟩)), (.tmp 46)], none⟩,
 ⟨some 48, .mov (.tmp 0), none⟩,
 ⟨some 49, .mov (.tmp 5), none⟩,
 ⟨some 50, .bin .add (.tmp 49) (.const (.int .i64 2)), none⟩,
 ⟨some 51, .indexS (.tmp 48) (.tmp 50), none⟩,
 ⟨some 52, .call (.func 27) [(.const (.string ⟨#[48, 49, 50, 51, 52, 53, 54, 55, 56, 57, 97, 98, 99, 100, 101, 102]⟩)), (.tmp 51)], none⟩,
 ⟨some 7, .mov (.tmp 47), none⟩,
 ⟨some 8, .mov (.tmp 52), none⟩])
 (.seq (.seq (.ops 14 0 [⟨some 53, .mov (.tmp 7), none⟩,
 ⟨some 54, .bin .lss (.tmp 53) (.const (.int .i64 0)), none⟩,
 ⟨some 55, .mov (.tmp 54), none⟩,
 ⟨some 56, .mov (.tmp 8), (some ((some 55), false))⟩,
 ⟨some 57, .bin .lss (.tmp 56) (.const (.int .i64 0)), (some ((some 55), false))⟩,
 ⟨some 58, .pick (.tmp 55) (.const (.bool true)) (.tmp 57), none⟩])
 (.cond (.tmp 58)
 (.seq (.ops 15 0 [⟨some 2, .mov (.const (.string ⟨#[]⟩)), none⟩,
 ⟨some 3, .mov (.const (.bool false)), none⟩])
 .ret)
 .skip))
 (.seq (.ops 16 2 [⟨some 59, .mov (.tmp 4), none⟩,
 ⟨some 60, .mov (.tmp 7), none⟩,
 ⟨some 61, .bin .mul (.const (.int .i64 16)) (.tmp 60), none⟩,
 ⟨some 62, .mov (.tmp 8), none⟩,
 ⟨some 63, .bin .add (.tmp 61) (.tmp 62), none⟩,
 ⟨some 64, .conv .u8 (.tmp 63), none⟩,
 ⟨some 65, .bslice 5 1 1 (.int .u8 0) [(0, (.tmp 64))], none⟩,
 ⟨some 66, .append 5 1 1 (.tmp 59) (.tmp 65), none⟩,
 ⟨some 4, .mov (.tmp 66), none⟩])
 (.ops 17 0 [⟨some 67, .mov (.tmp 5), none⟩,
 ⟨some 68, .bin .add (.tmp 67) (.const (.int .i64 2)), none⟩,
 ⟨some 5, .mov (.tmp 68), none⟩]))))))))))
 (.ops 4 0 [⟨some 14, .mov (.tmp 5), none⟩,
 ⟨some 15, .bin .add (.tmp 14) (.const (.int .i64 1)), none⟩,
 ⟨some 5, .mov (.tmp 15), none⟩])))
def p12 : PF := ⟨(.seq (.ops 0 0 [⟨some 2, .mov (.const (.string ⟨#[]⟩)), none⟩,
 ⟨some 3, .mov (.const (.bool false)), none⟩])
 (.seq (.ops 1 0 [⟨some 4, .mov (.const (.slice none 0 0)), none⟩])
 (.seq (.seq (.ops 2 0 [⟨some 5, .mov (.const (.int .i64 1)), none⟩])
 (.block 0
 (.loop p12_l0)))
 (.seq (.seq (.ops 18 0 [⟨some 69, .mov (.tmp 4), none⟩,
 ⟨some 70, .toStr (.tmp 69), none⟩,
 ⟨some 71, .call (.func 14) [(.tmp 70)], none⟩,
 ⟨some 72, .mov (.tmp 0), none⟩,
 ⟨some 73, .bin .neq (.tmp 71) (.tmp 72), none⟩])
 (.cond (.tmp 73)
 (.seq (.ops 19 0 [⟨some 2, .mov (.const (.string ⟨#[]⟩)), none⟩,
 ⟨some 3, .mov (.const (.bool false)), none⟩])
 .ret)
 .skip))
 (.seq (.ops 20 0 [⟨some 74, .mov (.tmp 4), none⟩,
 ⟨some 75, .toStr (.tmp 74), none⟩,
 ⟨some 2, .mov (.tmp 75), none⟩,
 ⟨some 3, .mov (.const (.bool true)), none⟩])
 .ret))))),
 76, [.tmp 2, .tmp 3]⟩
theorem c12 : compF Tryd.prog Q Tryd.f12 = some p12 := by kernel_rfl
theorem ht12 : HasText Tryd.prog 12 Tryd.f12 := ⟨Tryd.func12, rfl, by decide⟩
def p13_l0 : PC := (.seq (.seq (.ops 3 0 [⟨some 7, .mov (.tmp 5), none⟩,
 ⟨some 8, .mov (.tmp 0), none⟩,
 ⟨some 9, .lenS (.tmp 8), none⟩,
 ⟨some 10, .bin .sub (.tmp 9) (.const (.int .i64 1)), none⟩,
 ⟨some 11, .bin .lss (.tmp 7) (.tmp 10), none⟩])
 (.cond (.tmp 11)
 .skip
 (.exit 0)))
 (.seq (.block 1
 (.seq (.ops 5 0 [⟨some 14, .mov (.tmp 0), none⟩,
 ⟨some 15, .mov (.tmp 5), none⟩,
 ⟨some 16, .indexS (.tmp 14) (.tmp 15), none⟩,
 ⟨some 6, .mov (.tmp 16), none⟩])
 (.seq (.seq (.ops 6 0 [⟨some 17, .mov (.tmp 6), none⟩,
 ⟨some 18, .bin .eql (.tmp 17) (.const (.int .u8 92)), none⟩,
 ⟨some 19, .mov (.tmp 18), none⟩,
 ⟨some 20, .mov (.tmp 5), (some ((some 19), true))⟩,
 ⟨some 21, .bin .add (.tmp 20) (.const (.int .i64 1)), (some ((some 19), true))⟩,
 ⟨some 22, .mov (.tmp 0), (some ((some 19), true))⟩,
 ⟨some 23, .lenS (.tmp 22), (some ((some 19), true))⟩,
 ⟨some 24, .bin .sub (.tmp 23) (.const (.int .i64 1)), (some ((some 19), true))⟩,
 ⟨some 25, .bin .lss (.tmp 21) (.tmp 24), (some ((some 19), true))⟩,
 ⟨some 26, .pick (.tmp 19) (.tmp 25) (.const (.bool false)), none⟩,
 ⟨some 27, .mov (.tmp 26), none⟩,
 ⟨some 28, .mov (.tmp 0), (some ((some 27), true))⟩,
 ⟨some 29, .mov (.tmp 5), (some ((some 27), true))⟩,
 ⟨some 30, .bin .add (.tmp 29) (.const (.int .i64 1)), (some ((some 27), true))⟩,
 ⟨some 31, .indexS (.tmp 28) (.tmp 30), (some ((some 27), true))⟩,
 ⟨some 32, .bin .neq (.tmp 31) (.const (.int .u8 120)), (some ((some 27), true))⟩,
 ⟨some 33, .pick (.tmp 27) (.tmp 32) (.const (.bool false)), none⟩])
 (.cond (.tmp 33)
 (.seq (.ops 7 0 [⟨some 34, .mov (.tmp 5), none⟩,
 ⟨some 35, .bin .add (.tmp 34) (.const (.int .i64 1)), none⟩,
 ⟨some 5, .mov (.tmp 35), none⟩])
 (.ops 8 0 [⟨some 36, .mov (.tmp 0), none⟩,
 ⟨some 37, .mov (.tmp 5), none⟩,
 ⟨some 38, .indexS (.tmp 36) (.tmp 37), none⟩,
 ⟨some 6, .mov (.tmp 38), none⟩]))
 (.seq (.ops 9 0 [⟨some 39, .mov (.tmp 6), none⟩,
 ⟨some 40, .bin .eql (.tmp 39) (.const (.int .u8 92)), none⟩,
 ⟨some 41, .mov (.tmp 40), none⟩,
 ⟨some 42, .mov (.tmp 5), (some ((some 41), true))⟩,
 ⟨some 43, .bin .add (.tmp 42) (.const (.int .i64 3)), (some ((some 41), true))⟩,
 ⟨some 44, .mov (.tmp 0), (some ((some 41), true))⟩,
 ⟨some 45, .lenS (.tmp 44), (some ((some 41), true))⟩,
 ⟨some 46, .bin .sub (.tmp 45) (.const (.int .i64 1)), (some ((some 41), true))⟩,
 ⟨some 47, .bin .lss (.tmp 43) (.tmp 46), (some ((some 41), true))⟩,
 ⟨some 48, .pick (.tmp 41) (.tmp 47) (.const (.bool false)), none⟩])
 (.cond (.tmp 48)
 (.seq (.ops 10 0 [⟨some 49, .mov (.tmp 0), none⟩,
 ⟨some 50, .mov (.tmp 5), none⟩,
 ⟨some 51, .bin .add (.tmp 50) (.const (.int .i64 2)), none⟩,
 ⟨some 52, .indexS (.tmp 49) (.tmp 51), none⟩,
 ⟨some 53, .call (.func 28) [(.tmp 52)], none⟩,
 ⟨some 54, .bin .mul (.const (.int .u8 16)) (.tmp 53), none⟩,
 ⟨some 55, .mov (.tmp 0), none⟩,
 ⟨some 56, .mov (.tmp 5), none⟩,
 ⟨some 57, .bin .add (.tmp 56) (.const (.int .i64 3)), none⟩,
 ⟨some 58, .indexS (.tmp 55) (.tmp 57), none⟩,
 ⟨some 59, .call (.func 28) [(.tmp 58)], none⟩,
 ⟨some 60, .bin .add (.tmp 54) (.tmp 59), none⟩,
 ⟨some 6, .mov (.tmp 60), none⟩])
 (.ops 11 0 [⟨some 61, .mov (.tmp 5), none⟩,
 ⟨some 62, .bin .add (.tmp 61) (.const (.int .i64 3)), none⟩,
 ⟨some 5, .mov (.tmp 62), none⟩]))
 .skip))))
 (.ops 12 2 [⟨some 63, .mov (.tmp 4), none⟩,
 ⟨some 64, .mov (.tmp 6), none⟩,
 ⟨some 65, .bslice 5 1 1 (.int .u8 0) [(0, (.tmp 64))], none⟩,
 ⟨some 66, .append 5 1 1 (.tmp 63) (.tmp 65), none⟩,
 ⟨some 4, .mov (.tmp 66), none⟩]))))
 (.ops 4 0 [⟨some 12, .mov (.tmp 5), none⟩,
 ⟨some 13, .bin .add (.tmp 12) (.const (.int .i64 1)), none⟩,
 ⟨some 5, .mov (.tmp 13), none⟩])))
def p13 : PF := ⟨(.seq (.ops 0 0 [⟨some 2, .mov (.const (.string ⟨#[]⟩)), none⟩,
 ⟨some 3, .mov (.const (.bool false)), none⟩])
 (.seq (.ops 1 0 [⟨some 4, .mov (.const (.slice none 0 0)), none⟩])
 (.seq (.seq (.ops 2 0 [⟨some 5, .mov (.const (.int .i64 1)), none⟩])
 (.block 0
 (.loop p13_l0)))
 (.seq (.seq (.ops 13 0 [⟨some 67, .mov (.tmp 4), none⟩,
 ⟨some 68, .toStr (.tmp 67), none⟩,
 ⟨some 69, .call (.func 15) [(.tmp 68)], none⟩,
 ⟨some 70, .mov (.tmp 0), none⟩,
 ⟨some 71, .bin .neq (.tmp 69) (.tmp 70), none⟩])
 (.cond (.tmp 71)
 (.seq (.ops 14 0 [⟨some 2, .mov (.const (.string ⟨#[]⟩)), none⟩,
 ⟨some 3, .mov (.const (.bool false)), none⟩])
 .ret)
 .skip))
 (.seq (.ops 15 0 [⟨some 72, .mov (.tmp 4), none⟩,
 ⟨some 73, .toStr (.tmp 72), none⟩,
 ⟨some 2, .mov (.tmp 73), none⟩,
 ⟨some 3, .mov (.const (.bool true)), none⟩])
 .ret))))),
 74, [.tmp 2, .tmp 3]⟩
theorem c13 : compF Tryd.prog Q Tryd.f13 = some p13 := by kernel_rfl
theorem ht13 : HasText Tryd.prog 13 Tryd.f13 := ⟨Tryd.func13, rfl, by decide⟩
theorem ht14 : HasText Tryd.prog 14 Tryd.f14 := ⟨Tryd.func14, rfl, by decide⟩
theorem ht15 : HasText Tryd.prog 15 Tryd.f15 := ⟨Tryd.func15, rfl, by decide⟩
def p16 : PF := ⟨(.seq (.ops 0 0 [⟨some 4, .mov (.const (.int .i64 0)), none⟩])
 (.scope
 (.seq (.seq (.ops 1 0 [⟨some 6, .mov (.tmp 1), none⟩,
 ⟨some 7, .bin .lss (.tmp 6) (.const (.int .i64 0)), none⟩,
 ⟨some 8, .mov (.tmp 7), none⟩,
 ⟨some 9, .mov (.tmp 1), (some ((some 8), false))⟩,
 ⟨some 10, .mov (.tmp 0), (some ((some 8), false))⟩,
 ⟨some 11, .lenS (.tmp 10), (some ((some 8), false))⟩,
 ⟨some 12, .bin .gtr (.tmp 9) (.tmp 11), (some ((some 8), false))⟩,
 ⟨some 13, .pick (.tmp 8) (.const (.bool true)) (.tmp 12), none⟩])
 (.cond (.tmp 13)
 (.seq (.ops 2 0 [⟨some 14, .mov (.tmp 1), none⟩,
 ⟨some 4, .mov (.tmp 14), none⟩])
 .ret)
 .skip))
 (.seq (.label 0)
 (.seq (.seq (.ops 3 0 [⟨some 15, .mov (.tmp 1), none⟩,
 ⟨some 16, .mov (.tmp 0), none⟩,
 ⟨some 17, .lenS (.tmp 16), none⟩,
 ⟨some 18, .bin .eql (.tmp 15) (.tmp 17), none⟩])
 (.cond (.tmp 18)
 (.seq (.ops 4 0 [⟨some 19, .mov (.tmp 1), none⟩,
 ⟨some 4, .mov (.tmp 19), none⟩])
 .ret)
 .skip))
 (.seq (.seq (.ops 5 0 [⟨some 20, .mov (.tmp 0), none⟩,
 ⟨some 21, .mov (.tmp 1), none⟩,
 ⟨some 22, .indexS (.tmp 20) (.tmp 21), none⟩])
 (.block 0
 (.seq (.seq (.ops 6 0 [⟨some 24, .bin .eql (.tmp 22) (.const (.int .u8 32)), none⟩,
 ⟨some 23, .mov (.tmp 24), none⟩])
 (.cond (.tmp 23)
 .skip
 (.seq (.ops 7 0 [⟨some 25, .bin .eql (.tmp 22) (.const (.int .u8 9)), none⟩,
 ⟨some 23, .mov (.tmp 25), none⟩])
 (.cond (.tmp 23)
 .skip
 (.seq (.ops 8 0 [⟨some 26, .bin .eql (.tmp 22) (.const (.int .u8 10)), none⟩,
 ⟨some 23, .mov (.tmp 26), none⟩])
 (.cond (.tmp 23)
 .skip
 (.ops 9 0 [⟨some 27, .bin .eql (.tmp 22) (.const (.int .u8 13)), none⟩,
 ⟨some 23, .mov (.tmp 27), none⟩])))))))
 (.cond (.tmp 23)
 (.seq (.ops 10 0 [⟨some 28, .mov (.tmp 1), none⟩,
 ⟨some 29, .bin .add (.tmp 28) (.const (.int .i64 1)), none⟩,
 ⟨some 1, .mov (.tmp 29), none⟩])
 (.goto 0))
 .skip))))
 (.seq (.seq (.ops 11 0 [⟨some 30, .mov (.tmp 0), none⟩,
 ⟨some 31, .mov (.tmp 1), none⟩,
 ⟨some 32, .sliceS (.tmp 30) (some (.tmp 31)) none, none⟩,
 ⟨some 33, .call (.func 17) [(.tmp 32), (.const (.string ⟨#[47, 47]⟩))], none⟩])
 (.cond (.tmp 33)
 (.seq (.ops 12 0 [⟨some 34, .mov (.tmp 0), none⟩,
 ⟨some 35, .mov (.tmp 1), none⟩,
 ⟨some 36, .sliceS (.tmp 34) (some (.tmp 35)) none, none⟩,
 ⟨some 37, .call (.func 27) [(.tmp 36), (.const (.int .u8 10))], none⟩,
 ⟨some 5, .mov (.tmp 37), none⟩])
 (.seq (.seq (.ops 13 0 [⟨some 38, .mov (.tmp 5), none⟩,
 ⟨some 39, .bin .lss (.tmp 38) (.const (.int .i64 0)), none⟩])
 (.cond (.tmp 39)
 (.seq (.ops 14 0 [⟨some 40, .mov (.tmp 0), none⟩,
 ⟨some 41, .lenS (.tmp 40), none⟩,
 ⟨some 4, .mov (.tmp 41), none⟩])
 .ret)
 .skip))
 (.seq (.ops 15 0 [⟨some 42, .mov (.tmp 1), none⟩,
 ⟨some 43, .mov (.tmp 5), none⟩,
 ⟨some 44, .bin .add (.tmp 43) (.const (.int .i64 1)), none⟩,
 ⟨some 45, .bin .add (.tmp 42) (.tmp 44), none⟩,
 ⟨some 1, .mov (.tmp 45), none⟩])
 (.goto 0))))
 .skip))
 (.seq (.ops 16 0 [⟨some 46, .mov (.tmp 1), none⟩,
 ⟨some 4, .mov (.tmp 46), none⟩])
 .ret)))))))),
 47, [.tmp 4]⟩
theorem c16 : compF Tryd.prog Q Tryd.f16 = some p16 := by kernel_rfl
theorem ht16 : HasText Tryd.prog 16 Tryd.f16 := ⟨Tryd.func16, rfl, by decide⟩
theorem ht17 : HasText Tryd.prog 17 Tryd.f17 := ⟨Tryd.func17, rfl, by decide⟩
def p18 : PF := ⟨(.seq (.ops 0 1 [⟨some 4, .alloc 41 (.agg [(.int .i64 0), (.str []), (.int .i64 0), (.bool false), (.int .u64 0), (.int .u64 0), (.int .u64 0), (.int .u64 0), (.int .i64 0), (.bool false), (.str []), (.int .i64 0), (.int .i64 0)]), none⟩,
 ⟨some 5, .mov (.const (.int .i64 0)), none⟩])
 (.scope
 (.seq (.seq (.ops 1 0 [⟨some 12, .mov (.tmp 1), none⟩,
 ⟨some 13, .bin .lss (.tmp 12) (.const (.int .i64 0)), none⟩,
 ⟨some 14, .mov (.tmp 13), none⟩,
 ⟨some 15, .mov (.tmp 1), (some ((some 14), false))⟩,
 ⟨some 16, .mov (.tmp 0), (some ((some 14), false))⟩,
 ⟨some 17, .lenS (.tmp 16), (some ((some 14), false))⟩,
 ⟨some 18, .bin .geq (.tmp 15) (.tmp 17), (some ((some 14), false))⟩,
 ⟨some 19, .pick (.tmp 14) (.const (.bool true)) (.tmp 18), none⟩])
 (.cond (.tmp 19)
 (.seq (.ops 2 0 [⟨some 20, .build [(.int .i64 0), (.str []), (.int .i64 0), (.bool false), (.int .u64 0), (.int .u64 0), (.int .u64 0), (.int .u64 0), (.int .i64 0), (.bool false), (.str []), (.int .i64 0), (.int .i64 0)] [], none⟩,
 ⟨none, .store 13 (.tmp 4) (.tmp 20), none⟩,
 ⟨some 5, .mov (.const (.int .i64 4)), none⟩])
 .ret)
 .skip))
 (.seq (.ops 3 0 [⟨some 21, .mov (.tmp 0), none⟩,
 ⟨some 22, .mov (.tmp 1), none⟩,
 ⟨some 23, .sliceS (.tmp 21) (some (.tmp 22)) none, none⟩,
 ⟨some 6, .mov (.tmp 23), none⟩])
 (.seq (.ops 4 1 [⟨some 24, .mov (.tmp 1), none⟩,
 ⟨some 25, .build [(.int .i64 0), (.str []), (.int .i64 0), (.bool false), (.int .u64 0), (.int .u64 0), (.int .u64 0), (.int .u64 0), (.int .i64 0), (.bool false), (.str []), (.int .i64 0), (.int .i64 0)] [((12, 1), (.tmp 24))], none⟩,
 ⟨some 7, .alloc 41 (.agg [(.int .i64 0), (.str []), (.int .i64 0), (.bool false), (.int .u64 0), (.int .u64 0), (.int .u64 0), (.int .u64 0), (.int .i64 0), (.bool false), (.str []), (.int .i64 0), (.int .i64 0)]), none⟩,
 ⟨none, .store 13 (.tmp 7) (.tmp 25), none⟩])
 (.seq (.block 0
 (.seq (.ops 5 0 [⟨some 27, .mov (.tmp 6), none⟩,
 ⟨some 28, .indexS (.tmp 27) (.const (.int .i64 0)), none⟩,
 ⟨some 29, .call (.func 33) [(.tmp 28)], none⟩,
 ⟨some 26, .mov (.tmp 29), none⟩])
 (.cond (.tmp 26)
 (.goto 0)
 (.seq (.ops 6 0 [⟨some 31, .mov (.tmp 6), none⟩,
 ⟨some 32, .indexS (.tmp 31) (.const (.int .i64 0)), none⟩,
 ⟨some 33, .call (.func 34) [(.tmp 32)], none⟩,
 ⟨some 30, .mov (.tmp 33), none⟩])
 (.cond (.tmp 30)
 (.goto 1)
 (.seq (.ops 7 0 [⟨some 35, .mov (.tmp 6), none⟩,
 ⟨some 36, .indexS (.tmp 35) (.const (.int .i64 0)), none⟩,
 ⟨some 37, .bin .eql (.tmp 36) (.const (.int .u8 34)), none⟩,
 ⟨some 34, .mov (.tmp 37), none⟩])
 (.cond (.tmp 34)
 (.goto 2)
 .skip)))))))
 (.seq (.ops 8 0 [⟨some 38, .mov (.tmp 6), none⟩,
 ⟨some 39, .call (.func 35) [(.tmp 38)], none⟩,
 ⟨some 40, .fieldAddr 0 (.tmp 7), none⟩,
 ⟨none, .store 1 (.tmp 40) (.const (.int .i64 4)), none⟩,
 ⟨some 41, .fieldAddr 1 (.tmp 7), none⟩,
 ⟨none, .store 1 (.tmp 41) (.tmp 39), none⟩])
 (.seq (.seq (.ops 9 0 [⟨some 42, .fieldAddr 1 (.tmp 7), none⟩,
 ⟨some 43, .load none (.tmp 42), none⟩,
 ⟨some 44, .bin .eql (.tmp 43) (.const (.string ⟨#[]⟩)), none⟩])
 (.cond (.tmp 44)
 (.goto 3)
 .skip))
 (.seq (.seq (.ops 10 0 [⟨some 45, .load (some 13) (.tmp 7), none⟩,
 ⟨none, .store 13 (.tmp 4) (.tmp 45), none⟩,
 ⟨some 5, .mov (.const (.int .i64 0)), none⟩])
 .ret)
 (.seq (.label 0)
 (.seq (.ops2 11 0 [] [⟨some 46, .mov (.tmp 6), none⟩,
 ⟨some 47, .mov (.tmp 6), none⟩,
 ⟨some 48, .call (.func 36) [(.tmp 47)], none⟩,
 ⟨some 49, .sliceS (.tmp 46) none (some (.tmp 48)), none⟩,
 ⟨some 50, .fieldAddr 0 (.tmp 7), none⟩,
 ⟨none, .store 1 (.tmp 50) (.const (.int .i64 1)), none⟩,
 ⟨some 51, .fieldAddr 1 (.tmp 7), none⟩,
 ⟨none, .store 1 (.tmp 51) (.tmp 49), none⟩] [])
 (.seq (.seq (.ops 12 0 [⟨some 52, .fieldAddr 1 (.tmp 7), none⟩,
 ⟨some 53, .load none (.tmp 52), none⟩,
 ⟨some 54, .call (.func 21) [(.tmp 53)], none⟩,
 ⟨some 55, .un .not (.tmp 54), none⟩])
 (.cond (.tmp 55)
 (.goto 3)
 .skip))
 (.seq (.seq (.ops 13 0 [⟨some 56, .load (some 13) (.tmp 7), none⟩,
 ⟨none, .store 13 (.tmp 4) (.tmp 56), none⟩,
 ⟨some 5, .mov (.const (.int .i64 0)), none⟩])
 .ret)
 (.seq (.label 1)
 (.seq (.ops2 14 0 [] [⟨some 57, .mov (.tmp 6), none⟩,
 ⟨some 58, .mov (.tmp 6), none⟩,
 ⟨some 59, .call (.func 37) [(.tmp 58)], none⟩,
 ⟨some 60, .sliceS (.tmp 57) none (some (.tmp 59)), none⟩,
 ⟨some 61, .fieldAddr 0 (.tmp 7), none⟩,
 ⟨none, .store 1 (.tmp 61) (.const (.int .i64 2)), none⟩,
 ⟨some 62, .fieldAddr 1 (.tmp 7), none⟩,
 ⟨none, .store 1 (.tmp 62) (.tmp 60), none⟩] [])
 (.seq (.seq (.ops 15 1 [⟨some 64, .fieldAddr 1 (.tmp 7), none⟩,
 ⟨some 65, .load none (.tmp 64), none⟩,
 ⟨some 66, .call (.func 38) [(.tmp 65)], none⟩,
 ⟨some 63, .mov (.tmp 66), none⟩,
 ⟨some 67, .extract (.tmp 63) 0, none⟩,
 ⟨some 68, .extract (.tmp 63) 1, none⟩,
 ⟨some 8, .alloc 37 (.agg [(.bool false), (.int .u64 0), (.int .u64 0), (.int .u64 0), (.int .u64 0), (.int .i64 0)]), none⟩,
 ⟨none, .store 6 (.tmp 8) (.tmp 67), none⟩,
 ⟨some 9, .mov (.tmp 68), none⟩])
 (.seq (.ops 16 0 [⟨some 69, .mov (.tmp 9), none⟩,
 ⟨some 70, .bin .eql (.tmp 69) (.const (.int .i64 0)), none⟩])
 (.cond (.tmp 70)
 (.seq (.ops 17 0 [⟨some 71, .load (some 6) (.tmp 8), none⟩,
 ⟨some 72, .build [(.int .i64 0), (.bool false), (.int .u64 0), (.int .u64 0), (.int .u64 0), (.int .u64 0), (.int .i64 0), (.bool false), (.str []), (.int .i64 0)] [((0, 1), (.const (.int .i64 1))), ((1, 6), (.tmp 71))], none⟩,
 ⟨some 73, .fieldAddr 2 (.tmp 7), none⟩,
 ⟨none, .store 10 (.tmp 73) (.tmp 72), none⟩])
 (.seq (.ops 18 0 [⟨some 74, .load (some 13) (.tmp 7), none⟩,
 ⟨none, .store 13 (.tmp 4) (.tmp 74), none⟩,
 ⟨some 5, .mov (.const (.int .i64 0)), none⟩])
 .ret))
 .skip)))
 (.seq (.goto 3)
 (.seq (.label 2)
 (.seq (.ops2 19 0 [] [⟨some 75, .mov (.tmp 6), none⟩,
 ⟨some 76, .mov (.tmp 6), none⟩,
 ⟨some 77, .call (.func 39) [(.tmp 76)], none⟩,
 ⟨some 78, .sliceS (.tmp 75) none (some (.tmp 77)), none⟩,
 ⟨some 79, .fieldAddr 0 (.tmp 7), none⟩,
 ⟨none, .store 1 (.tmp 79) (.const (.int .i64 3)), none⟩,
 ⟨some 80, .fieldAddr 1 (.tmp 7), none⟩,
 ⟨none, .store 1 (.tmp 80) (.tmp 78), none⟩] [])
 (.seq (.seq (.ops 20 0 [⟨some 82, .fieldAddr 1 (.tmp 7), none⟩,
 ⟨some 83, .load none (.tmp 82), none⟩,
 ⟨some 84, .call (.func 12) [(.tmp 83)], none⟩,
 ⟨some 81, .mov (.tmp 84), none⟩,
 ⟨some 85, .extract (.tmp 81) 0, none⟩,
 ⟨some 86, .extract (.tmp 81) 1, none⟩,
 ⟨some 10, .mov (.tmp 85), none⟩,
 ⟨some 11, .mov (.tmp 86), none⟩])
 (.seq (.ops 21 0 [⟨some 87, .mov (.tmp 11), none⟩,
 ⟨some 88, .mov (.tmp 87), none⟩,
 ⟨some 89, .mov (.tmp 10), (some ((some 88), true))⟩,
 ⟨some 90, .lenS (.tmp 89), (some ((some 88), true))⟩,
 ⟨some 91, .bin .leq (.tmp 90) (.const (.int .i64 64)), (some ((some 88), true))⟩,
 ⟨some 92, .pick (.tmp 88) (.tmp 91) (.const (.bool false)), none⟩])
 (.cond (.tmp 92)
 (.seq (.ops 22 0 [⟨some 93, .mov (.tmp 10), none⟩,
 ⟨some 94, .build [(.int .i64 0), (.bool false), (.int .u64 0), (.int .u64 0), (.int .u64 0), (.int .u64 0), (.int .i64 0), (.bool false), (.str []), (.int .i64 0)] [((0, 1), (.const (.int .i64 3))), ((8, 1), (.tmp 93))], none⟩,
 ⟨some 95, .fieldAddr 2 (.tmp 7), none⟩,
 ⟨none, .store 10 (.tmp 95) (.tmp 94), none⟩])
 (.seq (.ops 23 0 [⟨some 96, .load (some 13) (.tmp 7), none⟩,
 ⟨none, .store 13 (.tmp 4) (.tmp 96), none⟩,
 ⟨some 5, .mov (.const (.int .i64 0)), none⟩])
 .ret))
 .skip)))
 (.seq (.label 3)
 (.seq (.ops 24 0 [⟨some 97, .build [(.int .i64 0), (.str []), (.int .i64 0), (.bool false), (.int .u64 0), (.int .u64 0), (.int .u64 0), (.int .u64 0), (.int .i64 0), (.bool false), (.str []), (.int .i64 0), (.int .i64 0)] [], none⟩,
 ⟨none, .store 13 (.tmp 4) (.tmp 97), none⟩,
 ⟨some 5, .mov (.const (.int .i64 70)), none⟩])
 .ret)))))))))))))))))))))),
 98, [.cell 4 41, .tmp 5]⟩
theorem c18 : compF Tryd.prog Q Tryd.f18 = some p18 := by kernel_rfl
theorem ht18 : HasText Tryd.prog 18 Tryd.f18 := ⟨Tryd.func18, rfl, by decide⟩
theorem ht19 : HasText Tryd.prog 19 Tryd.f19 := ⟨Tryd.func19, rfl, by decide⟩
def p20_l0 : PC := (.seq (.seq (.ops 9 0 [⟨some 57, .mov (.tmp 1), none⟩,
 ⟨some 58, .mov (.tmp 0), none⟩,
 ⟨some 59, .lenS (.tmp 58), none⟩,
 ⟨some 60, .bin .lss (.tmp 57) (.tmp 59), none⟩,
 ⟨some 61, .mov (.tmp 60), none⟩,
 ⟨some 62, .mov (.tmp 0), (some ((some 61), true))⟩,
 ⟨some 63, .mov (.tmp 1), (some ((some 61), true))⟩,
 ⟨some 64, .indexS (.tmp 62) (.tmp 63), (some ((some 61), true))⟩,
 ⟨some 65, .bin .neq (.tmp 64) (.const (.int .u8 10)), (some ((some 61), true))⟩,
 ⟨some 66, .pick (.tmp 61) (.tmp 65) (.const (.bool false)), none⟩])
 (.cond (.tmp 66)
 .skip
 (.exit 3)))
 (.block 4
 (.ops 10 0 [⟨some 67, .mov (.tmp 1), none⟩,
 ⟨some 68, .bin .add (.tmp 67) (.const (.int .i64 1)), none⟩,
 ⟨some 1, .mov (.tmp 68), none⟩])))
def p20_l1 : PC := (.seq (.seq (.ops 3 0 [⟨some 15, .mov (.tmp 1), none⟩,
 ⟨some 16, .mov (.tmp 0), none⟩,
 ⟨some 17, .lenS (.tmp 16), none⟩,
 ⟨some 18, .bin .lss (.tmp 15) (.tmp 17), none⟩])
 (.cond (.tmp 18)
 .skip
 (.exit 0)))
 (.block 1
 (.seq (.ops 4 0 [⟨some 19, .mov (.tmp 0), none⟩,
 ⟨some 20, .mov (.tmp 1), none⟩,
 ⟨some 21, .indexS (.tmp 19) (.tmp 20), none⟩,
 ⟨some 5, .mov (.tmp 21), none⟩])
 (.block 2
 (.seq (.ops 6 0 [⟨some 24, .mov (.tmp 5), none⟩,
 ⟨some 25, .bin .eql (.tmp 24) (.const (.int .u8 32)), none⟩,
 ⟨some 26, .mov (.tmp 25), none⟩,
 ⟨some 27, .mov (.tmp 5), (some ((some 26), false))⟩,
 ⟨some 28, .bin .eql (.tmp 27) (.const (.int .u8 9)), (some ((some 26), false))⟩,
 ⟨some 29, .pick (.tmp 26) (.const (.bool true)) (.tmp 28), none⟩,
 ⟨some 30, .mov (.tmp 29), none⟩,
 ⟨some 31, .mov (.tmp 5), (some ((some 30), false))⟩,
 ⟨some 32, .bin .eql (.tmp 31) (.const (.int .u8 10)), (some ((some 30), false))⟩,
 ⟨some 33, .pick (.tmp 30) (.const (.bool true)) (.tmp 32), none⟩,
 ⟨some 34, .mov (.tmp 33), none⟩,
 ⟨some 35, .mov (.tmp 5), (some ((some 34), false))⟩,
 ⟨some 36, .bin .eql (.tmp 35) (.const (.int .u8 13)), (some ((some 34), false))⟩,
 ⟨some 37, .pick (.tmp 34) (.const (.bool true)) (.tmp 36), none⟩,
 ⟨some 23, .mov (.tmp 37), none⟩])
 (.cond (.tmp 23)
 (.ops 7 0 [⟨some 38, .mov (.tmp 1), none⟩,
 ⟨some 39, .bin .add (.tmp 38) (.const (.int .i64 1)), none⟩,
 ⟨some 1, .mov (.tmp 39), none⟩])
 (.seq (.ops 8 0 [⟨some 41, .mov (.tmp 5), none⟩,
 ⟨some 42, .bin .eql (.tmp 41) (.const (.int .u8 47)), none⟩,
 ⟨some 43, .mov (.tmp 42), none⟩,
 ⟨some 44, .mov (.tmp 1), (some ((some 43), true))⟩,
 ⟨some 45, .bin .add (.tmp 44) (.const (.int .i64 1)), (some ((some 43), true))⟩,
 ⟨some 46, .mov (.tmp 0), (some ((some 43), true))⟩,
 ⟨some 47, .lenS (.tmp 46), (some ((some 43), true))⟩,
 ⟨some 48, .bin .lss (.tmp 45) (.tmp 47), (some ((some 43), true))⟩,
 ⟨some 49, .pick (.tmp 43) (.tmp 48) (.const (.bool false)), none⟩,
 ⟨some 50, .mov (.tmp 49), none⟩,
 ⟨some 51, .mov (.tmp 0), (some ((some 50), true))⟩,
 ⟨some 52, .mov (.tmp 1), (some ((some 50), true))⟩,
 ⟨some 53, .bin .add (.tmp 52) (.const (.int .i64 1)), (some ((some 50), true))⟩,
 ⟨some 54, .indexS (.tmp 51) (.tmp 53), (some ((some 50), true))⟩,
 ⟨some 55, .bin .eql (.tmp 54) (.const (.int .u8 47)), (some ((some 50), true))⟩,
 ⟨some 56, .pick (.tmp 50) (.tmp 55) (.const (.bool false)), none⟩,
 ⟨some 40, .mov (.tmp 56), none⟩])
 (.cond (.tmp 40)
 (.block 3
 (.loop p20_l0))
 (.seq (.ops 5 0 [⟨some 22, .mov (.tmp 1), none⟩,
 ⟨some 4, .mov (.tmp 22), none⟩])
 .ret)))))))))
def p20 : PF := ⟨(.seq (.ops 0 0 [⟨some 4, .mov (.const (.int .i64 0)), none⟩])
 (.seq (.seq (.ops 1 0 [⟨some 6, .mov (.tmp 1), none⟩,
 ⟨some 7, .bin .lss (.tmp 6) (.const (.int .i64 0)), none⟩,
 ⟨some 8, .mov (.tmp 7), none⟩,
 ⟨some 9, .mov (.tmp 1), (some ((some 8), false))⟩,
 ⟨some 10, .mov (.tmp 0), (some ((some 8), false))⟩,
 ⟨some 11, .lenS (.tmp 10), (some ((some 8), false))⟩,
 ⟨some 12, .bin .gtr (.tmp 9) (.tmp 11), (some ((some 8), false))⟩,
 ⟨some 13, .pick (.tmp 8) (.const (.bool true)) (.tmp 12), none⟩])
 (.cond (.tmp 13)
 (.seq (.ops 2 0 [⟨some 14, .mov (.tmp 1), none⟩,
 ⟨some 4, .mov (.tmp 14), none⟩])
 .ret)
 .skip))
 (.seq (.block 0
 (.loop p20_l1))
 (.seq (.ops 11 0 [⟨some 69, .mov (.tmp 1), none⟩,
 ⟨some 4, .mov (.tmp 69), none⟩])
 .ret)))),
 70, [.tmp 4]⟩
theorem c20 : compF Tryd.prog Q Tryd.f20 = some p20 := by kernel_rfl
theorem ht20 : HasText Tryd.prog 20 Tryd.f20 := ⟨Tryd.func20, rfl, by decide⟩
def p21 : PF := ⟨(.seq (.ops 0 0 [⟨some 2, .mov (.const (.bool false)), none⟩])
 (.seq (.ops 1 0 [⟨some 3, .mov (.tmp 0), none⟩,
 ⟨some 4, .bin .neq (.tmp 3) (.const (.string ⟨#[]⟩)), none⟩,
 ⟨some 5, .mov (.tmp 4), none⟩,
 ⟨some 6, .mov (.tmp 0), (some ((some 5), true))⟩,
 ⟨some 7, .lenS (.tmp 6), (some ((some 5), true))⟩,
 ⟨some 8, .bin .leq (.tmp 7) (.const (.int .i64 32)), (some ((some 5), true))⟩,
 ⟨some 9, .pick (.tmp 5) (.tmp 8) (.const (.bool false)), none⟩,
 ⟨some 10, .mov (.tmp 9), none⟩,
 ⟨some 11, .mov (.tmp 0), (some ((some 10), true))⟩,
 ⟨some 12, .indexS (.tmp 11) (.const (.int .i64 0)), (some ((some 10), true))⟩,
 ⟨some 13, .call (.func 33) [(.tmp 12)], (some ((some 10), true))⟩,
 ⟨some 14, .pick (.tmp 10) (.tmp 13) (.const (.bool false)), none⟩,
 ⟨some 15, .mov (.tmp 14), none⟩,
 ⟨some 16, .mov (.tmp 0), (some ((some 15), true))⟩,
 ⟨some 17, .call (.func 36) [(.tmp 16)], (some ((some 15), true))⟩,
 ⟨some 18, .mov (.tmp 0), (some ((some 15), true))⟩,
 ⟨some 19, .lenS (.tmp 18), (some ((some 15), true))⟩,
 ⟨some 20, .bin .eql (.tmp 17) (.tmp 19), (some ((some 15), true))⟩,
 ⟨some 21, .pick (.tmp 15) (.tmp 20) (.const (.bool false)), none⟩,
 ⟨some 2, .mov (.tmp 21), none⟩])
 .ret)),
 22, [.tmp 2]⟩
theorem c21 : compF Tryd.prog Q Tryd.f21 = some p21 := by kernel_rfl
theorem ht21 : HasText Tryd.prog 21 Tryd.f21 := ⟨Tryd.func21, rfl, by decide⟩
def p22_l0 : PC := (.seq (.seq (.ops 4 0 [⟨some 17, .mov (.tmp 3), none⟩,
 ⟨some 18, .mov (.tmp 0), none⟩,
 ⟨some 19, .lenS (.tmp 18), none⟩,
 ⟨some 20, .bin .lss (.tmp 17) (.tmp 19), none⟩])
 (.cond (.tmp 20)
 .skip
 (.exit 0)))
 (.seq (.block 1
 (.seq (.ops 6 0 [⟨some 23, .mov (.tmp 0), none⟩,
 ⟨some 24, .mov (.tmp 3), none⟩,
 ⟨some 25, .indexS (.tmp 23) (.tmp 24), none⟩,
 ⟨some 26, .call (.func 40) [(.tmp 25)], none⟩,
 ⟨some 27, .un .not (.tmp 26), none⟩,
 ⟨some 28, .mov (.tmp 27), none⟩,
 ⟨some 29, .mov (.tmp 0), (some ((some 28), true))⟩,
 ⟨some 30, .mov (.tmp 3), (some ((some 28), true))⟩,
 ⟨some 31, .indexS (.tmp 29) (.tmp 30), (some ((some 28), true))⟩,
 ⟨some 32, .call (.func 42) [(.tmp 31)], (some ((some 28), true))⟩,
 ⟨some 33, .un .not (.tmp 32), (some ((some 28), true))⟩,
 ⟨some 34, .pick (.tmp 28) (.tmp 33) (.const (.bool false)), none⟩])
 (.cond (.tmp 34)
 (.seq (.ops 7 0 [⟨some 2, .mov (.const (.bool false)), none⟩])
 .ret)
 .skip)))
 (.ops 5 0 [⟨some 21, .mov (.tmp 3), none⟩,
 ⟨some 22, .bin .add (.tmp 21) (.const (.int .i64 1)), none⟩,
 ⟨some 3, .mov (.tmp 22), none⟩])))
def p22 : PF := ⟨(.seq (.ops 0 0 [⟨some 2, .mov (.const (.bool false)), none⟩])
 (.seq (.seq (.ops 1 0 [⟨some 4, .mov (.tmp 0), none⟩,
 ⟨some 5, .bin .eql (.tmp 4) (.const (.string ⟨#[]⟩)), none⟩,
 ⟨some 6, .mov (.tmp 5), none⟩,
 ⟨some 7, .mov (.tmp 0), (some ((some 6), false))⟩,
 ⟨some 8, .lenS (.tmp 7), (some ((some 6), false))⟩,
 ⟨some 9, .bin .gtr (.tmp 8) (.const (.int .i64 32)), (some ((some 6), false))⟩,
 ⟨some 10, .pick (.tmp 6) (.const (.bool true)) (.tmp 9), none⟩,
 ⟨some 11, .mov (.tmp 10), none⟩,
 ⟨some 12, .mov (.tmp 0), (some ((some 11), false))⟩,
 ⟨some 13, .indexS (.tmp 12) (.const (.int .i64 0)), (some ((some 11), false))⟩,
 ⟨some 14, .call (.func 40) [(.tmp 13)], (some ((some 11), false))⟩,
 ⟨some 15, .un .not (.tmp 14), (some ((some 11), false))⟩,
 ⟨some 16, .pick (.tmp 11) (.const (.bool true)) (.tmp 15), none⟩])
 (.cond (.tmp 16)
 (.seq (.ops 2 0 [⟨some 2, .mov (.const (.bool false)), none⟩])
 .ret)
 .skip))
 (.seq (.seq (.ops 3 0 [⟨some 3, .mov (.const (.int .i64 0)), none⟩])
 (.block 0
 (.loop p22_l0)))
 (.seq (.ops 8 0 [⟨some 2, .mov (.const (.bool true)), none⟩])
 .ret)))),
 35, [.tmp 2]⟩
theorem c22 : compF Tryd.prog Q Tryd.f22 = some p22 := by kernel_rfl
theorem ht22 : HasText Tryd.prog 22 Tryd.f22 := ⟨Tryd.func22, rfl, by decide⟩
def p23 : PF := ⟨(.seq (.ops 0 0 [⟨some 2, .mov (.const (.bool false)), none⟩])
 (.seq (.ops 1 0 [⟨some 3, .mov (.tmp 0), none⟩,
 ⟨some 4, .bin .neq (.tmp 3) (.const (.string ⟨#[]⟩)), none⟩,
 ⟨some 5, .mov (.tmp 4), none⟩,
 ⟨some 6, .mov (.tmp 0), (some ((some 5), true))⟩,
 ⟨some 7, .call (.func 35) [(.tmp 6)], (some ((some 5), true))⟩,
 ⟨some 8, .mov (.tmp 0), (some ((some 5), true))⟩,
 ⟨some 9, .bin .eql (.tmp 7) (.tmp 8), (some ((some 5), true))⟩,
 ⟨some 10, .pick (.tmp 5) (.tmp 9) (.const (.bool false)), none⟩,
 ⟨some 2, .mov (.tmp 10), none⟩])
 .ret)),
 11, [.tmp 2]⟩
theorem c23 : compF Tryd.prog Q Tryd.f23 = some p23 := by kernel_rfl
theorem ht23 : HasText Tryd.prog 23 Tryd.f23 := ⟨Tryd.func23, rfl, by decide⟩
def p24_l0 : PC := (.seq (.seq (.ops 3 0 [⟨some 6, .mov (.tmp 4), none⟩,
 ⟨some 7, .mov (.tmp 3), none⟩,
 ⟨some 8, .lenL (.tmp 7), none⟩,
 ⟨some 9, .bin .lss (.tmp 6) (.tmp 8), none⟩])
 (.cond (.tmp 9)
 .skip
 (.exit 0)))
 (.seq (.block 1
 (.seq (.ops 5 0 [⟨some 12, .mov (.tmp 3), none⟩,
 ⟨some 13, .mov (.tmp 4), none⟩,
 ⟨some 14, .atL 1 (.tmp 12) (.tmp 13), none⟩,
 ⟨some 15, .load none (.tmp 14), none⟩,
 ⟨some 16, .mov (.tmp 0), none⟩,
 ⟨some 17, .bin .eql (.tmp 15) (.tmp 16), none⟩])
 (.cond (.tmp 17)
 (.seq (.ops 6 0 [⟨some 2, .mov (.const (.bool true)), none⟩])
 .ret)
 .skip)))
 (.ops 4 0 [⟨some 10, .mov (.tmp 4), none⟩,
 ⟨some 11, .bin .add (.tmp 10) (.const (.int .i64 1)), none⟩,
 ⟨some 4, .mov (.tmp 11), none⟩])))
def p24 : PF := ⟨(.seq (.ops 0 0 [⟨some 2, .mov (.const (.bool false)), none⟩])
 (.seq (.ops 1 1 [⟨some 5, .bslice 9 1 17 (.str []) [(0, (.const (.string ⟨#[123]⟩))), (1, (.const (.string ⟨#[125]⟩))), (2, (.const (.string ⟨#[40]⟩))), (3, (.const (.string ⟨#[41]⟩))), (4, (.const (.string ⟨#[44]⟩))), (5, (.const (.string ⟨#[59]⟩))), (6, (.const (.string ⟨#[58]⟩))), (7, (.const (.string ⟨#[46]⟩))), (8, (.const (.string ⟨#[61]⟩))), (9, (.const (.string ⟨#[33, 61]⟩))), (10, (.const (.string ⟨#[60]⟩))), (11, (.const (.string ⟨#[60, 61]⟩))), (12, (.const (.string ⟨#[62]⟩))), (13, (.const (.string ⟨#[62, 61]⟩))), (14, (.const (.string ⟨#[43]⟩))), (15, (.const (.string ⟨#[45]⟩))), (16, (.const (.string ⟨#[42]⟩)))], none⟩,
 ⟨some 3, .mov (.tmp 5), none⟩])
 (.seq (.seq (.ops 2 0 [⟨some 4, .mov (.const (.int .i64 0)), none⟩])
 (.block 0
 (.loop p24_l0)))
 (.seq (.ops 7 0 [⟨some 2, .mov (.const (.bool false)), none⟩])
 .ret)))),
 18, [.tmp 2]⟩
theorem ht24 : HasText Tryd.prog 24 Tryd.f24 := ⟨Tryd.func24, rfl, by decide⟩
def p25_l0 : PC := (.seq (.ops 3 0 [⟨some 9, .bin .lss (.tmp 8) (.tmp 7), none⟩])
 (.seq (.cond (.tmp 9)
 .skip
 (.exit 0))
 (.seq (.block 1
 (.seq (.ops 4 1 [⟨some 10, .atL 13 (.tmp 6) (.tmp 8), none⟩,
 ⟨some 11, .load (some 13) (.tmp 10), none⟩,
 ⟨some 5, .alloc 41 (.agg [(.int .i64 0), (.str []), (.int .i64 0), (.bool false), (.int .u64 0), (.int .u64 0), (.int .u64 0), (.int .u64 0), (.int .i64 0), (.bool false), (.str []), (.int .i64 0), (.int .i64 0)]), none⟩,
 ⟨none, .store 13 (.tmp 5) (.tmp 11), none⟩])
 (.ops 5 2 [⟨some 12, .mov (.tmp 3), none⟩,
 ⟨some 13, .fieldAddr 1 (.tmp 5), none⟩,
 ⟨some 14, .load none (.tmp 13), none⟩,
 ⟨some 15, .bslice 9 1 1 (.str []) [(0, (.tmp 14))], none⟩,
 ⟨some 16, .append 9 1 16 (.tmp 12) (.tmp 15), none⟩,
 ⟨some 3, .mov (.tmp 16), none⟩])))
 (.ops 6 0 [⟨some 17, .bin .add (.tmp 8) (.const (.int .i64 1)), none⟩,
 ⟨some 8, .mov (.tmp 17), none⟩]))))
def p25 : PF := ⟨(.seq (.ops 0 0 [⟨some 2, .mov (.const (.string ⟨#[]⟩)), none⟩])
 (.seq (.ops 1 0 [⟨some 3, .mov (.const (.slice none 0 0)), none⟩])
 (.seq (.seq (.ops 2 0 [⟨some 6, .mov (.tmp 0), none⟩,
 ⟨some 7, .lenL (.tmp 6), none⟩,
 ⟨some 8, .mov (.const (.int .i64 0)), none⟩])
 (.block 0
 (.loop p25_l0)))
 (.seq (.ops 7 0 [⟨some 18, .mov (.tmp 3), none⟩,
 ⟨some 19, .call (.func 46) [(.tmp 18), (.const (.string ⟨#[32]⟩))], none⟩,
 ⟨some 2, .mov (.tmp 19), none⟩])
 .ret)))),
 20, [.tmp 2]⟩
theorem c25 : compF Tryd.prog Q Tryd.f25 = some p25 := by kernel_rfl
theorem ht25 : HasText Tryd.prog 25 Tryd.f25 := ⟨Tryd.func25, rfl, by decide⟩
def p26_l0 : PC := (.seq (.seq (.ops 3 0 [⟨some 5, .mov (.tmp 4), none⟩,
 ⟨some 6, .mov (.tmp 0), none⟩,
 ⟨some 7, .lenL (.tmp 6), none⟩,
 ⟨some 8, .bin .lss (.tmp 5) (.tmp 7), none⟩])
 (.cond (.tmp 8)
 .skip
 (.exit 0)))
 (.seq (.block 1
 (.seq (.seq (.ops 5 0 [⟨some 11, .mov (.tmp 4), none⟩,
 ⟨some 12, .bin .gtr (.tmp 11) (.const (.int .i64 0)), none⟩])
 (.cond (.tmp 12)
 (.ops 6 2 [⟨some 13, .mov (.tmp 3), none⟩,
 ⟨some 14, .bslice 5 1 1 (.int .u8 0) [(0, (.const (.int .u8 32)))], none⟩,
 ⟨some 15, .append 5 1 1 (.tmp 13) (.tmp 14), none⟩,
 ⟨some 3, .mov (.tmp 15), none⟩])
 .skip))
 (.ops 7 1 [⟨some 16, .mov (.tmp 3), none⟩,
 ⟨some 17, .mov (.tmp 0), none⟩,
 ⟨some 18, .mov (.tmp 4), none⟩,
 ⟨some 19, .atL 13 (.tmp 17) (.tmp 18), none⟩,
 ⟨some 20, .fieldAddr 1 (.tmp 19), none⟩,
 ⟨some 21, .load none (.tmp 20), none⟩,
 ⟨some 22, .append 5 1 1 (.tmp 16) (.tmp 21), none⟩,
 ⟨some 3, .mov (.tmp 22), none⟩])))
 (.ops 4 0 [⟨some 9, .mov (.tmp 4), none⟩,
 ⟨some 10, .bin .add (.tmp 9) (.const (.int .i64 1)), none⟩,
 ⟨some 4, .mov (.tmp 10), none⟩])))
def p26 : PF := ⟨(.seq (.ops 0 0 [⟨some 2, .mov (.const (.string ⟨#[]⟩)), none⟩])
 (.seq (.ops 1 0 [⟨some 3, .mov (.const (.slice none 0 0)), none⟩])
 (.seq (.seq (.ops 2 0 [⟨some 4, .mov (.const (.int .i64 0)), none⟩])
 (.block 0
 (.loop p26_l0)))
 (.seq (.ops 8 0 [⟨some 23, .mov (.tmp 3), none⟩,
 ⟨some 24, .toStr (.tmp 23), none⟩,
 ⟨some 2, .mov (.tmp 24), none⟩])
 .ret)))),
 25, [.tmp 2]⟩
theorem c26 : compF Tryd.prog Q Tryd.f26 = some p26 := by kernel_rfl
theorem ht26 : HasText Tryd.prog 26 Tryd.f26 := ⟨Tryd.func26, rfl, by decide⟩
theorem ht27 : HasText Tryd.prog 27 Tryd.f27 := ⟨Tryd.func27, rfl, by decide⟩
theorem ht28 : HasText Tryd.prog 28 Tryd.f28 := ⟨Tryd.func28, rfl, by decide⟩
theorem ht32 : HasText Tryd.prog 32 Tryd.f32 := ⟨Tryd.func32, rfl, by decide⟩
def p33 : PF := ⟨(.seq (.ops 0 0 [⟨some 2, .mov (.const (.bool false)), none⟩])
 (.seq (.ops 1 0 [⟨some 3, .mov (.tmp 0), none⟩,
 ⟨some 4, .bin .eql (.tmp 3) (.const (.int .u8 95)), none⟩,
 ⟨some 5, .mov (.tmp 4), none⟩,
 ⟨some 6, .mov (.tmp 0), (some ((some 5), false))⟩,
 ⟨some 7, .bin .geq (.tmp 6) (.const (.int .u8 97)), (some ((some 5), false))⟩,
 ⟨some 8, .mov (.tmp 7), (some ((some 5), false))⟩,
 ⟨some 9, .mov (.tmp 0), (some ((some 8), true))⟩,
 ⟨some 10, .bin .leq (.tmp 9) (.const (.int .u8 122)), (some ((some 8), true))⟩,
 ⟨some 11, .pick (.tmp 8) (.tmp 10) (.const (.bool false)), (some ((some 5), false))⟩,
 ⟨some 12, .pick (.tmp 5) (.const (.bool true)) (.tmp 11), none⟩,
 ⟨some 13, .mov (.tmp 12), none⟩,
 ⟨some 14, .mov (.tmp 0), (some ((some 13), false))⟩,
 ⟨some 15, .bin .geq (.tmp 14) (.const (.int .u8 65)), (some ((some 13), false))⟩,
 ⟨some 16, .mov (.tmp 15), (some ((some 13), false))⟩,
 ⟨some 17, .mov (.tmp 0), (some ((some 16), true))⟩,
 ⟨some 18, .bin .leq (.tmp 17) (.const (.int .u8 90)), (some ((some 16), true))⟩,
 ⟨some 19, .pick (.tmp 16) (.tmp 18) (.const (.bool false)), (some ((some 13), false))⟩,
 ⟨some 20, .pick (.tmp 13) (.const (.bool true)) (.tmp 19), none⟩,
 ⟨some 2, .mov (.tmp 20), none⟩])
 .ret)),
 21, [.tmp 2]⟩
theorem c33 : compF Tryd.prog Q Tryd.f33 = some p33 := by kernel_rfl
theorem ht33 : HasText Tryd.prog 33 Tryd.f33 := ⟨Tryd.func33, rfl, by decide⟩
def p34 : PF := ⟨(.seq (.ops 0 0 [⟨some 2, .mov (.const (.bool false)), none⟩])
 (.seq (.ops 1 0 [⟨some 3, .mov (.tmp 0), none⟩,
 ⟨some 4, .bin .geq (.tmp 3) (.const (.int .u8 48)), none⟩,
 ⟨some 5, .mov (.tmp 4), none⟩,
 ⟨some 6, .mov (.tmp 0), (some ((some 5), true))⟩,
 ⟨some 7, .bin .leq (.tmp 6) (.const (.int .u8 57)), (some ((some 5), true))⟩,
 ⟨some 8, .pick (.tmp 5) (.tmp 7) (.const (.bool false)), none⟩,
 ⟨some 2, .mov (.tmp 8), none⟩])
 .ret)),
 9, [.tmp 2]⟩
theorem c34 : compF Tryd.prog Q Tryd.f34 = some p34 := by kernel_rfl
theorem ht34 : HasText Tryd.prog 34 Tryd.f34 := ⟨Tryd.func34, rfl, by decide⟩
def p35_l0 : PC := (.seq (.ops 2 0 [⟨some 8, .bin .lss (.tmp 7) (.tmp 6), none⟩])
 (.seq (.cond (.tmp 8)
 .skip
 (.exit 0))
 (.seq (.block 1
 (.seq (.ops 3 0 [⟨some 9, .atL 1 (.tmp 5) (.tmp 7), none⟩,
 ⟨some 10, .load none (.tmp 9), none⟩,
 ⟨some 4, .mov (.tmp 10), none⟩])
 (.seq (.ops 4 0 [⟨some 11, .mov (.tmp 0), none⟩,
 ⟨some 12, .mov (.tmp 4), none⟩,
 ⟨some 13, .call (.func 17) [(.tmp 11), (.tmp 12)], none⟩])
 (.cond (.tmp 13)
 (.seq (.ops 5 0 [⟨some 14, .mov (.tmp 4), none⟩,
 ⟨some 2, .mov (.tmp 14), none⟩])
 .ret)
 .skip))))
 (.ops 6 0 [⟨some 15, .bin .add (.tmp 7) (.const (.int .i64 1)), none⟩,
 ⟨some 7, .mov (.tmp 15), none⟩]))))
def p35 : PF := ⟨(.seq (.ops 0 0 [⟨some 2, .mov (.const (.string ⟨#[]⟩)), none⟩])
 (.seq (.seq (.ops 1 1 [⟨some 5, .bslice 9 1 3 (.str []) [(0, (.const (.string ⟨#[33, 61]⟩))), (1, (.const (.string ⟨#[60, 61]⟩))), (2, (.const (.string ⟨#[62, 61]⟩)))], none⟩,
 ⟨some 6, .lenL (.tmp 5), none⟩,
 ⟨some 7, .mov (.const (.int .i64 0)), none⟩])
 (.block 0
 (.loop p35_l0)))
 (.seq (.seq (.ops 7 0 [⟨some 16, .mov (.tmp 0), none⟩,
 ⟨some 17, .bin .neq (.tmp 16) (.const (.string ⟨#[]⟩)), none⟩,
 ⟨some 18, .mov (.tmp 17), none⟩,
 ⟨some 19, .mov (.tmp 0), (some ((some 18), true))⟩,
 ⟨some 20, .indexS (.tmp 19) (.const (.int .i64 0)), (some ((some 18), true))⟩,
 ⟨some 21, .call (.func 27) [(.const (.string ⟨#[123, 125, 40, 41, 44, 59, 58, 46, 61, 60, 62, 43, 45, 42]⟩)), (.tmp 20)], (some ((some 18), true))⟩,
 ⟨some 22, .bin .geq (.tmp 21) (.const (.int .i64 0)), (some ((some 18), true))⟩,
 ⟨some 23, .pick (.tmp 18) (.tmp 22) (.const (.bool false)), none⟩])
 (.cond (.tmp 23)
 (.seq (.ops 8 0 [⟨some 24, .mov (.tmp 0), none⟩,
 ⟨some 25, .sliceS (.tmp 24) none (some (.const (.int .i64 1))), none⟩,
 ⟨some 2, .mov (.tmp 25), none⟩])
 .ret)
 .skip))
 (.seq (.ops 9 0 [⟨some 2, .mov (.const (.string ⟨#[]⟩)), none⟩])
 .ret)))),
 26, [.tmp 2]⟩
theorem c35 : compF Tryd.prog Q Tryd.f35 = some p35 := by kernel_rfl
theorem ht35 : HasText Tryd.prog 35 Tryd.f35 := ⟨Tryd.func35, rfl, by decide⟩
def p36_l0 : PC := (.seq (.seq (.ops 2 0 [⟨some 4, .mov (.tmp 3), none⟩,
 ⟨some 5, .mov (.tmp 0), none⟩,
 ⟨some 6, .lenS (.tmp 5), none⟩,
 ⟨some 7, .bin .lss (.tmp 4) (.tmp 6), none⟩,
 ⟨some 8, .mov (.tmp 7), none⟩,
 ⟨some 9, .mov (.tmp 0), (some ((some 8), true))⟩,
 ⟨some 10, .mov (.tmp 3), (some ((some 8), true))⟩,
 ⟨some 11, .indexS (.tmp 9) (.tmp 10), (some ((some 8), true))⟩,
 ⟨some 12, .call (.func 33) [(.tmp 11)], (some ((some 8), true))⟩,
 ⟨some 13, .mov (.tmp 12), (some ((some 8), true))⟩,
 ⟨some 14, .mov (.tmp 0), (some ((some 13), false))⟩,
 ⟨some 15, .mov (.tmp 3), (some ((some 13), false))⟩,
 ⟨some 16, .indexS (.tmp 14) (.tmp 15), (some ((some 13), false))⟩,
 ⟨some 17, .call (.func 34) [(.tmp 16)], (some ((some 13), false))⟩,
 ⟨some 18, .pick (.tmp 13) (.const (.bool true)) (.tmp 17), (some ((some 8), true))⟩,
 ⟨some 19, .pick (.tmp 8) (.tmp 18) (.const (.bool false)), none⟩])
 (.cond (.tmp 19)
 .skip
 (.exit 0)))
 (.block 1
 (.ops 3 0 [⟨some 20, .mov (.tmp 3), none⟩,
 ⟨some 21, .bin .add (.tmp 20) (.const (.int .i64 1)), none⟩,
 ⟨some 3, .mov (.tmp 21), none⟩])))
def p36 : PF := ⟨(.seq (.ops 0 0 [⟨some 2, .mov (.const (.int .i64 0)), none⟩])
 (.seq (.ops 1 0 [⟨some 3, .mov (.const (.int .i64 0)), none⟩])
 (.seq (.block 0
 (.loop p36_l0))
 (.seq (.ops 4 0 [⟨some 22, .mov (.tmp 3), none⟩,
 ⟨some 2, .mov (.tmp 22), none⟩])
 .ret)))),
 23, [.tmp 2]⟩
theorem c36 : compF Tryd.prog Q Tryd.f36 = some p36 := by kernel_rfl
theorem ht36 : HasText Tryd.prog 36 Tryd.f36 := ⟨Tryd.func36, rfl, by decide⟩
def p37 : PF := ⟨(.seq (.ops 0 0 [⟨some 2, .mov (.const (.int .i64 0)), none⟩])
 (.scope
 (.seq (.ops 1 0 [⟨some 3, .mov (.const (.int .i64 0)), none⟩,
 ⟨some 4, .mov (.const (.int .i64 0)), none⟩])
 (.seq (.ops 2 0 [⟨some 5, .mov (.const (.bool false)), none⟩])
 (.seq (.ops 3 0 [⟨some 7, .mov (.tmp 0), none⟩,
 ⟨some 8, .lenS (.tmp 7), none⟩,
 ⟨some 9, .bin .gtr (.tmp 8) (.const (.int .i64 0)), none⟩,
 ⟨some 10, .mov (.tmp 9), none⟩,
 ⟨some 11, .mov (.tmp 0), (some ((some 10), true))⟩,
 ⟨some 12, .indexS (.tmp 11) (.const (.int .i64 0)), (some ((some 10), true))⟩,
 ⟨some 13, .bin .eql (.tmp 12) (.const (.int .u8 45)), (some ((some 10), true))⟩,
 ⟨some 14, .pick (.tmp 10) (.tmp 13) (.const (.bool false)), none⟩,
 ⟨some 6, .mov (.tmp 14), none⟩])
 (.seq (.seq (.ops 4 0 [⟨some 15, .mov (.tmp 6), none⟩])
 (.cond (.tmp 15)
 (.ops 5 0 [⟨some 4, .mov (.const (.int .i64 1)), none⟩])
 .skip))
 (.seq (.seq (.ops 6 0 [⟨some 16, .mov (.tmp 0), none⟩,
 ⟨some 17, .mov (.tmp 4), none⟩,
 ⟨some 18, .call (.func 49) [(.tmp 16), (.tmp 17)], none⟩,
 ⟨some 19, .un .not (.tmp 18), none⟩])
 (.cond (.tmp 19)
 (.goto 0)
 .skip))
 (.seq (.seq (.ops 7 0 [⟨some 20, .mov (.tmp 0), none⟩,
 ⟨some 21, .mov (.tmp 4), none⟩,
 ⟨some 22, .indexS (.tmp 20) (.tmp 21), none⟩,
 ⟨some 23, .bin .eql (.tmp 22) (.const (.int .u8 48)), none⟩])
 (.cond (.tmp 23)
 (.seq (.ops 8 0 [⟨some 24, .mov (.tmp 4), none⟩,
 ⟨some 25, .bin .add (.tmp 24) (.const (.int .i64 1)), none⟩,
 ⟨some 4, .mov (.tmp 25), none⟩])
 (.goto 1))
 .skip))
 (.seq (.label 2)
 (.seq (.ops 9 0 [⟨some 5, .mov (.const (.bool true)), none⟩])
 (.seq (.ops 10 0 [⟨some 26, .mov (.tmp 4), none⟩,
 ⟨some 27, .bin .add (.tmp 26) (.const (.int .i64 1)), none⟩,
 ⟨some 4, .mov (.tmp 27), none⟩])
 (.seq (.seq (.ops 11 0 [⟨some 28, .mov (.tmp 0), none⟩,
 ⟨some 29, .mov (.tmp 4), none⟩,
 ⟨some 30, .call (.func 49) [(.tmp 28), (.tmp 29)], none⟩])
 (.cond (.tmp 30)
 (.goto 2)
 .skip))
 (.seq (.label 1)
 (.seq (.seq (.ops 12 0 [⟨some 31, .mov (.tmp 5), none⟩,
 ⟨some 32, .mov (.tmp 31), none⟩,
 ⟨some 33, .mov (.tmp 6), (some ((some 32), false))⟩,
 ⟨some 34, .un .not (.tmp 33), (some ((some 32), false))⟩,
 ⟨some 35, .pick (.tmp 32) (.const (.bool true)) (.tmp 34), none⟩])
 (.cond (.tmp 35)
 (.ops 13 0 [⟨some 36, .mov (.tmp 4), none⟩,
 ⟨some 3, .mov (.tmp 36), none⟩])
 .skip))
 (.seq (.seq (.ops 14 0 [⟨some 37, .mov (.tmp 4), none⟩,
 ⟨some 38, .mov (.tmp 0), none⟩,
 ⟨some 39, .lenS (.tmp 38), none⟩,
 ⟨some 40, .bin .geq (.tmp 37) (.tmp 39), none⟩,
 ⟨some 41, .mov (.tmp 40), none⟩,
 ⟨some 42, .mov (.tmp 0), (some ((some 41), false))⟩,
 ⟨some 43, .mov (.tmp 4), (some ((some 41), false))⟩,
 ⟨some 44, .indexS (.tmp 42) (.tmp 43), (some ((some 41), false))⟩,
 ⟨some 45, .bin .neq (.tmp 44) (.const (.int .u8 46)), (some ((some 41), false))⟩,
 ⟨some 46, .pick (.tmp 41) (.const (.bool true)) (.tmp 45), none⟩])
 (.cond (.tmp 46)
 (.goto 0)
 .skip))
 (.seq (.ops 15 0 [⟨some 47, .mov (.tmp 4), none⟩,
 ⟨some 48, .bin .add (.tmp 47) (.const (.int .i64 1)), none⟩,
 ⟨some 4, .mov (.tmp 48), none⟩])
 (.seq (.label 3)
 (.seq (.seq (.ops 16 0 [⟨some 49, .mov (.tmp 0), none⟩,
 ⟨some 50, .mov (.tmp 4), none⟩,
 ⟨some 51, .call (.func 49) [(.tmp 49), (.tmp 50)], none⟩,
 ⟨some 52, .un .not (.tmp 51), none⟩])
 (.cond (.tmp 52)
 (.goto 0)
 .skip))
 (.seq (.ops 17 0 [⟨some 53, .mov (.tmp 5), none⟩,
 ⟨some 54, .mov (.tmp 53), none⟩,
 ⟨some 55, .mov (.tmp 0), (some ((some 54), false))⟩,
 ⟨some 56, .mov (.tmp 4), (some ((some 54), false))⟩,
 ⟨some 57, .indexS (.tmp 55) (.tmp 56), (some ((some 54), false))⟩,
 ⟨some 58, .bin .neq (.tmp 57) (.const (.int .u8 48)), (some ((some 54), false))⟩,
 ⟨some 59, .pick (.tmp 54) (.const (.bool true)) (.tmp 58), none⟩,
 ⟨some 5, .mov (.tmp 59), none⟩])
 (.seq (.ops 18 0 [⟨some 60, .mov (.tmp 4), none⟩,
 ⟨some 61, .bin .add (.tmp 60) (.const (.int .i64 1)), none⟩,
 ⟨some 4, .mov (.tmp 61), none⟩])
 (.seq (.seq (.ops 19 0 [⟨some 62, .mov (.tmp 5), none⟩,
 ⟨some 63, .mov (.tmp 62), none⟩,
 ⟨some 64, .mov (.tmp 6), (some ((some 63), false))⟩,
 ⟨some 65, .un .not (.tmp 64), (some ((some 63), false))⟩,
 ⟨some 66, .pick (.tmp 63) (.const (.bool true)) (.tmp 65), none⟩])
 (.cond (.tmp 66)
 (.ops 20 0 [⟨some 67, .mov (.tmp 4), none⟩,
 ⟨some 3, .mov (.tmp 67), none⟩])
 .skip))
 (.seq (.goto 3)
 (.seq (.label 0)
 (.seq (.ops 21 0 [⟨some 68, .mov (.tmp 3), none⟩,
 ⟨some 2, .mov (.tmp 68), none⟩])
 .ret)))))))))))))))))))))))),
 69, [.tmp 2]⟩
theorem c37 : compF Tryd.prog Q Tryd.f37 = some p37 := by kernel_rfl
theorem ht37 : HasText Tryd.prog 37 Tryd.f37 := ⟨Tryd.func37, rfl, by decide⟩
def p38 : PF := ⟨(.seq (.ops 0 1 [⟨some 2, .alloc 37 (.agg [(.bool false), (.int .u64 0), (.int .u64 0), (.int .u64 0), (.int .u64 0), (.int .i64 0)]), none⟩,
 ⟨some 3, .mov (.const (.int .i64 0)), none⟩])
 (.seq (.seq (.ops 1 0 [⟨some 12, .mov (.tmp 0), none⟩,
 ⟨some 13, .bin .eql (.tmp 12) (.const (.string ⟨#[]⟩)), none⟩,
 ⟨some 14, .mov (.tmp 13), none⟩,
 ⟨some 15, .mov (.tmp 0), (some ((some 14), false))⟩,
 ⟨some 16, .call (.func 37) [(.tmp 15)], (some ((some 14), false))⟩,
 ⟨some 17, .mov (.tmp 0), (some ((some 14), false))⟩,
 ⟨some 18, .lenS (.tmp 17), (some ((some 14), false))⟩,
 ⟨some 19, .bin .neq (.tmp 16) (.tmp 18), (some ((some 14), false))⟩,
 ⟨some 20, .pick (.tmp 14) (.const (.bool true)) (.tmp 19), none⟩])
 (.cond (.tmp 20)
 (.seq (.ops 2 0 [⟨some 21, .build [(.bool false), (.int .u64 0), (.int .u64 0), (.int .u64 0), (.int .u64 0), (.int .i64 0)] [], none⟩,
 ⟨none, .store 6 (.tmp 2) (.tmp 21), none⟩,
 ⟨some 3, .mov (.const (.int .i64 30)), none⟩])
 .ret)
 .skip))
 (.seq (.ops 3 0 [⟨some 23, .mov (.tmp 0), none⟩,
 ⟨some 24, .call (.func 50) [(.tmp 23), (.const (.string ⟨#[45]⟩))], none⟩,
 ⟨some 22, .mov (.tmp 24), none⟩,
 ⟨some 25, .extract (.tmp 22) 0, none⟩,
 ⟨some 26, .extract (.tmp 22) 1, none⟩,
 ⟨some 4, .mov (.tmp 25), none⟩,
 ⟨some 5, .mov (.tmp 26), none⟩])
 (.seq (.ops 4 0 [⟨some 28, .mov (.tmp 4), none⟩,
 ⟨some 29, .call (.func 51) [(.tmp 28), (.const (.string ⟨#[46]⟩))], none⟩,
 ⟨some 27, .mov (.tmp 29), none⟩,
 ⟨some 30, .extract (.tmp 27) 0, none⟩,
 ⟨some 31, .extract (.tmp 27) 1, none⟩,
 ⟨some 32, .extract (.tmp 27) 2, none⟩,
 ⟨some 6, .mov (.tmp 30), none⟩,
 ⟨some 7, .mov (.tmp 31), none⟩,
 ⟨some 8, .mov (.tmp 32), none⟩])
 (.seq (.seq (.ops 5 0 [⟨some 33, .mov (.tmp 7), none⟩,
 ⟨some 34, .lenS (.tmp 33), none⟩,
 ⟨some 35, .bin .gtr (.tmp 34) (.const (.int .i64 18)), none⟩])
 (.cond (.tmp 35)
 (.seq (.ops 6 0 [⟨some 36, .build [(.bool false), (.int .u64 0), (.int .u64 0), (.int .u64 0), (.int .u64 0), (.int .i64 0)] [], none⟩,
 ⟨none, .store 6 (.tmp 2) (.tmp 36), none⟩,
 ⟨some 3, .mov (.const (.int .i64 31)), none⟩])
 .ret)
 .skip))
 (.seq (.ops 7 0 [⟨some 37, .mov (.tmp 6), none⟩,
 ⟨some 38, .mov (.tmp 7), none⟩,
 ⟨some 39, .bin .add (.tmp 37) (.tmp 38), none⟩,
 ⟨some 40, .call (.func 52) [(.tmp 39), (.const (.string ⟨#[48]⟩))], none⟩,
 ⟨some 9, .mov (.tmp 40), none⟩])
 (.seq (.seq (.ops 8 0 [⟨some 41, .mov (.tmp 9), none⟩,
 ⟨some 42, .bin .eql (.tmp 41) (.const (.string ⟨#[]⟩)), none⟩])
 (.cond (.tmp 42)
 (.ops 9 0 [⟨some 9, .mov (.const (.string ⟨#[48]⟩)), none⟩])
 .skip))
 (.seq (.ops 10 1 [⟨some 44, .mov (.tmp 9), none⟩,
 ⟨some 45, .call (.func 53) [(.tmp 44)], none⟩,
 ⟨some 43, .mov (.tmp 45), none⟩,
 ⟨some 46, .extract (.tmp 43) 0, none⟩,
 ⟨some 47, .extract (.tmp 43) 1, none⟩,
 ⟨some 10, .alloc 35 (.agg [(.int .u64 0), (.int .u64 0), (.int .u64 0), (.int .u64 0)]), none⟩,
 ⟨none, .store 4 (.tmp 10) (.tmp 46), none⟩,
 ⟨some 11, .mov (.tmp 47), none⟩])
 (.seq (.seq (.ops 11 0 [⟨some 48, .mov (.tmp 11), none⟩,
 ⟨some 49, .bin .neq (.tmp 48) (.const (.int .i64 0)), none⟩])
 (.cond (.tmp 49)
 (.seq (.ops 12 0 [⟨some 50, .build [(.bool false), (.int .u64 0), (.int .u64 0), (.int .u64 0), (.int .u64 0), (.int .i64 0)] [], none⟩,
 ⟨some 51, .mov (.tmp 11), none⟩,
 ⟨none, .store 6 (.tmp 2) (.tmp 50), none⟩,
 ⟨some 3, .mov (.tmp 51), none⟩])
 .ret)
 .skip))
 (.seq (.ops 13 0 [⟨some 52, .mov (.tmp 5), none⟩,
 ⟨some 53, .load (some 4) (.tmp 10), none⟩,
 ⟨some 54, .mov (.tmp 7), none⟩,
 ⟨some 55, .lenS (.tmp 54), none⟩,
 ⟨some 56, .build [(.bool false), (.int .u64 0), (.int .u64 0), (.int .u64 0), (.int .u64 0), (.int .i64 0)] [((0, 1), (.tmp 52)), ((1, 4), (.tmp 53)), ((5, 1), (.tmp 55))], none⟩,
 ⟨none, .store 6 (.tmp 2) (.tmp 56), none⟩,
 ⟨some 3, .mov (.const (.int .i64 0)), none⟩])
 .ret)))))))))),
 57, [.cell 2 37, .tmp 3]⟩
theorem c38 : compF Tryd.prog Q Tryd.f38 = some p38 := by kernel_rfl
theorem ht38 : HasText Tryd.prog 38 Tryd.f38 := ⟨Tryd.func38, rfl, by decide⟩
def p39 : PF := ⟨(.seq (.ops 0 0 [⟨some 2, .mov (.const (.int .i64 0)), none⟩])
 (.scope
 (.seq (.ops 1 0 [⟨some 3, .mov (.const (.int .i64 1)), none⟩])
 (.seq (.label 0)
 (.seq (.seq (.ops 2 0 [⟨some 4, .mov (.tmp 3), none⟩,
 ⟨some 5, .mov (.tmp 0), none⟩,
 ⟨some 6, .lenS (.tmp 5), none⟩,
 ⟨some 7, .bin .geq (.tmp 4) (.tmp 6), none⟩])
 (.cond (.tmp 7)
 (.seq (.ops 3 0 [⟨some 2, .mov (.const (.int .i64 0)), none⟩])
 .ret)
 .skip))
 (.seq (.seq (.ops 4 0 [⟨some 8, .mov (.tmp 0), none⟩,
 ⟨some 9, .mov (.tmp 3), none⟩,
 ⟨some 10, .indexS (.tmp 8) (.tmp 9), none⟩])
 (.block 0
 (.seq (.ops 5 0 [⟨some 12, .bin .eql (.tmp 10) (.const (.int .u8 34)), none⟩,
 ⟨some 11, .mov (.tmp 12), none⟩])
 (.cond (.tmp 11)
 (.seq (.ops 6 0 [⟨some 13, .mov (.tmp 3), none⟩,
 ⟨some 14, .bin .add (.tmp 13) (.const (.int .i64 1)), none⟩,
 ⟨some 2, .mov (.tmp 14), none⟩])
 .ret)
 (.seq (.ops 7 0 [⟨some 16, .bin .eql (.tmp 10) (.const (.int .u8 92)), none⟩,
 ⟨some 15, .mov (.tmp 16), none⟩])
 (.cond (.tmp 15)
 (.ops 8 0 [⟨some 17, .mov (.tmp 3), none⟩,
 ⟨some 18, .bin .add (.tmp 17) (.const (.int .i64 1)), none⟩,
 ⟨some 3, .mov (.tmp 18), none⟩])
 .skip))))))
 (.seq (.ops 9 0 [⟨some 19, .mov (.tmp 3), none⟩,
 ⟨some 20, .bin .add (.tmp 19) (.const (.int .i64 1)), none⟩,
 ⟨some 3, .mov (.tmp 20), none⟩])
 (.goto 0)))))))),
 21, [.tmp 2]⟩
theorem c39 : compF Tryd.prog Q Tryd.f39 = some p39 := by kernel_rfl
theorem ht39 : HasText Tryd.prog 39 Tryd.f39 := ⟨Tryd.func39, rfl, by decide⟩
theorem ht40 : HasText Tryd.prog 40 Tryd.f40 := ⟨Tryd.func40, rfl, by decide⟩
theorem ht41 : HasText Tryd.prog 41 Tryd.f41 := ⟨Tryd.func41, rfl, by decide⟩
theorem ht42 : HasText Tryd.prog 42 Tryd.f42 := ⟨Tryd.func42, rfl, by decide⟩
theorem ht43 : HasText Tryd.prog 43 Tryd.f43 := ⟨Tryd.func43, rfl, by decide⟩
theorem ht44 : HasText Tryd.prog 44 Tryd.f44 := ⟨Tryd.func44, rfl, by decide⟩
theorem ht45 : HasText Tryd.prog 45 Tryd.f45 := ⟨Tryd.func45, rfl, by decide⟩
theorem ht47 : HasText Tryd.prog 47 Tryd.f47 := ⟨Tryd.func47, rfl, by decide⟩
def p49 : PF := ⟨(.seq (.ops 0 0 [⟨some 4, .mov (.const (.bool false)), none⟩])
 (.seq (.ops 1 0 [⟨some 5, .mov (.tmp 1), none⟩,
 ⟨some 6, .mov (.tmp 0), none⟩,
 ⟨some 7, .lenS (.tmp 6), none⟩,
 ⟨some 8, .bin .lss (.tmp 5) (.tmp 7), none⟩,
 ⟨some 9, .mov (.tmp 8), none⟩,
 ⟨some 10, .mov (.tmp 0), (some ((some 9), true))⟩,
 ⟨some 11, .mov (.tmp 1), (some ((some 9), true))⟩,
 ⟨some 12, .indexS (.tmp 10) (.tmp 11), (some ((some 9), true))⟩,
 ⟨some 13, .bin .geq (.tmp 12) (.const (.int .u8 48)), (some ((some 9), true))⟩,
 ⟨some 14, .pick (.tmp 9) (.tmp 13) (.const (.bool false)), none⟩,
 ⟨some 15, .mov (.tmp 14), none⟩,
 ⟨some 16, .mov (.tmp 0), (some ((some 15), true))⟩,
 ⟨some 17, .mov (.tmp 1), (some ((some 15), true))⟩,
 ⟨some 18, .indexS (.tmp 16) (.tmp 17), (some ((some 15), true))⟩,
 ⟨some 19, .bin .leq (.tmp 18) (.const (.int .u8 57)), (some ((some 15), true))⟩,
 ⟨some 20, .pick (.tmp 15) (.tmp 19) (.const (.bool false)), none⟩,
 ⟨some 4, .mov (.tmp 20), none⟩])
 .ret)),
 21, [.tmp 4]⟩
theorem c49 : compF Tryd.prog Q Tryd.f49 = some p49 := by kernel_rfl
theorem ht49 : HasText Tryd.prog 49 Tryd.f49 := ⟨Tryd.func49, rfl, by decide⟩
theorem ht50 : HasText Tryd.prog 50 Tryd.f50 := ⟨Tryd.func50, rfl, by decide⟩
def p51 : PF := ⟨(.seq (.ops 0 0 [⟨some 4, .mov (.const (.string ⟨#[]⟩)), none⟩,
 ⟨some 5, .mov (.const (.string ⟨#[]⟩)), none⟩,
 ⟨some 6, .mov (.const (.bool false)), none⟩])
 (.seq (.ops 1 0 [⟨some 7, .mov (.tmp 0), none⟩,
 ⟨some 8, .mov (.tmp 1), none⟩,
 ⟨some 9, .call (.func 61) [(.tmp 7), (.tmp 8)], none⟩,
 ⟨some 10, .extract (.tmp 9) 0, none⟩,
 ⟨some 11, .extract (.tmp 9) 1, none⟩,
 ⟨some 12, .extract (.tmp 9) 2, none⟩,
 ⟨some 4, .mov (.tmp 10), none⟩,
 ⟨some 5, .mov (.tmp 11), none⟩,
 ⟨some 6, .mov (.tmp 12), none⟩])
 .ret)),
 13, [.tmp 4, .tmp 5, .tmp 6]⟩
theorem c51 : compF Tryd.prog Q Tryd.f51 = some p51 := by kernel_rfl
theorem ht51 : HasText Tryd.prog 51 Tryd.f51 := ⟨Tryd.func51, rfl, by decide⟩
theorem ht52 : HasText Tryd.prog 52 Tryd.f52 := ⟨Tryd.func52, rfl, by decide⟩
def p53_l0 : PC := (.seq (.ops 11 0 [⟨some 45, .bin .lss (.tmp 44) (.tmp 43), none⟩])
 (.seq (.cond (.tmp 45)
 .skip
 (.exit 2))
 (.seq (.block 3
 (.seq (.ops 12 0 [⟨some 46, .atL 1 (.tmp 42) (.tmp 44), none⟩,
 ⟨some 47, .load none (.tmp 46), none⟩,
 ⟨some 8, .mov (.tmp 47), none⟩])
 (.seq (.ops2 13 2 [] [⟨some 49, .load (some 4) (.tmp 6), none⟩,
 ⟨some 50, .call (.func 67) [(.const (.int .u64 10))], none⟩,
 ⟨some 51, .call (.func 66) [(.tmp 49), (.tmp 50)], none⟩,
 ⟨some 48, .mov (.tmp 51), none⟩,
 ⟨some 52, .extract (.tmp 48) 0, none⟩,
 ⟨some 53, .extract (.tmp 48) 1, none⟩,
 ⟨some 9, .alloc 35 (.agg [(.int .u64 0), (.int .u64 0), (.int .u64 0), (.int .u64 0)]), none⟩,
 ⟨some 10, .alloc 35 (.agg [(.int .u64 0), (.int .u64 0), (.int .u64 0), (.int .u64 0)]), none⟩,
 ⟨none, .store 4 (.tmp 9) (.tmp 52), none⟩,
 ⟨none, .store 4 (.tmp 10) (.tmp 53), none⟩] [])
 (.seq (.ops 14 1 [⟨some 55, .load (some 4) (.tmp 10), none⟩,
 ⟨some 56, .mov (.tmp 8), none⟩,
 ⟨some 57, .bin .sub (.tmp 56) (.const (.int .u8 48)), none⟩,
 ⟨some 58, .conv .u64 (.tmp 57), none⟩,
 ⟨some 59, .call (.func 67) [(.tmp 58)], none⟩,
 ⟨some 60, .call (.func 68) [(.tmp 55), (.tmp 59)], none⟩,
 ⟨some 54, .mov (.tmp 60), none⟩,
 ⟨some 61, .extract (.tmp 54) 0, none⟩,
 ⟨some 62, .extract (.tmp 54) 1, none⟩,
 ⟨some 11, .alloc 35 (.agg [(.int .u64 0), (.int .u64 0), (.int .u64 0), (.int .u64 0)]), none⟩,
 ⟨none, .store 4 (.tmp 11) (.tmp 61), none⟩,
 ⟨some 12, .mov (.tmp 62), none⟩])
 (.seq (.seq (.ops 15 0 [⟨some 63, .mov (.tmp 12), none⟩,
 ⟨some 64, .mov (.tmp 63), none⟩,
 ⟨some 65, .load (some 4) (.tmp 9), (some ((some 64), false))⟩,
 ⟨some 66, .build [(.int .u64 0), (.int .u64 0), (.int .u64 0), (.int .u64 0)] [], (some ((some 64), false))⟩,
 ⟨some 67, .cmp true 35 (.tmp 65) (.tmp 66), (some ((some 64), false))⟩,
 ⟨some 68, .pick (.tmp 64) (.const (.bool true)) (.tmp 67), none⟩])
 (.cond (.tmp 68)
 (.seq (.ops 16 0 [⟨some 69, .build [(.int .u64 0), (.int .u64 0), (.int .u64 0), (.int .u64 0)] [], none⟩,
 ⟨none, .store 4 (.tmp 2) (.tmp 69), none⟩,
 ⟨some 3, .mov (.const (.int .i64 7)), none⟩])
 .ret)
 .skip))
 (.ops 17 0 [⟨some 70, .load (some 4) (.tmp 11), none⟩,
 ⟨none, .store 4 (.tmp 6) (.tmp 70), none⟩]))))))
 (.ops 18 0 [⟨some 71, .bin .add (.tmp 44) (.const (.int .i64 1)), none⟩,
 ⟨some 44, .mov (.tmp 71), none⟩]))))
def p53_l1 : PC := (.seq (.ops 4 0 [⟨some 30, .bin .lss (.tmp 29) (.tmp 28), none⟩])
 (.seq (.cond (.tmp 30)
 .skip
 (.exit 0))
 (.seq (.block 1
 (.seq (.ops 5 0 [⟨some 31, .atL 1 (.tmp 27) (.tmp 29), none⟩,
 ⟨some 32, .load none (.tmp 31), none⟩,
 ⟨some 5, .mov (.tmp 32), none⟩])
 (.seq (.ops 6 0 [⟨some 33, .mov (.tmp 5), none⟩,
 ⟨some 34, .bin .lss (.tmp 33) (.const (.int .u8 48)), none⟩,
 ⟨some 35, .mov (.tmp 34), none⟩,
 ⟨some 36, .mov (.tmp 5), (some ((some 35), false))⟩,
 ⟨some 37, .bin .gtr (.tmp 36) (.const (.int .u8 57)), (some ((some 35), false))⟩,
 ⟨some 38, .pick (.tmp 35) (.const (.bool true)) (.tmp 37), none⟩])
 (.cond (.tmp 38)
 (.seq (.ops 7 0 [⟨some 39, .build [(.int .u64 0), (.int .u64 0), (.int .u64 0), (.int .u64 0)] [], none⟩,
 ⟨none, .store 4 (.tmp 2) (.tmp 39), none⟩,
 ⟨some 3, .mov (.const (.int .i64 10)), none⟩])
 .ret)
 .skip))))
 (.ops 8 0 [⟨some 40, .bin .add (.tmp 29) (.const (.int .i64 1)), none⟩,
 ⟨some 29, .mov (.tmp 40), none⟩]))))
def p53 : PF := ⟨(.seq (.ops 0 1 [⟨some 2, .alloc 35 (.agg [(.int .u64 0), (.int .u64 0), (.int .u64 0), (.int .u64 0)]), none⟩,
 ⟨some 3, .mov (.const (.int .i64 0)), none⟩])
 (.seq (.seq (.ops 1 0 [⟨some 13, .mov (.tmp 0), none⟩,
 ⟨some 14, .bin .eql (.tmp 13) (.const (.string ⟨#[]⟩)), none⟩,
 ⟨some 15, .mov (.tmp 14), none⟩,
 ⟨some 16, .mov (.tmp 0), (some ((some 15), false))⟩,
 ⟨some 17, .indexS (.tmp 16) (.const (.int .i64 0)), (some ((some 15), false))⟩,
 ⟨some 18, .bin .eql (.tmp 17) (.const (.int .u8 48)), (some ((some 15), false))⟩,
 ⟨some 19, .mov (.tmp 18), (some ((some 15), false))⟩,
 ⟨some 20, .mov (.tmp 0), (some ((some 19), true))⟩,
 ⟨some 21, .lenS (.tmp 20), (some ((some 19), true))⟩,
 ⟨some 22, .bin .gtr (.tmp 21) (.const (.int .i64 1)), (some ((some 19), true))⟩,
 ⟨some 23, .pick (.tmp 19) (.tmp 22) (.const (.bool false)), (some ((some 15), false))⟩,
 ⟨some 24, .pick (.tmp 15) (.const (.bool true)) (.tmp 23), none⟩])
 (.cond (.tmp 24)
 (.seq (.ops 2 0 [⟨some 25, .build [(.int .u64 0), (.int .u64 0), (.int .u64 0), (.int .u64 0)] [], none⟩,
 ⟨none, .store 4 (.tmp 2) (.tmp 25), none⟩,
 ⟨some 3, .mov (.const (.int .i64 10)), none⟩])
 .ret)
 .skip))
 (.seq (.seq (.ops 3 1 [⟨some 26, .mov (.tmp 0), none⟩,
 ⟨some 27, .toBytes (.tmp 26), none⟩,
 ⟨some 28, .lenL (.tmp 27), none⟩,
 ⟨some 29, .mov (.const (.int .i64 0)), none⟩])
 (.block 0
 (.loop p53_l1)))
 (.seq (.ops 9 1 [⟨some 6, .alloc 35 (.agg [(.int .u64 0), (.int .u64 0), (.int .u64 0), (.int .u64 0)]), none⟩])
 (.seq (.seq (.ops 10 1 [⟨some 41, .mov (.tmp 0), none⟩,
 ⟨some 42, .toBytes (.tmp 41), none⟩,
 ⟨some 43, .lenL (.tmp 42), none⟩,
 ⟨some 44, .mov (.const (.int .i64 0)), none⟩])
 (.block 2
 (.loop p53_l0)))
 (.seq (.ops 19 0 [⟨some 72, .load (some 4) (.tmp 6), none⟩,
 ⟨none, .store 4 (.tmp 2) (.tmp 72), none⟩,
 ⟨some 3, .mov (.const (.int .i64 0)), none⟩])
 .ret)))))),
 73, [.cell 2 35, .tmp 3]⟩
theorem c53 : compF Tryd.prog Q Tryd.f53 = some p53 := by kernel_rfl
theorem ht53 : HasText Tryd.prog 53 Tryd.f53 := ⟨Tryd.func53, rfl, by decide⟩
theorem ht54 : HasText Tryd.prog 54 Tryd.f54 := ⟨Tryd.func54, rfl, by decide⟩
theorem ht55 : HasText Tryd.prog 55 Tryd.f55 := ⟨Tryd.func55, rfl, by decide⟩
theorem ht56 : HasText Tryd.prog 56 Tryd.f56 := ⟨Tryd.func56, rfl, by decide⟩
theorem ht60 : HasText Tryd.prog 60 Tryd.f60 := ⟨Tryd.func60, rfl, by decide⟩
def p61 : PF := ⟨(.seq (.ops 0 0 [⟨some 4, .mov (.const (.string ⟨#[]⟩)), none⟩,
 ⟨some 5, .mov (.const (.string ⟨#[]⟩)), none⟩,
 ⟨some 6, .mov (.const (.bool false)), none⟩])
 (.seq (.seq (.ops 1 0 [⟨some 8, .mov (.tmp 0), none⟩,
 ⟨some 9, .mov (.tmp 1), none⟩,
 ⟨some 10, .call (.func 73) [(.tmp 8), (.tmp 9)], none⟩,
 ⟨some 7, .mov (.tmp 10), none⟩])
 (.seq (.ops 2 0 [⟨some 11, .mov (.tmp 7), none⟩,
 ⟨some 12, .bin .geq (.tmp 11) (.const (.int .i64 0)), none⟩])
 (.cond (.tmp 12)
 (.seq (.ops 3 0 [⟨some 13, .mov (.tmp 0), none⟩,
 ⟨some 14, .mov (.tmp 7), none⟩,
 ⟨some 15, .sliceS (.tmp 13) none (some (.tmp 14)), none⟩,
 ⟨some 16, .mov (.tmp 0), none⟩,
 ⟨some 17, .mov (.tmp 7), none⟩,
 ⟨some 18, .mov (.tmp 1), none⟩,
 ⟨some 19, .lenS (.tmp 18), none⟩,
 ⟨some 20, .bin .add (.tmp 17) (.tmp 19), none⟩,
 ⟨some 21, .sliceS (.tmp 16) (some (.tmp 20)) none, none⟩,
 ⟨some 4, .mov (.tmp 15), none⟩,
 ⟨some 5, .mov (.tmp 21), none⟩,
 ⟨some 6, .mov (.const (.bool true)), none⟩])
 .ret)
 .skip)))
 (.seq (.ops 4 0 [⟨some 22, .mov (.tmp 0), none⟩,
 ⟨some 4, .mov (.tmp 22), none⟩,
 ⟨some 5, .mov (.const (.string ⟨#[]⟩)), none⟩,
 ⟨some 6, .mov (.const (.bool false)), none⟩])
 .ret))),
 23, [.tmp 4, .tmp 5, .tmp 6]⟩
theorem c61 : compF Tryd.prog Q Tryd.f61 = some p61 := by kernel_rfl
theorem ht61 : HasText Tryd.prog 61 Tryd.f61 := ⟨Tryd.func61, rfl, by decide⟩
theorem ht62 : HasText Tryd.prog 62 Tryd.f62 := ⟨Tryd.func62, rfl, by decide⟩
def p66_l0 : PC := (.seq (.ops 7 0 [⟨some 18, .bin .lss (.tmp 17) (.const (.int .i64 4)), none⟩])
 (.seq (.cond (.tmp 18)
 .skip
 (.exit 2))
 (.seq (.block 3
 (.seq (.ops 8 0 [⟨some 19, .mov (.tmp 17), none⟩,
 ⟨some 9, .mov (.tmp 19), none⟩])
 (.seq (.ops 9 0 [⟨some 21, .mov (.tmp 7), none⟩,
 ⟨some 22, .atA 4 1 (.tmp 2) (.tmp 21), none⟩,
 ⟨some 23, .load none (.tmp 22), none⟩,
 ⟨some 24, .mov (.tmp 9), none⟩,
 ⟨some 25, .atA 4 1 (.tmp 3) (.tmp 24), none⟩,
 ⟨some 26, .load none (.tmp 25), none⟩,
 ⟨some 27, .call (.func 77) [(.tmp 23), (.tmp 26)], none⟩,
 ⟨some 20, .mov (.tmp 27), none⟩,
 ⟨some 28, .extract (.tmp 20) 0, none⟩,
 ⟨some 29, .extract (.tmp 20) 1, none⟩,
 ⟨some 10, .mov (.tmp 28), none⟩,
 ⟨some 11, .mov (.tmp 29), none⟩])
 (.seq (.ops 10 0 [⟨some 31, .mov (.tmp 7), none⟩,
 ⟨some 32, .mov (.tmp 9), none⟩,
 ⟨some 33, .bin .add (.tmp 31) (.tmp 32), none⟩,
 ⟨some 34, .atA 8 1 (.tmp 6) (.tmp 33), none⟩,
 ⟨some 35, .load none (.tmp 34), none⟩,
 ⟨some 36, .mov (.tmp 11), none⟩,
 ⟨some 37, .mov (.tmp 8), none⟩,
 ⟨some 38, .call (.func 78) [(.tmp 35), (.tmp 36), (.tmp 37)], none⟩,
 ⟨some 30, .mov (.tmp 38), none⟩,
 ⟨some 39, .extract (.tmp 30) 0, none⟩,
 ⟨some 40, .extract (.tmp 30) 1, none⟩,
 ⟨some 12, .mov (.tmp 39), none⟩,
 ⟨some 13, .mov (.tmp 40), none⟩])
 (.seq (.ops 11 0 [⟨some 41, .mov (.tmp 7), none⟩,
 ⟨some 42, .mov (.tmp 9), none⟩,
 ⟨some 43, .bin .add (.tmp 41) (.tmp 42), none⟩,
 ⟨some 44, .mov (.tmp 12), none⟩,
 ⟨some 45, .atA 8 1 (.tmp 6) (.tmp 43), none⟩,
 ⟨none, .store 1 (.tmp 45) (.tmp 44), none⟩])
 (.ops 12 0 [⟨some 46, .mov (.tmp 10), none⟩,
 ⟨some 47, .mov (.tmp 13), none⟩,
 ⟨some 48, .bin .add (.tmp 46) (.tmp 47), none⟩,
 ⟨some 8, .mov (.tmp 48), none⟩]))))))
 (.ops 13 0 [⟨some 49, .bin .add (.tmp 17) (.const (.int .i64 1)), none⟩,
 ⟨some 17, .mov (.tmp 49), none⟩]))))
def p66_l1 : PC := (.seq (.ops 3 0 [⟨some 15, .bin .lss (.tmp 14) (.const (.int .i64 4)), none⟩])
 (.seq (.cond (.tmp 15)
 .skip
 (.exit 0))
 (.seq (.block 1
 (.seq (.ops 4 0 [⟨some 16, .mov (.tmp 14), none⟩,
 ⟨some 7, .mov (.tmp 16), none⟩])
 (.seq (.ops 5 0 [⟨some 8, .mov (.const (.int .u64 0)), none⟩])
 (.seq (.seq (.ops 6 0 [⟨some 17, .mov (.const (.int .i64 0)), none⟩])
 (.block 2
 (.loop p66_l0)))
 (.ops 14 0 [⟨some 50, .mov (.tmp 7), none⟩,
 ⟨some 51, .bin .add (.tmp 50) (.const (.int .i64 4)), none⟩,
 ⟨some 52, .mov (.tmp 8), none⟩,
 ⟨some 53, .atA 8 1 (.tmp 6) (.tmp 51), none⟩,
 ⟨none, .store 1 (.tmp 53) (.tmp 52), none⟩])))))
 (.ops 15 0 [⟨some 54, .bin .add (.tmp 14) (.const (.int .i64 1)), none⟩,
 ⟨some 14, .mov (.tmp 54), none⟩]))))
def p66 : PF := ⟨(.seq (.ops 0 4 [⟨some 2, .box 35 (.tmp 0), none⟩,
 ⟨some 3, .box 35 (.tmp 1), none⟩,
 ⟨some 4, .alloc 35 (.agg [(.int .u64 0), (.int .u64 0), (.int .u64 0), (.int .u64 0)]), none⟩,
 ⟨some 5, .alloc 35 (.agg [(.int .u64 0), (.int .u64 0), (.int .u64 0), (.int .u64 0)]), none⟩])
 (.seq (.ops 1 1 [⟨some 6, .alloc 95 (.agg [(.int .u64 0), (.int .u64 0), (.int .u64 0), (.int .u64 0), (.int .u64 0), (.int .u64 0), (.int .u64 0), (.int .u64 0)]), none⟩])
 (.seq (.seq (.ops 2 0 [⟨some 14, .mov (.const (.int .i64 0)), none⟩])
 (.block 0
 (.loop p66_l1)))
 (.seq (.ops2 16 0 [5] [⟨some 55, .sliceA 8 1 (.tmp 6) (some (.const (.int .i64 4))) none, none⟩,
 ⟨some 56, .toArr 4 (.tmp 55), none⟩,
 ⟨some 57, .load (some 4) (.tmp 56), none⟩,
 ⟨some 58, .sliceA 8 1 (.tmp 6) none (some (.const (.int .i64 4))), none⟩,
 ⟨some 59, .toArr 4 (.tmp 58), none⟩,
 ⟨some 60, .load (some 4) (.tmp 59), none⟩,
 ⟨none, .store 4 (.tmp 4) (.tmp 57), none⟩,
 ⟨none, .store 4 (.tmp 5) (.tmp 60), none⟩] [])
 .ret)))),
 61, [.cell 4 35, .cell 5 35]⟩
theorem c66 : compF Tryd.prog Q Tryd.f66 = some p66 := by kernel_rfl
theorem ht66 : HasText Tryd.prog 66 Tryd.f66 := ⟨Tryd.func66, rfl, by decide⟩
def p67 : PF := ⟨(.seq (.ops 0 1 [⟨some 2, .alloc 35 (.agg [(.int .u64 0), (.int .u64 0), (.int .u64 0), (.int .u64 0)]), none⟩])
 (.seq (.ops 1 0 [⟨some 3, .mov (.tmp 0), none⟩,
 ⟨some 4, .build [(.int .u64 0), (.int .u64 0), (.int .u64 0), (.int .u64 0)] [((0, 1), (.tmp 3))], none⟩,
 ⟨none, .store 4 (.tmp 2) (.tmp 4), none⟩])
 .ret)),
 5, [.cell 2 35]⟩
theorem c67 : compF Tryd.prog Q Tryd.f67 = some p67 := by kernel_rfl
theorem ht67 : HasText Tryd.prog 67 Tryd.f67 := ⟨Tryd.func67, rfl, by decide⟩
def p68_l0 : PC := (.seq (.ops 4 0 [⟨some 10, .bin .lss (.tmp 9) (.const (.int .i64 4)), none⟩])
 (.seq (.cond (.tmp 10)
 .skip
 (.exit 0))
 (.seq (.block 1
 (.seq (.ops 5 0 [⟨some 11, .mov (.tmp 9), none⟩,
 ⟨some 8, .mov (.tmp 11), none⟩])
 (.ops 6 0 [⟨some 13, .mov (.tmp 8), none⟩,
 ⟨some 14, .mov (.tmp 8), none⟩,
 ⟨some 15, .atA 4 1 (.tmp 2) (.tmp 14), none⟩,
 ⟨some 16, .load none (.tmp 15), none⟩,
 ⟨some 17, .mov (.tmp 8), none⟩,
 ⟨some 18, .atA 4 1 (.tmp 3) (.tmp 17), none⟩,
 ⟨some 19, .load none (.tmp 18), none⟩,
 ⟨some 20, .mov (.tmp 7), none⟩,
 ⟨some 21, .call (.func 78) [(.tmp 16), (.tmp 19), (.tmp 20)], none⟩,
 ⟨some 12, .mov (.tmp 21), none⟩,
 ⟨some 22, .extract (.tmp 12) 0, none⟩,
 ⟨some 23, .extract (.tmp 12) 1, none⟩,
 ⟨some 24, .atA 4 1 (.tmp 6) (.tmp 13), none⟩,
 ⟨none, .store 1 (.tmp 24) (.tmp 22), none⟩,
 ⟨some 7, .mov (.tmp 23), none⟩])))
 (.ops 7 0 [⟨some 25, .bin .add (.tmp 9) (.const (.int .i64 1)), none⟩,
 ⟨some 9, .mov (.tmp 25), none⟩]))))
def p68 : PF := ⟨(.seq (.ops 0 3 [⟨some 2, .box 35 (.tmp 0), none⟩,
 ⟨some 3, .box 35 (.tmp 1), none⟩,
 ⟨some 4, .alloc 35 (.agg [(.int .u64 0), (.int .u64 0), (.int .u64 0), (.int .u64 0)]), none⟩,
 ⟨some 5, .mov (.const (.bool false)), none⟩])
 (.seq (.ops 1 1 [⟨some 6, .alloc 35 (.agg [(.int .u64 0), (.int .u64 0), (.int .u64 0), (.int .u64 0)]), none⟩])
 (.seq (.ops 2 0 [⟨some 7, .mov (.const (.int .u64 0)), none⟩])
 (.seq (.seq (.ops 3 0 [⟨some 9, .mov (.const (.int .i64 0)), none⟩])
 (.block 0
 (.loop p68_l0)))
 (.seq (.ops 8 0 [⟨some 26, .load (some 4) (.tmp 6), none⟩,
 ⟨some 27, .mov (.tmp 7), none⟩,
 ⟨some 28, .bin .gtr (.tmp 27) (.const (.int .u64 0)), none⟩,
 ⟨none, .store 4 (.tmp 4) (.tmp 26), none⟩,
 ⟨some 5, .mov (.tmp 28), none⟩])
 .ret))))),
 29, [.cell 4 35, .tmp 5]⟩
theorem c68 : compF Tryd.prog Q Tryd.f68 = some p68 := by kernel_rfl
theorem ht68 : HasText Tryd.prog 68 Tryd.f68 := ⟨Tryd.func68, rfl, by decide⟩
theorem ht69 : HasText Tryd.prog 69 Tryd.f69 := ⟨Tryd.func69, rfl, by decide⟩
def p70 : PF := ⟨(.seq (.ops 0 1 [⟨some 2, .alloc 35 (.agg [(.int .u64 0), (.int .u64 0), (.int .u64 0), (.int .u64 0)]), none⟩])
 (.seq (.ops 1 0 [⟨some 3, .mov (.tmp 0), none⟩,
 ⟨some 4, .build [(.int .u64 0), (.int .u64 0), (.int .u64 0), (.int .u64 0)] [((0, 1), (.tmp 3)), ((1, 1), (.const (.int .u64 0))), ((2, 1), (.const (.int .u64 0))), ((3, 1), (.const (.int .u64 0)))], none⟩,
 ⟨none, .store 4 (.tmp 2) (.tmp 4), none⟩])
 .ret)),
 5, [.cell 2 35]⟩
theorem ht70 : HasText Tryd.prog 70 Tryd.f70 := ⟨Tryd.func70, rfl, by decide⟩
theorem ht71 : HasText Tryd.prog 71 Tryd.f71 := ⟨Tryd.func71, rfl, by decide⟩
theorem ht73 : HasText Tryd.prog 73 Tryd.f73 := ⟨Tryd.func73, rfl, by decide⟩
def p77 : PF := ⟨(.seq (.ops 0 0 [⟨some 4, .mov (.const (.int .u64 0)), none⟩,
 ⟨some 5, .mov (.const (.int .u64 0)), none⟩])
 (.seq (.ops 1 0 [⟨some 12, .mov (.tmp 0), none⟩,
 ⟨some 13, .bin .shr (.tmp 12) (.const (.int .u64 32)), none⟩,
 ⟨some 14, .mov (.tmp 1), none⟩,
 ⟨some 15, .bin .shr (.tmp 14) (.const (.int .u64 32)), none⟩,
 ⟨some 16, .bin .mul (.tmp 13) (.tmp 15), none⟩,
 ⟨some 17, .mov (.tmp 0), none⟩,
 ⟨some 18, .bin .shr (.tmp 17) (.const (.int .u64 32)), none⟩,
 ⟨some 19, .mov (.tmp 1), none⟩,
 ⟨some 20, .bin .and (.tmp 19) (.const (.int .u64 4294967295)), none⟩,
 ⟨some 21, .bin .mul (.tmp 18) (.tmp 20), none⟩,
 ⟨some 22, .mov (.tmp 0), none⟩,
 ⟨some 23, .bin .and (.tmp 22) (.const (.int .u64 4294967295)), none⟩,
 ⟨some 24, .mov (.tmp 1), none⟩,
 ⟨some 25, .bin .shr (.tmp 24) (.const (.int .u64 32)), none⟩,
 ⟨some 26, .bin .mul (.tmp 23) (.tmp 25), none⟩,
 ⟨some 27, .mov (.tmp 0), none⟩,
 ⟨some 28, .bin .and (.tmp 27) (.const (.int .u64 4294967295)), none⟩,
 ⟨some 29, .mov (.tmp 1), none⟩,
 ⟨some 30, .bin .and (.tmp 29) (.const (.int .u64 4294967295)), none⟩,
 ⟨some 31, .bin .mul (.tmp 28) (.tmp 30), none⟩,
 ⟨some 6, .mov (.tmp 16), none⟩,
 ⟨some 7, .mov (.tmp 21), none⟩,
 ⟨some 8, .mov (.tmp 26), none⟩,
 ⟨some 9, .mov (.tmp 31), none⟩])
 (.seq (.ops 2 0 [⟨some 32, .mov (.tmp 7), none⟩,
 ⟨some 33, .mov (.tmp 9), none⟩,
 ⟨some 34, .bin .shr (.tmp 33) (.const (.int .u64 32)), none⟩,
 ⟨some 35, .bin .add (.tmp 32) (.tmp 34), none⟩,
 ⟨some 10, .mov (.tmp 35), none⟩])
 (.seq (.ops 3 0 [⟨some 36, .mov (.tmp 8), none⟩,
 ⟨some 37, .mov (.tmp 10), none⟩,
 ⟨some 38, .bin .and (.tmp 37) (.const (.int .u64 4294967295)), none⟩,
 ⟨some 39, .bin .add (.tmp 36) (.tmp 38), none⟩,
 ⟨some 11, .mov (.tmp 39), none⟩])
 (.seq (.ops 4 0 [⟨some 40, .mov (.tmp 6), none⟩,
 ⟨some 41, .mov (.tmp 10), none⟩,
 ⟨some 42, .bin .shr (.tmp 41) (.const (.int .u64 32)), none⟩,
 ⟨some 43, .bin .add (.tmp 40) (.tmp 42), none⟩,
 ⟨some 44, .mov (.tmp 11), none⟩,
 ⟨some 45, .bin .shr (.tmp 44) (.const (.int .u64 32)), none⟩,
 ⟨some 46, .bin .add (.tmp 43) (.tmp 45), none⟩,
 ⟨some 47, .mov (.tmp 11), none⟩,
 ⟨some 48, .bin .shl (.tmp 47) (.const (.int .u64 32)), none⟩,
 ⟨some 49, .mov (.tmp 9), none⟩,
 ⟨some 50, .bin .and (.tmp 49) (.const (.int .u64 4294967295)), none⟩,
 ⟨some 51, .bin .or (.tmp 48) (.tmp 50), none⟩,
 ⟨some 4, .mov (.tmp 46), none⟩,
 ⟨some 5, .mov (.tmp 51), none⟩])
 .ret))))),
 52, [.tmp 4, .tmp 5]⟩
theorem c77 : compF Tryd.prog Q Tryd.f77 = some p77 := by kernel_rfl
theorem ht77 : HasText Tryd.prog 77 Tryd.f77 := ⟨Tryd.func77, rfl, by decide⟩
def p78 : PF := ⟨(.seq (.ops 0 0 [⟨some 6, .mov (.const (.int .u64 0)), none⟩,
 ⟨some 7, .mov (.const (.int .u64 0)), none⟩])
 (.seq (.ops 1 0 [⟨some 11, .mov (.tmp 0), none⟩,
 ⟨some 12, .mov (.tmp 1), none⟩,
 ⟨some 13, .bin .add (.tmp 11) (.tmp 12), none⟩,
 ⟨some 8, .mov (.tmp 13), none⟩])
 (.seq (.ops 2 0 [⟨some 9, .mov (.const (.int .u64 0)), none⟩])
 (.seq (.seq (.ops 3 0 [⟨some 14, .mov (.tmp 8), none⟩,
 ⟨some 15, .mov (.tmp 0), none⟩,
 ⟨some 16, .bin .lss (.tmp 14) (.tmp 15), none⟩])
 (.cond (.tmp 16)
 (.ops 4 0 [⟨some 9, .mov (.const (.int .u64 1)), none⟩])
 .skip))
 (.seq (.ops 5 0 [⟨some 17, .mov (.tmp 8), none⟩,
 ⟨some 18, .mov (.tmp 2), none⟩,
 ⟨some 19, .bin .add (.tmp 17) (.tmp 18), none⟩,
 ⟨some 10, .mov (.tmp 19), none⟩])
 (.seq (.seq (.ops 6 0 [⟨some 20, .mov (.tmp 10), none⟩,
 ⟨some 21, .mov (.tmp 8), none⟩,
 ⟨some 22, .bin .lss (.tmp 20) (.tmp 21), none⟩])
 (.cond (.tmp 22)
 (.ops 7 0 [⟨some 23, .mov (.tmp 9), none⟩,
 ⟨some 24, .bin .add (.tmp 23) (.const (.int .u64 1)), none⟩,
 ⟨some 9, .mov (.tmp 24), none⟩])
 .skip))
 (.seq (.ops 8 0 [⟨some 25, .mov (.tmp 10), none⟩,
 ⟨some 26, .mov (.tmp 9), none⟩,
 ⟨some 6, .mov (.tmp 25), none⟩,
 ⟨some 7, .mov (.tmp 26), none⟩])
 .ret))))))),
 27, [.tmp 6, .tmp 7]⟩
theorem c78 : compF Tryd.prog Q Tryd.f78 = some p78 := by kernel_rfl
theorem ht78 : HasText Tryd.prog 78 Tryd.f78 := ⟨Tryd.func78, rfl, by decide⟩
theorem ht79 : HasText Tryd.prog 79 Tryd.f79 := ⟨Tryd.func79, rfl, by decide⟩
end Go.Proofs.YtahdfjmdoljgiaaDoor
