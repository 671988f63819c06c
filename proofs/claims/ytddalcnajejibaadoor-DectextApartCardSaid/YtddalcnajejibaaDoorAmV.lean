/- The resolved code of the functions. Written by mkp.py. -/
import Derived.Test.YtddalcnajejibaaDoorAmU
import Derived.Test.YtddalcnajejibaaDoorChecked
namespace Go.Proofs.YtddalcnajejibaaDoor
open Go Go.Am
set_option maxRecDepth 100000
set_option linter.unusedVariables false
def quiet : List FuncId := [8, 9, 10, 11, 12, 13, 14, 15, 16, 17, 18, 19, 20, 21, 22, 23, 24, 25, 26, 27, 28, 29, 30, 31, 32, 33, 34, 35, 36, 37, 38, 39, 40, 41, 42, 43, 44, 45, 50, 51, 52, 53, 57, 58, 59, 62, 63, 64, 65, 66, 67, 68, 69, 70, 71, 73, 78, 82, 84, 85, 86, 87, 88, 89, 98, 99, 100]
def Q (f : FuncId) : Bool := quiet.contains f
def p10 : PF := ⟨(.seq (.ops 0 0 [⟨some 0, .mov (.const (.bool false)), none⟩])
 (.seq (.ops 1 1 [⟨some 4, .build [(.int .u64 0), (.int .u64 0), (.int .u64 0), (.int .u64 0)] [((0, 1), (.const (.int .u64 1250)))], none⟩,
 ⟨some 5, .build [(.bool false), (.int .u64 0), (.int .u64 0), (.int .u64 0), (.int .u64 0), (.int .i64 0)] [((0, 1), (.const (.bool true))), ((1, 4), (.tmp 4)), ((5, 1), (.const (.int .i64 2)))], none⟩,
 ⟨some 1, .alloc 26 (.agg [(.bool false), (.int .u64 0), (.int .u64 0), (.int .u64 0), (.int .u64 0), (.int .i64 0)]), none⟩,
 ⟨none, .store 6 (.tmp 1) (.tmp 5), none⟩])
 (.seq (.ops 2 1 [⟨some 7, .call (.func 15) [(.const (.string ⟨#[51]⟩)), (.const (.int .i64 2))], none⟩,
 ⟨some 6, .mov (.tmp 7), none⟩,
 ⟨some 8, .extract (.tmp 6) 0, none⟩,
 ⟨some 9, .extract (.tmp 6) 1, none⟩,
 ⟨some 2, .alloc 26 (.agg [(.bool false), (.int .u64 0), (.int .u64 0), (.int .u64 0), (.int .u64 0), (.int .i64 0)]), none⟩,
 ⟨none, .store 6 (.tmp 2) (.tmp 8), none⟩,
 ⟨some 3, .mov (.tmp 9), none⟩])
 (.seq (.ops 3 0 [⟨some 10, .load (some 6) (.tmp 1), none⟩,
 ⟨some 11, .call (.func 9) [(.tmp 10)], none⟩,
 ⟨some 12, .bin .eql (.tmp 11) (.const (.string ⟨#[45, 49, 50, 46, 53, 48]⟩)), none⟩,
 ⟨some 13, .mov (.tmp 12), none⟩,
 ⟨some 14, .load (some 6) (.tmp 1), (some ((some 13), true))⟩,
 ⟨some 15, .call (.func 11) [(.tmp 14)], (some ((some 13), true))⟩,
 ⟨some 16, .bin .eql (.tmp 15) (.const (.string ⟨#[45, 49, 50, 46, 53]⟩)), (some ((some 13), true))⟩,
 ⟨some 17, .pick (.tmp 13) (.tmp 16) (.const (.bool false)), none⟩,
 ⟨some 18, .mov (.tmp 17), none⟩,
 ⟨some 19, .mov (.tmp 3), (some ((some 18), true))⟩,
 ⟨some 20, .bin .eql (.tmp 19) (.const (.int .i64 0)), (some ((some 18), true))⟩,
 ⟨some 21, .pick (.tmp 18) (.tmp 20) (.const (.bool false)), none⟩,
 ⟨some 22, .mov (.tmp 21), none⟩,
 ⟨some 23, .load (some 6) (.tmp 2), (some ((some 22), true))⟩,
 ⟨some 24, .build [(.int .u64 0), (.int .u64 0), (.int .u64 0), (.int .u64 0)] [((0, 1), (.const (.int .u64 300)))], (some ((some 22), true))⟩,
 ⟨some 25, .build [(.bool false), (.int .u64 0), (.int .u64 0), (.int .u64 0), (.int .u64 0), (.int .i64 0)] [((1, 4), (.tmp 24)), ((5, 1), (.const (.int .i64 2)))], (some ((some 22), true))⟩,
 ⟨some 26, .cmp false 26 (.tmp 23) (.tmp 25), (some ((some 22), true))⟩,
 ⟨some 27, .pick (.tmp 22) (.tmp 26) (.const (.bool false)), none⟩,
 ⟨some 28, .mov (.tmp 27), none⟩,
 ⟨some 29, .call (.func 17) [(.const (.string ⟨#[49, 46, 53, 46, 50]⟩))], (some ((some 28), true))⟩,
 ⟨some 30, .bin .eql (.tmp 29) (.const (.int .i64 3)), (some ((some 28), true))⟩,
 ⟨some 31, .pick (.tmp 28) (.tmp 30) (.const (.bool false)), none⟩,
 ⟨some 0, .mov (.tmp 31), none⟩])
 .ret)))),
 32, [.tmp 0]⟩
theorem c10 : compF Tryd.prog Q Tryd.f8 = some p10 := by kernel_rfl
theorem ht10 : HasText Tryd.prog 8 Tryd.f8 := ⟨Tryd.func8, rfl, by decide⟩
def pz9 : PF := ⟨(.seq (.ops 0 1 [⟨some 1, .box 26 (.tmp 0), none⟩,
 ⟨some 2, .mov (.const (.string ⟨#[]⟩)), none⟩])
 (.seq (.seq (.ops 1 0 [⟨some 5, .load (some 6) (.tmp 1), none⟩,
 ⟨some 6, .call (.func 21) [(.tmp 5)], none⟩,
 ⟨some 7, .bin .neq (.tmp 6) (.const (.int .i64 0)), none⟩])
 (.cond (.tmp 7)
 (.seq (.ops 2 0 [⟨some 2, .mov (.const (.string ⟨#[63]⟩)), none⟩])
 .ret)
 .skip))
 (.seq (.ops 3 0 [⟨some 8, .fieldAddr 1 (.tmp 1), none⟩,
 ⟨some 9, .load (some 4) (.tmp 8), none⟩,
 ⟨some 10, .call (.func 22) [(.tmp 9)], none⟩,
 ⟨some 3, .mov (.tmp 10), none⟩])
 (.seq (.seq (.ops 4 0 [⟨some 11, .mov (.tmp 3), none⟩,
 ⟨some 12, .lenS (.tmp 11), none⟩,
 ⟨some 13, .fieldAddr 5 (.tmp 1), none⟩,
 ⟨some 14, .load none (.tmp 13), none⟩,
 ⟨some 15, .bin .leq (.tmp 12) (.tmp 14), none⟩])
 (.cond (.tmp 15)
 (.ops 5 0 [⟨some 16, .fieldAddr 5 (.tmp 1), none⟩,
 ⟨some 17, .load none (.tmp 16), none⟩,
 ⟨some 18, .bin .add (.tmp 17) (.const (.int .i64 1)), none⟩,
 ⟨some 19, .mov (.tmp 3), none⟩,
 ⟨some 20, .lenS (.tmp 19), none⟩,
 ⟨some 21, .bin .sub (.tmp 18) (.tmp 20), none⟩,
 ⟨some 22, .call (.func 23) [(.const (.string ⟨#[48]⟩)), (.tmp 21)], none⟩,
 ⟨some 23, .mov (.tmp 3), none⟩,
 ⟨some 24, .bin .add (.tmp 22) (.tmp 23), none⟩,
 ⟨some 3, .mov (.tmp 24), none⟩])
 .skip))
 (.seq (.seq (.ops 6 0 [⟨some 25, .fieldAddr 5 (.tmp 1), none⟩,
 ⟨some 26, .load none (.tmp 25), none⟩,
 ⟨some 27, .bin .gtr (.tmp 26) (.const (.int .i64 0)), none⟩])
 (.cond (.tmp 27)
 (.seq (.ops 7 0 [⟨some 28, .mov (.tmp 3), none⟩,
 ⟨some 29, .lenS (.tmp 28), none⟩,
 ⟨some 30, .fieldAddr 5 (.tmp 1), none⟩,
 ⟨some 31, .load none (.tmp 30), none⟩,
 ⟨some 32, .bin .sub (.tmp 29) (.tmp 31), none⟩,
 ⟨some 4, .mov (.tmp 32), none⟩])
 (.ops 8 0 [⟨some 33, .mov (.tmp 3), none⟩,
 ⟨some 34, .mov (.tmp 4), none⟩,
 ⟨some 35, .sliceS (.tmp 33) none (some (.tmp 34)), none⟩,
 ⟨some 36, .bin .add (.tmp 35) (.const (.string ⟨#[46]⟩)), none⟩,
 ⟨some 37, .mov (.tmp 3), none⟩,
 ⟨some 38, .mov (.tmp 4), none⟩,
 ⟨some 39, .sliceS (.tmp 37) (some (.tmp 38)) none, none⟩,
 ⟨some 40, .bin .add (.tmp 36) (.tmp 39), none⟩,
 ⟨some 3, .mov (.tmp 40), none⟩]))
 .skip))
 (.seq (.seq (.ops 9 0 [⟨some 41, .fieldAddr 0 (.tmp 1), none⟩,
 ⟨some 42, .load none (.tmp 41), none⟩])
 (.cond (.tmp 42)
 (.ops 10 0 [⟨some 43, .mov (.tmp 3), none⟩,
 ⟨some 44, .bin .add (.const (.string ⟨#[45]⟩)) (.tmp 43), none⟩,
 ⟨some 3, .mov (.tmp 44), none⟩])
 .skip))
 (.seq (.ops 11 0 [⟨some 45, .mov (.tmp 3), none⟩,
 ⟨some 2, .mov (.tmp 45), none⟩])
 .ret))))))),
 46, [.tmp 2]⟩
theorem cz9 : compF Tryd.prog Q Tryd.f9 = some pz9 := by kernel_rfl
theorem htz9 : HasText Tryd.prog 9 Tryd.f9 := ⟨Tryd.func9, rfl, by decide⟩
def pz11 : PF := ⟨(.seq (.ops 0 1 [⟨some 1, .box 26 (.tmp 0), none⟩,
 ⟨some 2, .mov (.const (.string ⟨#[]⟩)), none⟩])
 (.seq (.ops 1 0 [⟨some 4, .load (some 6) (.tmp 1), none⟩,
 ⟨some 5, .call (.func 9) [(.tmp 4)], none⟩,
 ⟨some 3, .mov (.tmp 5), none⟩])
 (.seq (.seq (.ops 2 0 [⟨some 6, .mov (.tmp 3), none⟩,
 ⟨some 7, .call (.func 25) [(.tmp 6), (.const (.int .u8 46))], none⟩,
 ⟨some 8, .bin .lss (.tmp 7) (.const (.int .i64 0)), none⟩])
 (.cond (.tmp 8)
 (.seq (.ops 3 0 [⟨some 9, .mov (.tmp 3), none⟩,
 ⟨some 2, .mov (.tmp 9), none⟩])
 .ret)
 .skip))
 (.seq (.ops 4 0 [⟨some 10, .mov (.tmp 3), none⟩,
 ⟨some 11, .call (.func 27) [(.tmp 10), (.const (.string ⟨#[48]⟩))], none⟩,
 ⟨some 12, .call (.func 26) [(.tmp 11), (.const (.string ⟨#[46]⟩))], none⟩,
 ⟨some 2, .mov (.tmp 12), none⟩])
 .ret)))),
 13, [.tmp 2]⟩
theorem cz11 : compF Tryd.prog Q Tryd.f11 = some pz11 := by kernel_rfl
theorem htz11 : HasText Tryd.prog 11 Tryd.f11 := ⟨Tryd.func11, rfl, by decide⟩
def p38 : PF := ⟨(.seq (.ops 0 1 [⟨some 2, .alloc 26 (.agg [(.bool false), (.int .u64 0), (.int .u64 0), (.int .u64 0), (.int .u64 0), (.int .i64 0)]), none⟩,
 ⟨some 3, .mov (.const (.int .i64 0)), none⟩])
 (.seq (.seq (.ops 1 0 [⟨some 12, .mov (.tmp 0), none⟩,
 ⟨some 13, .bin .eql (.tmp 12) (.const (.string ⟨#[]⟩)), none⟩,
 ⟨some 14, .mov (.tmp 13), none⟩,
 ⟨some 15, .mov (.tmp 0), (some ((some 14), false))⟩,
 ⟨some 16, .call (.func 17) [(.tmp 15)], (some ((some 14), false))⟩,
 ⟨some 17, .mov (.tmp 0), (some ((some 14), false))⟩,
 ⟨some 18, .lenS (.tmp 17), (some ((some 14), false))⟩,
 ⟨some 19, .bin .neq (.tmp 16) (.tmp 18), (some ((some 14), false))⟩,
 ⟨some 20, .pick (.tmp 14) (.const (.bool true)) (.tmp 19), none⟩])
 (.cond (.tmp 20)
 (.seq (.ops 2 0 [⟨some 21, .build [(.bool false), (.int .u64 0), (.int .u64 0), (.int .u64 0), (.int .u64 0), (.int .i64 0)] [], none⟩,
 ⟨none, .store 6 (.tmp 2) (.tmp 21), none⟩,
 ⟨some 3, .mov (.const (.int .i64 30)), none⟩])
 .ret)
 .skip))
 (.seq (.ops 3 0 [⟨some 23, .mov (.tmp 0), none⟩,
 ⟨some 24, .call (.func 28) [(.tmp 23), (.const (.string ⟨#[45]⟩))], none⟩,
 ⟨some 22, .mov (.tmp 24), none⟩,
 ⟨some 25, .extract (.tmp 22) 0, none⟩,
 ⟨some 26, .extract (.tmp 22) 1, none⟩,
 ⟨some 4, .mov (.tmp 25), none⟩,
 ⟨some 5, .mov (.tmp 26), none⟩])
 (.seq (.ops 4 0 [⟨some 28, .mov (.tmp 4), none⟩,
 ⟨some 29, .call (.func 29) [(.tmp 28), (.const (.string ⟨#[46]⟩))], none⟩,
 ⟨some 27, .mov (.tmp 29), none⟩,
 ⟨some 30, .extract (.tmp 27) 0, none⟩,
 ⟨some 31, .extract (.tmp 27) 1, none⟩,
 ⟨some 32, .extract (.tmp 27) 2, none⟩,
 ⟨some 6, .mov (.tmp 30), none⟩,
 ⟨some 7, .mov (.tmp 31), none⟩,
 ⟨some 8, .mov (.tmp 32), none⟩])
 (.seq (.seq (.ops 5 0 [⟨some 33, .mov (.tmp 7), none⟩,
 ⟨some 34, .lenS (.tmp 33), none⟩,
 ⟨some 35, .bin .gtr (.tmp 34) (.const (.int .i64 18)), none⟩])
 (.cond (.tmp 35)
 (.seq (.ops 6 0 [⟨some 36, .build [(.bool false), (.int .u64 0), (.int .u64 0), (.int .u64 0), (.int .u64 0), (.int .i64 0)] [], none⟩,
 ⟨none, .store 6 (.tmp 2) (.tmp 36), none⟩,
 ⟨some 3, .mov (.const (.int .i64 31)), none⟩])
 .ret)
 .skip))
 (.seq (.ops 7 0 [⟨some 37, .mov (.tmp 6), none⟩,
 ⟨some 38, .mov (.tmp 7), none⟩,
 ⟨some 39, .bin .add (.tmp 37) (.tmp 38), none⟩,
 ⟨some 40, .call (.func 30) [(.tmp 39), (.const (.string ⟨#[48]⟩))], none⟩,
 ⟨some 9, .mov (.tmp 40), none⟩])
 (.seq (.seq (.ops 8 0 [⟨some 41, .mov (.tmp 9), none⟩,
 ⟨some 42, .bin .eql (.tmp 41) (.const (.string ⟨#[]⟩)), none⟩])
 (.cond (.tmp 42)
 (.ops 9 0 [⟨some 9, .mov (.const (.string ⟨#[48]⟩)), none⟩])
 .skip))
 (.seq (.ops 10 1 [⟨some 44, .mov (.tmp 9), none⟩,
 ⟨some 45, .call (.func 31) [(.tmp 44)], none⟩,
 ⟨some 43, .mov (.tmp 45), none⟩,
 ⟨some 46, .extract (.tmp 43) 0, none⟩,
 ⟨some 47, .extract (.tmp 43) 1, none⟩,
 ⟨some 10, .alloc 24 (.agg [(.int .u64 0), (.int .u64 0), (.int .u64 0), (.int .u64 0)]), none⟩,
 ⟨none, .store 4 (.tmp 10) (.tmp 46), none⟩,
 ⟨some 11, .mov (.tmp 47), none⟩])
 (.seq (.seq (.ops 11 0 [⟨some 48, .mov (.tmp 11), none⟩,
 ⟨some 49, .bin .neq (.tmp 48) (.const (.int .i64 0)), none⟩])
 (.cond (.tmp 49)
 (.seq (.ops 12 0 [⟨some 50, .build [(.bool false), (.int .u64 0), (.int .u64 0), (.int .u64 0), (.int .u64 0), (.int .i64 0)] [], none⟩,
 ⟨some 51, .mov (.tmp 11), none⟩,
 ⟨none, .store 6 (.tmp 2) (.tmp 50), none⟩,
 ⟨some 3, .mov (.tmp 51), none⟩])
 .ret)
 .skip))
 (.seq (.ops 13 0 [⟨some 52, .mov (.tmp 5), none⟩,
 ⟨some 53, .load (some 4) (.tmp 10), none⟩,
 ⟨some 54, .mov (.tmp 7), none⟩,
 ⟨some 55, .lenS (.tmp 54), none⟩,
 ⟨some 56, .build [(.bool false), (.int .u64 0), (.int .u64 0), (.int .u64 0), (.int .u64 0), (.int .i64 0)] [((0, 1), (.tmp 52)), ((1, 4), (.tmp 53)), ((5, 1), (.tmp 55))], none⟩,
 ⟨none, .store 6 (.tmp 2) (.tmp 56), none⟩,
 ⟨some 3, .mov (.const (.int .i64 0)), none⟩])
 .ret)))))))))),
 57, [.cell 2 26, .tmp 3]⟩
theorem c38 : compF Tryd.prog Q Tryd.f13 = some p38 := by kernel_rfl
theorem ht38 : HasText Tryd.prog 13 Tryd.f13 := ⟨Tryd.func13, rfl, by decide⟩
def pz15 : PF := ⟨(.seq (.ops 0 1 [⟨some 4, .alloc 26 (.agg [(.bool false), (.int .u64 0), (.int .u64 0), (.int .u64 0), (.int .u64 0), (.int .i64 0)]), none⟩,
 ⟨some 5, .mov (.const (.int .i64 0)), none⟩])
 (.seq (.seq (.ops 1 0 [⟨some 8, .mov (.tmp 1), none⟩,
 ⟨some 9, .bin .lss (.tmp 8) (.const (.int .i64 0)), none⟩,
 ⟨some 10, .mov (.tmp 9), none⟩,
 ⟨some 11, .mov (.tmp 1), (some ((some 10), false))⟩,
 ⟨some 12, .bin .gtr (.tmp 11) (.const (.int .i64 18)), (some ((some 10), false))⟩,
 ⟨some 13, .pick (.tmp 10) (.const (.bool true)) (.tmp 12), none⟩])
 (.cond (.tmp 13)
 (.seq (.ops 2 0 [⟨some 14, .build [(.bool false), (.int .u64 0), (.int .u64 0), (.int .u64 0), (.int .u64 0), (.int .i64 0)] [], none⟩,
 ⟨none, .store 6 (.tmp 4) (.tmp 14), none⟩,
 ⟨some 5, .mov (.const (.int .i64 1)), none⟩])
 .ret)
 .skip))
 (.seq (.ops 3 1 [⟨some 16, .mov (.tmp 0), none⟩,
 ⟨some 17, .call (.func 13) [(.tmp 16)], none⟩,
 ⟨some 15, .mov (.tmp 17), none⟩,
 ⟨some 18, .extract (.tmp 15) 0, none⟩,
 ⟨some 19, .extract (.tmp 15) 1, none⟩,
 ⟨some 6, .alloc 26 (.agg [(.bool false), (.int .u64 0), (.int .u64 0), (.int .u64 0), (.int .u64 0), (.int .i64 0)]), none⟩,
 ⟨none, .store 6 (.tmp 6) (.tmp 18), none⟩,
 ⟨some 7, .mov (.tmp 19), none⟩])
 (.seq (.seq (.ops 4 0 [⟨some 20, .mov (.tmp 7), none⟩,
 ⟨some 21, .bin .neq (.tmp 20) (.const (.int .i64 0)), none⟩])
 (.cond (.tmp 21)
 (.seq (.ops 5 0 [⟨some 22, .build [(.bool false), (.int .u64 0), (.int .u64 0), (.int .u64 0), (.int .u64 0), (.int .i64 0)] [], none⟩,
 ⟨some 23, .mov (.tmp 7), none⟩,
 ⟨none, .store 6 (.tmp 4) (.tmp 22), none⟩,
 ⟨some 5, .mov (.tmp 23), none⟩])
 .ret)
 .skip))
 (.seq (.seq (.ops 6 0 [⟨some 24, .fieldAddr 5 (.tmp 6), none⟩,
 ⟨some 25, .load none (.tmp 24), none⟩,
 ⟨some 26, .mov (.tmp 1), none⟩,
 ⟨some 27, .bin .gtr (.tmp 25) (.tmp 26), none⟩])
 (.cond (.tmp 27)
 (.seq (.ops 7 0 [⟨some 28, .build [(.bool false), (.int .u64 0), (.int .u64 0), (.int .u64 0), (.int .u64 0), (.int .i64 0)] [], none⟩,
 ⟨none, .store 6 (.tmp 4) (.tmp 28), none⟩,
 ⟨some 5, .mov (.const (.int .i64 31)), none⟩])
 .ret)
 .skip))
 (.seq (.ops 8 0 [⟨some 29, .load (some 6) (.tmp 6), none⟩,
 ⟨some 30, .mov (.tmp 1), none⟩,
 ⟨some 31, .call (.func 35) [(.tmp 29), (.tmp 30), (.const (.int .i64 3))], none⟩,
 ⟨some 32, .extract (.tmp 31) 0, none⟩,
 ⟨some 33, .extract (.tmp 31) 1, none⟩,
 ⟨none, .store 6 (.tmp 4) (.tmp 32), none⟩,
 ⟨some 5, .mov (.tmp 33), none⟩])
 .ret)))))),
 34, [.cell 4 26, .tmp 5]⟩
theorem cz15 : compF Tryd.prog Q Tryd.f15 = some pz15 := by kernel_rfl
theorem htz15 : HasText Tryd.prog 15 Tryd.f15 := ⟨Tryd.func15, rfl, by decide⟩
def p37 : PF := ⟨(.seq (.ops 0 0 [⟨some 2, .mov (.const (.int .i64 0)), none⟩])
 (.scope
 (.seq (.ops 1 0 [⟨some 3, .mov (.const (.int .i64 0)), none⟩,
 ⟨some 4, .mov (.const (.int .i64 0)), none⟩])
 (.seq (.ops 2 0 [⟨some 5, .mov (.const (.bool false)), none⟩])
 (.seq (.ops 3 0 [⟨some 7, .mov (.tmp 0), none⟩,
 ⟨some 8, .lenS (.tmp 7), none⟩,
 ⟨some 9, .bin .gtr (.tmp 8) (.const (.int .i64 0)), none⟩,
 ⟨some 10, .mov (.tmp 9), none⟩,
 ⟨some 11, .mov (.tmp 0), (some ((some 10), true))⟩,
 ⟨some 12, .indexS (.tmp 11) (.const (.int .i64 0)), (some ((some 10), true))⟩,
 ⟨some 13, .bin .eql (.tmp 12) (.const (.int .u8 45)), (some ((some 10), true))⟩,
 ⟨some 14, .pick (.tmp 10) (.tmp 13) (.const (.bool false)), none⟩,
 ⟨some 6, .mov (.tmp 14), none⟩])
 (.seq (.seq (.ops 4 0 [⟨some 15, .mov (.tmp 6), none⟩])
 (.cond (.tmp 15)
 (.ops 5 0 [⟨some 4, .mov (.const (.int .i64 1)), none⟩])
 .skip))
 (.seq (.seq (.ops 6 0 [⟨some 16, .mov (.tmp 0), none⟩,
 ⟨some 17, .mov (.tmp 4), none⟩,
 ⟨some 18, .call (.func 38) [(.tmp 16), (.tmp 17)], none⟩,
 ⟨some 19, .un .not (.tmp 18), none⟩])
 (.cond (.tmp 19)
 (.goto 0)
 .skip))
 (.seq (.seq (.ops 7 0 [⟨some 20, .mov (.tmp 0), none⟩,
 ⟨some 21, .mov (.tmp 4), none⟩,
 ⟨some 22, .indexS (.tmp 20) (.tmp 21), none⟩,
 ⟨some 23, .bin .eql (.tmp 22) (.const (.int .u8 48)), none⟩])
 (.cond (.tmp 23)
 (.seq (.ops 8 0 [⟨some 24, .mov (.tmp 4), none⟩,
 ⟨some 25, .bin .add (.tmp 24) (.const (.int .i64 1)), none⟩,
 ⟨some 4, .mov (.tmp 25), none⟩])
 (.goto 1))
 .skip))
 (.seq (.label 2)
 (.seq (.ops 9 0 [⟨some 5, .mov (.const (.bool true)), none⟩])
 (.seq (.ops 10 0 [⟨some 26, .mov (.tmp 4), none⟩,
 ⟨some 27, .bin .add (.tmp 26) (.const (.int .i64 1)), none⟩,
 ⟨some 4, .mov (.tmp 27), none⟩])
 (.seq (.seq (.ops 11 0 [⟨some 28, .mov (.tmp 0), none⟩,
 ⟨some 29, .mov (.tmp 4), none⟩,
 ⟨some 30, .call (.func 38) [(.tmp 28), (.tmp 29)], none⟩])
 (.cond (.tmp 30)
 (.goto 2)
 .skip))
 (.seq (.label 1)
 (.seq (.seq (.ops 12 0 [⟨some 31, .mov (.tmp 5), none⟩,
 ⟨some 32, .mov (.tmp 31), none⟩,
 ⟨some 33, .mov (.tmp 6), (some ((some 32), false))⟩,
 ⟨some 34, .un .not (.tmp 33), (some ((some 32), false))⟩,
 ⟨some 35, .pick (.tmp 32) (.const (.bool true)) (.tmp 34), none⟩])
 (.cond (.tmp 35)
 (.ops 13 0 [⟨some 36, .mov (.tmp 4), none⟩,
 ⟨some 3, .mov (.tmp 36), none⟩])
 .skip))
 (.seq (.seq (.ops 14 0 [⟨some 37, .mov (.tmp 4), none⟩,
 ⟨some 38, .mov (.tmp 0), none⟩,
 ⟨some 39, .lenS (.tmp 38), none⟩,
 ⟨some 40, .bin .geq (.tmp 37) (.tmp 39), none⟩,
 ⟨some 41, .mov (.tmp 40), none⟩,
 ⟨some 42, .mov (.tmp 0), (some ((some 41), false))⟩,
 ⟨some 43, .mov (.tmp 4), (some ((some 41), false))⟩,
 ⟨some 44, .indexS (.tmp 42) (.tmp 43), (some ((some 41), false))⟩,
 ⟨some 45, .bin .neq (.tmp 44) (.const (.int .u8 46)), (some ((some 41), false))⟩,
 ⟨some 46, .pick (.tmp 41) (.const (.bool true)) (.tmp 45), none⟩])
 (.cond (.tmp 46)
 (.goto 0)
 .skip))
 (.seq (.ops 15 0 [⟨some 47, .mov (.tmp 4), none⟩,
 ⟨some 48, .bin .add (.tmp 47) (.const (.int .i64 1)), none⟩,
 ⟨some 4, .mov (.tmp 48), none⟩])
 (.seq (.label 3)
 (.seq (.seq (.ops 16 0 [⟨some 49, .mov (.tmp 0), none⟩,
 ⟨some 50, .mov (.tmp 4), none⟩,
 ⟨some 51, .call (.func 38) [(.tmp 49), (.tmp 50)], none⟩,
 ⟨some 52, .un .not (.tmp 51), none⟩])
 (.cond (.tmp 52)
 (.goto 0)
 .skip))
 (.seq (.ops 17 0 [⟨some 53, .mov (.tmp 5), none⟩,
 ⟨some 54, .mov (.tmp 53), none⟩,
 ⟨some 55, .mov (.tmp 0), (some ((some 54), false))⟩,
 ⟨some 56, .mov (.tmp 4), (some ((some 54), false))⟩,
 ⟨some 57, .indexS (.tmp 55) (.tmp 56), (some ((some 54), false))⟩,
 ⟨some 58, .bin .neq (.tmp 57) (.const (.int .u8 48)), (some ((some 54), false))⟩,
 ⟨some 59, .pick (.tmp 54) (.const (.bool true)) (.tmp 58), none⟩,
 ⟨some 5, .mov (.tmp 59), none⟩])
 (.seq (.ops 18 0 [⟨some 60, .mov (.tmp 4), none⟩,
 ⟨some 61, .bin .add (.tmp 60) (.const (.int .i64 1)), none⟩,
 ⟨some 4, .mov (.tmp 61), none⟩])
 (.seq (.seq (.ops 19 0 [⟨some 62, .mov (.tmp 5), none⟩,
 ⟨some 63, .mov (.tmp 62), none⟩,
 ⟨some 64, .mov (.tmp 6), (some ((some 63), false))⟩,
 ⟨some 65, .un .not (.tmp 64), (some ((some 63), false))⟩,
 ⟨some 66, .pick (.tmp 63) (.const (.bool true)) (.tmp 65), none⟩])
 (.cond (.tmp 66)
 (.ops 20 0 [⟨some 67, .mov (.tmp 4), none⟩,
 ⟨some 3, .mov (.tmp 67), none⟩])
 .skip))
 (.seq (.goto 3)
 (.seq (.label 0)
 (.seq (.ops 21 0 [⟨some 68, .mov (.tmp 3), none⟩,
 ⟨some 2, .mov (.tmp 68), none⟩])
 .ret)))))))))))))))))))))))),
 69, [.tmp 2]⟩
theorem c37 : compF Tryd.prog Q Tryd.f17 = some p37 := by kernel_rfl
theorem ht37 : HasText Tryd.prog 17 Tryd.f17 := ⟨Tryd.func17, rfl, by decide⟩
def pz21 : PF := ⟨(.seq (.ops 0 1 [⟨some 1, .box 26 (.tmp 0), none⟩,
 ⟨some 2, .mov (.const (.int .i64 0)), none⟩])
 (.seq (.seq (.ops 1 0 [⟨some 3, .fieldAddr 5 (.tmp 1), none⟩,
 ⟨some 4, .load none (.tmp 3), none⟩,
 ⟨some 5, .bin .lss (.tmp 4) (.const (.int .i64 0)), none⟩,
 ⟨some 6, .mov (.tmp 5), none⟩,
 ⟨some 7, .fieldAddr 5 (.tmp 1), (some ((some 6), false))⟩,
 ⟨some 8, .load none (.tmp 7), (some ((some 6), false))⟩,
 ⟨some 9, .bin .gtr (.tmp 8) (.const (.int .i64 18)), (some ((some 6), false))⟩,
 ⟨some 10, .pick (.tmp 6) (.const (.bool true)) (.tmp 9), none⟩,
 ⟨some 11, .mov (.tmp 10), none⟩,
 ⟨some 12, .fieldAddr 0 (.tmp 1), (some ((some 11), false))⟩,
 ⟨some 13, .load none (.tmp 12), (some ((some 11), false))⟩,
 ⟨some 14, .mov (.tmp 13), (some ((some 11), false))⟩,
 ⟨some 15, .fieldAddr 1 (.tmp 1), (some ((some 14), true))⟩,
 ⟨some 16, .load (some 4) (.tmp 15), (some ((some 14), true))⟩,
 ⟨some 17, .build [(.int .u64 0), (.int .u64 0), (.int .u64 0), (.int .u64 0)] [], (some ((some 14), true))⟩,
 ⟨some 18, .cmp false 24 (.tmp 16) (.tmp 17), (some ((some 14), true))⟩,
 ⟨some 19, .pick (.tmp 14) (.tmp 18) (.const (.bool false)), (some ((some 11), false))⟩,
 ⟨some 20, .pick (.tmp 11) (.const (.bool true)) (.tmp 19), none⟩])
 (.cond (.tmp 20)
 (.seq (.ops 2 0 [⟨some 2, .mov (.const (.int .i64 20)), none⟩])
 .ret)
 .skip))
 (.seq (.ops 3 0 [⟨some 2, .mov (.const (.int .i64 0)), none⟩])
 .ret))),
 21, [.tmp 2]⟩
theorem cz21 : compF Tryd.prog Q Tryd.f21 = some pz21 := by kernel_rfl
theorem htz21 : HasText Tryd.prog 21 Tryd.f21 := ⟨Tryd.func21, rfl, by decide⟩
def pz22 : PF := ⟨(.seq (.ops 0 1 [⟨some 1, .box 24 (.tmp 0), none⟩,
 ⟨some 2, .mov (.const (.string ⟨#[]⟩)), none⟩])
 (.scope
 (.seq (.ops 1 1 [⟨some 3, .alloc 64 (.agg [(.int .u8 0), (.int .u8 0), (.int .u8 0), (.int .u8 0), (.int .u8 0), (.int .u8 0), (.int .u8 0), (.int .u8 0), (.int .u8 0), (.int .u8 0), (.int .u8 0), (.int .u8 0), (.int .u8 0), (.int .u8 0), (.int .u8 0), (.int .u8 0), (.int .u8 0), (.int .u8 0), (.int .u8 0), (.int .u8 0), (.int .u8 0), (.int .u8 0), (.int .u8 0), (.int .u8 0), (.int .u8 0), (.int .u8 0), (.int .u8 0), (.int .u8 0), (.int .u8 0), (.int .u8 0), (.int .u8 0), (.int .u8 0), (.int .u8 0), (.int .u8 0), (.int .u8 0), (.int .u8 0), (.int .u8 0), (.int .u8 0), (.int .u8 0), (.int .u8 0), (.int .u8 0), (.int .u8 0), (.int .u8 0), (.int .u8 0), (.int .u8 0), (.int .u8 0), (.int .u8 0), (.int .u8 0), (.int .u8 0), (.int .u8 0), (.int .u8 0), (.int .u8 0), (.int .u8 0), (.int .u8 0), (.int .u8 0), (.int .u8 0), (.int .u8 0), (.int .u8 0), (.int .u8 0), (.int .u8 0), (.int .u8 0), (.int .u8 0), (.int .u8 0), (.int .u8 0), (.int .u8 0), (.int .u8 0), (.int .u8 0), (.int .u8 0), (.int .u8 0), (.int .u8 0), (.int .u8 0), (.int .u8 0), (.int .u8 0), (.int .u8 0), (.int .u8 0), (.int .u8 0), (.int .u8 0), (.int .u8 0), (.int .u8 0), (.int .u8 0)]), none⟩])
 (.seq (.ops 2 0 [⟨some 4, .mov (.const (.int .i64 80)), none⟩])
 (.seq (.label 0)
 (.seq (.ops 3 1 [⟨some 8, .load (some 4) (.tmp 1), none⟩,
 ⟨some 9, .call (.func 43) [(.tmp 8), (.const (.int .u64 10))], none⟩,
 ⟨some 7, .mov (.tmp 9), none⟩,
 ⟨some 10, .extract (.tmp 7) 0, none⟩,
 ⟨some 11, .extract (.tmp 7) 1, none⟩,
 ⟨some 5, .alloc 24 (.agg [(.int .u64 0), (.int .u64 0), (.int .u64 0), (.int .u64 0)]), none⟩,
 ⟨none, .store 4 (.tmp 5) (.tmp 10), none⟩,
 ⟨some 6, .mov (.tmp 11), none⟩])
 (.seq (.ops 4 0 [⟨some 12, .mov (.tmp 4), none⟩,
 ⟨some 13, .bin .sub (.tmp 12) (.const (.int .i64 1)), none⟩,
 ⟨some 4, .mov (.tmp 13), none⟩])
 (.seq (.ops 5 0 [⟨some 14, .mov (.tmp 4), none⟩,
 ⟨some 15, .mov (.tmp 6), none⟩,
 ⟨some 16, .bin .add (.const (.int .u64 48)) (.tmp 15), none⟩,
 ⟨some 17, .conv .u8 (.tmp 16), none⟩,
 ⟨some 18, .atA 80 1 (.tmp 3) (.tmp 14), none⟩,
 ⟨none, .store 1 (.tmp 18) (.tmp 17), none⟩])
 (.seq (.ops 6 0 [⟨some 19, .load (some 4) (.tmp 5), none⟩,
 ⟨none, .store 4 (.tmp 1) (.tmp 19), none⟩])
 (.seq (.seq (.ops 7 0 [⟨some 20, .load (some 4) (.tmp 1), none⟩,
 ⟨some 21, .build [(.int .u64 0), (.int .u64 0), (.int .u64 0), (.int .u64 0)] [], none⟩,
 ⟨some 22, .cmp true 24 (.tmp 20) (.tmp 21), none⟩])
 (.cond (.tmp 22)
 (.goto 0)
 .skip))
 (.seq (.ops 8 0 [⟨some 23, .mov (.tmp 4), none⟩,
 ⟨some 24, .sliceA 80 1 (.tmp 3) (some (.tmp 23)) none, none⟩,
 ⟨some 25, .toStr (.tmp 24), none⟩,
 ⟨some 2, .mov (.tmp 25), none⟩])
 .ret))))))))))),
 26, [.tmp 2]⟩
theorem cz22 : compF Tryd.prog Q Tryd.f22 = some pz22 := by kernel_rfl
theorem htz22 : HasText Tryd.prog 22 Tryd.f22 := ⟨Tryd.func22, rfl, by decide⟩
theorem ht27 : HasText Tryd.prog 25 Tryd.f25 := ⟨Tryd.func25, rfl, by decide⟩
def pz26 : PF := ⟨(.seq (.ops 0 0 [⟨some 4, .mov (.const (.string ⟨#[]⟩)), none⟩])
 (.seq (.ops 1 0 [⟨some 5, .mov (.tmp 0), none⟩,
 ⟨some 6, .mov (.tmp 1), none⟩,
 ⟨some 7, .call (.func 52) [(.tmp 5), (.tmp 6)], none⟩,
 ⟨some 4, .mov (.tmp 7), none⟩])
 .ret)),
 8, [.tmp 4]⟩
theorem cz26 : compF Tryd.prog Q Tryd.f26 = some pz26 := by kernel_rfl
theorem htz26 : HasText Tryd.prog 26 Tryd.f26 := ⟨Tryd.func26, rfl, by decide⟩
def pz27 : PF := ⟨(.seq (.ops 0 0 [⟨some 4, .mov (.const (.string ⟨#[]⟩)), none⟩])
 (.seq (.seq (.ops 1 0 [⟨some 7, .mov (.tmp 0), none⟩,
 ⟨some 8, .bin .eql (.tmp 7) (.const (.string ⟨#[]⟩)), none⟩,
 ⟨some 9, .mov (.tmp 8), none⟩,
 ⟨some 10, .mov (.tmp 1), (some ((some 9), false))⟩,
 ⟨some 11, .bin .eql (.tmp 10) (.const (.string ⟨#[]⟩)), (some ((some 9), false))⟩,
 ⟨some 12, .pick (.tmp 9) (.const (.bool true)) (.tmp 11), none⟩])
 (.cond (.tmp 12)
 (.seq (.ops 2 0 [⟨some 13, .mov (.tmp 0), none⟩,
 ⟨some 4, .mov (.tmp 13), none⟩])
 .ret)
 .skip))
 (.seq (.seq (.ops 3 0 [⟨some 14, .mov (.tmp 1), none⟩,
 ⟨some 15, .lenS (.tmp 14), none⟩,
 ⟨some 16, .bin .eql (.tmp 15) (.const (.int .i64 1)), none⟩,
 ⟨some 17, .mov (.tmp 16), none⟩,
 ⟨some 18, .mov (.tmp 1), (some ((some 17), true))⟩,
 ⟨some 19, .indexS (.tmp 18) (.const (.int .i64 0)), (some ((some 17), true))⟩,
 ⟨some 20, .bin .lss (.tmp 19) (.const (.int .u8 128)), (some ((some 17), true))⟩,
 ⟨some 21, .pick (.tmp 17) (.tmp 20) (.const (.bool false)), none⟩])
 (.cond (.tmp 21)
 (.seq (.ops 4 0 [⟨some 22, .mov (.tmp 0), none⟩,
 ⟨some 23, .mov (.tmp 1), none⟩,
 ⟨some 24, .indexS (.tmp 23) (.const (.int .i64 0)), none⟩,
 ⟨some 25, .call (.func 53) [(.tmp 22), (.tmp 24)], none⟩,
 ⟨some 4, .mov (.tmp 25), none⟩])
 .ret)
 .skip))
 (.seq (.seq (.ops 5 1 [⟨some 27, .mov (.tmp 1), none⟩,
 ⟨some 28, .call (.func 54) [(.tmp 27)], none⟩,
 ⟨some 26, .mov (.tmp 28), none⟩,
 ⟨some 29, .extract (.tmp 26) 0, none⟩,
 ⟨some 30, .extract (.tmp 26) 1, none⟩,
 ⟨some 5, .alloc 83 (.agg [(.bool false), (.bool false), (.bool false), (.bool false), (.bool false), (.bool false), (.bool false), (.bool false), (.bool false), (.bool false), (.bool false), (.bool false), (.bool false), (.bool false), (.bool false), (.bool false), (.bool false), (.bool false), (.bool false), (.bool false), (.bool false), (.bool false), (.bool false), (.bool false), (.bool false), (.bool false), (.bool false), (.bool false), (.bool false), (.bool false), (.bool false), (.bool false), (.bool false), (.bool false), (.bool false), (.bool false), (.bool false), (.bool false), (.bool false), (.bool false), (.bool false), (.bool false), (.bool false), (.bool false), (.bool false), (.bool false), (.bool false), (.bool false), (.bool false), (.bool false), (.bool false), (.bool false), (.bool false), (.bool false), (.bool false), (.bool false), (.bool false), (.bool false), (.bool false), (.bool false), (.bool false), (.bool false), (.bool false), (.bool false), (.bool false), (.bool false), (.bool false), (.bool false), (.bool false), (.bool false), (.bool false), (.bool false), (.bool false), (.bool false), (.bool false), (.bool false), (.bool false), (.bool false), (.bool false), (.bool false), (.bool false), (.bool false), (.bool false), (.bool false), (.bool false), (.bool false), (.bool false), (.bool false), (.bool false), (.bool false), (.bool false), (.bool false), (.bool false), (.bool false), (.bool false), (.bool false), (.bool false), (.bool false), (.bool false), (.bool false), (.bool false), (.bool false), (.bool false), (.bool false), (.bool false), (.bool false), (.bool false), (.bool false), (.bool false), (.bool false), (.bool false), (.bool false), (.bool false), (.bool false), (.bool false), (.bool false), (.bool false), (.bool false), (.bool false), (.bool false), (.bool false), (.bool false), (.bool false), (.bool false), (.bool false), (.bool false), (.bool false), (.bool false), (.bool false), (.bool false), (.bool false), (.bool false), (.bool false), (.bool false), (.bool false), (.bool false), (.bool false), (.bool false), (.bool false), (.bool false), (.bool false), (.bool false), (.bool false), (.bool false), (.bool false), (.bool false), (.bool false), (.bool false), (.bool false), (.bool false), (.bool false), (.bool false), (.bool false), (.bool false), (.bool false), (.bool false), (.bool false), (.bool false), (.bool false), (.bool false), (.bool false), (.bool false), (.bool false), (.bool false), (.bool false), (.bool false), (.bool false), (.bool false), (.bool false), (.bool false), (.bool false), (.bool false), (.bool false), (.bool false), (.bool false), (.bool false), (.bool false), (.bool false), (.bool false), (.bool false), (.bool false), (.bool false), (.bool false), (.bool false), (.bool false), (.bool false), (.bool false), (.bool false), (.bool false), (.bool false), (.bool false), (.bool false), (.bool false), (.bool false), (.bool false), (.bool false), (.bool false), (.bool false), (.bool false), (.bool false), (.bool false), (.bool false), (.bool false), (.bool false), (.bool false), (.bool false), (.bool false), (.bool false), (.bool false), (.bool false), (.bool false), (.bool false), (.bool false), (.bool false), (.bool false), (.bool false), (.bool false), (.bool false), (.bool false), (.bool false), (.bool false), (.bool false), (.bool false), (.bool false), (.bool false), (.bool false), (.bool false), (.bool false), (.bool false), (.bool false), (.bool false), (.bool false), (.bool false), (.bool false), (.bool false), (.bool false), (.bool false), (.bool false), (.bool false), (.bool false), (.bool false), (.bool false), (.bool false), (.bool false), (.bool false), (.bool false), (.bool false), (.bool false), (.bool false), (.bool false), (.bool false), (.bool false), (.bool false), (.bool false), (.bool false), (.bool false)]), none⟩,
 ⟨none, .store 256 (.tmp 5) (.tmp 29), none⟩,
 ⟨some 6, .mov (.tmp 30), none⟩])
 (.seq (.ops 6 0 [⟨some 31, .mov (.tmp 6), none⟩])
 (.cond (.tmp 31)
 (.seq (.ops 7 0 [⟨some 32, .mov (.tmp 0), none⟩,
 ⟨some 33, .call (.func 55) [(.tmp 32), (.tmp 5)], none⟩,
 ⟨some 4, .mov (.tmp 33), none⟩])
 .ret)
 .skip)))
 (.seq (.ops 8 0 [⟨some 34, .mov (.tmp 0), none⟩,
 ⟨some 35, .mov (.tmp 1), none⟩,
 ⟨some 36, .call (.func 56) [(.tmp 34), (.tmp 35)], none⟩,
 ⟨some 4, .mov (.tmp 36), none⟩])
 .ret))))),
 37, [.tmp 4]⟩
theorem cz27 : compF Tryd.prog Q Tryd.f27 = some pz27 := by kernel_rfl
theorem htz27 : HasText Tryd.prog 27 Tryd.f27 := ⟨Tryd.func27, rfl, by decide⟩
theorem ht50 : HasText Tryd.prog 28 Tryd.f28 := ⟨Tryd.func28, rfl, by decide⟩
def p51 : PF := ⟨(.seq (.ops 0 0 [⟨some 4, .mov (.const (.string ⟨#[]⟩)), none⟩,
 ⟨some 5, .mov (.const (.string ⟨#[]⟩)), none⟩,
 ⟨some 6, .mov (.const (.bool false)), none⟩])
 (.seq (.ops 1 0 [⟨some 7, .mov (.tmp 0), none⟩,
 ⟨some 8, .mov (.tmp 1), none⟩,
 ⟨some 9, .call (.func 58) [(.tmp 7), (.tmp 8)], none⟩,
 ⟨some 10, .extract (.tmp 9) 0, none⟩,
 ⟨some 11, .extract (.tmp 9) 1, none⟩,
 ⟨some 12, .extract (.tmp 9) 2, none⟩,
 ⟨some 4, .mov (.tmp 10), none⟩,
 ⟨some 5, .mov (.tmp 11), none⟩,
 ⟨some 6, .mov (.tmp 12), none⟩])
 .ret)),
 13, [.tmp 4, .tmp 5, .tmp 6]⟩
theorem c51 : compF Tryd.prog Q Tryd.f29 = some p51 := by kernel_rfl
theorem ht51 : HasText Tryd.prog 29 Tryd.f29 := ⟨Tryd.func29, rfl, by decide⟩
def p52 : PF := ⟨(.seq (.ops 0 0 [⟨some 4, .mov (.const (.string ⟨#[]⟩)), none⟩])
 (.seq (.seq (.ops 1 0 [⟨some 7, .mov (.tmp 0), none⟩,
 ⟨some 8, .bin .eql (.tmp 7) (.const (.string ⟨#[]⟩)), none⟩,
 ⟨some 9, .mov (.tmp 8), none⟩,
 ⟨some 10, .mov (.tmp 1), (some ((some 9), false))⟩,
 ⟨some 11, .bin .eql (.tmp 10) (.const (.string ⟨#[]⟩)), (some ((some 9), false))⟩,
 ⟨some 12, .pick (.tmp 9) (.const (.bool true)) (.tmp 11), none⟩])
 (.cond (.tmp 12)
 (.seq (.ops 2 0 [⟨some 13, .mov (.tmp 0), none⟩,
 ⟨some 4, .mov (.tmp 13), none⟩])
 .ret)
 .skip))
 (.seq (.seq (.ops 3 0 [⟨some 14, .mov (.tmp 1), none⟩,
 ⟨some 15, .lenS (.tmp 14), none⟩,
 ⟨some 16, .bin .eql (.tmp 15) (.const (.int .i64 1)), none⟩,
 ⟨some 17, .mov (.tmp 16), none⟩,
 ⟨some 18, .mov (.tmp 1), (some ((some 17), true))⟩,
 ⟨some 19, .indexS (.tmp 18) (.const (.int .i64 0)), (some ((some 17), true))⟩,
 ⟨some 20, .bin .lss (.tmp 19) (.const (.int .u8 128)), (some ((some 17), true))⟩,
 ⟨some 21, .pick (.tmp 17) (.tmp 20) (.const (.bool false)), none⟩])
 (.cond (.tmp 21)
 (.seq (.ops 4 0 [⟨some 22, .mov (.tmp 0), none⟩,
 ⟨some 23, .mov (.tmp 1), none⟩,
 ⟨some 24, .indexS (.tmp 23) (.const (.int .i64 0)), none⟩,
 ⟨some 25, .call (.func 59) [(.tmp 22), (.tmp 24)], none⟩,
 ⟨some 4, .mov (.tmp 25), none⟩])
 .ret)
 .skip))
 (.seq (.seq (.ops 5 1 [⟨some 27, .mov (.tmp 1), none⟩,
 ⟨some 28, .call (.func 54) [(.tmp 27)], none⟩,
 ⟨some 26, .mov (.tmp 28), none⟩,
 ⟨some 29, .extract (.tmp 26) 0, none⟩,
 ⟨some 30, .extract (.tmp 26) 1, none⟩,
 ⟨some 5, .alloc 83 (.agg [(.bool false), (.bool false), (.bool false), (.bool false), (.bool false), (.bool false), (.bool false), (.bool false), (.bool false), (.bool false), (.bool false), (.bool false), (.bool false), (.bool false), (.bool false), (.bool false), (.bool false), (.bool false), (.bool false), (.bool false), (.bool false), (.bool false), (.bool false), (.bool false), (.bool false), (.bool false), (.bool false), (.bool false), (.bool false), (.bool false), (.bool false), (.bool false), (.bool false), (.bool false), (.bool false), (.bool false), (.bool false), (.bool false), (.bool false), (.bool false), (.bool false), (.bool false), (.bool false), (.bool false), (.bool false), (.bool false), (.bool false), (.bool false), (.bool false), (.bool false), (.bool false), (.bool false), (.bool false), (.bool false), (.bool false), (.bool false), (.bool false), (.bool false), (.bool false), (.bool false), (.bool false), (.bool false), (.bool false), (.bool false), (.bool false), (.bool false), (.bool false), (.bool false), (.bool false), (.bool false), (.bool false), (.bool false), (.bool false), (.bool false), (.bool false), (.bool false), (.bool false), (.bool false), (.bool false), (.bool false), (.bool false), (.bool false), (.bool false), (.bool false), (.bool false), (.bool false), (.bool false), (.bool false), (.bool false), (.bool false), (.bool false), (.bool false), (.bool false), (.bool false), (.bool false), (.bool false), (.bool false), (.bool false), (.bool false), (.bool false), (.bool false), (.bool false), (.bool false), (.bool false), (.bool false), (.bool false), (.bool false), (.bool false), (.bool false), (.bool false), (.bool false), (.bool false), (.bool false), (.bool false), (.bool false), (.bool false), (.bool false), (.bool false), (.bool false), (.bool false), (.bool false), (.bool false), (.bool false), (.bool false), (.bool false), (.bool false), (.bool false), (.bool false), (.bool false), (.bool false), (.bool false), (.bool false), (.bool false), (.bool false), (.bool false), (.bool false), (.bool false), (.bool false), (.bool false), (.bool false), (.bool false), (.bool false), (.bool false), (.bool false), (.bool false), (.bool false), (.bool false), (.bool false), (.bool false), (.bool false), (.bool false), (.bool false), (.bool false), (.bool false), (.bool false), (.bool false), (.bool false), (.bool false), (.bool false), (.bool false), (.bool false), (.bool false), (.bool false), (.bool false), (.bool false), (.bool false), (.bool false), (.bool false), (.bool false), (.bool false), (.bool false), (.bool false), (.bool false), (.bool false), (.bool false), (.bool false), (.bool false), (.bool false), (.bool false), (.bool false), (.bool false), (.bool false), (.bool false), (.bool false), (.bool false), (.bool false), (.bool false), (.bool false), (.bool false), (.bool false), (.bool false), (.bool false), (.bool false), (.bool false), (.bool false), (.bool false), (.bool false), (.bool false), (.bool false), (.bool false), (.bool false), (.bool false), (.bool false), (.bool false), (.bool false), (.bool false), (.bool false), (.bool false), (.bool false), (.bool false), (.bool false), (.bool false), (.bool false), (.bool false), (.bool false), (.bool false), (.bool false), (.bool false), (.bool false), (.bool false), (.bool false), (.bool false), (.bool false), (.bool false), (.bool false), (.bool false), (.bool false), (.bool false), (.bool false), (.bool false), (.bool false), (.bool false), (.bool false), (.bool false), (.bool false), (.bool false), (.bool false), (.bool false), (.bool false), (.bool false), (.bool false), (.bool false), (.bool false), (.bool false), (.bool false), (.bool false), (.bool false), (.bool false), (.bool false), (.bool false), (.bool false), (.bool false), (.bool false), (.bool false), (.bool false), (.bool false)]), none⟩,
 ⟨none, .store 256 (.tmp 5) (.tmp 29), none⟩,
 ⟨some 6, .mov (.tmp 30), none⟩])
 (.seq (.ops 6 0 [⟨some 31, .mov (.tmp 6), none⟩])
 (.cond (.tmp 31)
 (.seq (.ops 7 0 [⟨some 32, .mov (.tmp 0), none⟩,
 ⟨some 33, .call (.func 60) [(.tmp 32), (.tmp 5)], none⟩,
 ⟨some 4, .mov (.tmp 33), none⟩])
 .ret)
 .skip)))
 (.seq (.ops 8 0 [⟨some 34, .mov (.tmp 0), none⟩,
 ⟨some 35, .mov (.tmp 1), none⟩,
 ⟨some 36, .call (.func 61) [(.tmp 34), (.tmp 35)], none⟩,
 ⟨some 4, .mov (.tmp 36), none⟩])
 .ret))))),
 37, [.tmp 4]⟩
theorem c52 : compF Tryd.prog Q Tryd.f30 = some p52 := by kernel_rfl
theorem ht52 : HasText Tryd.prog 30 Tryd.f30 := ⟨Tryd.func30, rfl, by decide⟩
def p53_l0 : PC := (.seq (.ops 11 0 [⟨some 45, .bin .lss (.tmp 44) (.tmp 43), none⟩])
 (.seq (.cond (.tmp 45)
 .skip
 (.exit 2))
 (.seq (.block 3
 (.seq (.ops 12 0 [⟨some 46, .atL 1 (.tmp 42) (.tmp 44), none⟩,
 ⟨some 47, .load none (.tmp 46), none⟩,
 ⟨some 8, .mov (.tmp 47), none⟩])
 (.seq (.ops2 13 2 [] [⟨some 49, .load (some 4) (.tmp 6), none⟩,
 ⟨some 50, .call (.func 63) [(.const (.int .u64 10))], none⟩,
 ⟨some 51, .call (.func 62) [(.tmp 49), (.tmp 50)], none⟩,
 ⟨some 48, .mov (.tmp 51), none⟩,
 ⟨some 52, .extract (.tmp 48) 0, none⟩,
 ⟨some 53, .extract (.tmp 48) 1, none⟩,
 ⟨some 9, .alloc 24 (.agg [(.int .u64 0), (.int .u64 0), (.int .u64 0), (.int .u64 0)]), none⟩,
 ⟨some 10, .alloc 24 (.agg [(.int .u64 0), (.int .u64 0), (.int .u64 0), (.int .u64 0)]), none⟩,
 ⟨none, .store 4 (.tmp 9) (.tmp 52), none⟩,
 ⟨none, .store 4 (.tmp 10) (.tmp 53), none⟩] [])
 (.seq (.ops 14 1 [⟨some 55, .load (some 4) (.tmp 10), none⟩,
 ⟨some 56, .mov (.tmp 8), none⟩,
 ⟨some 57, .bin .sub (.tmp 56) (.const (.int .u8 48)), none⟩,
 ⟨some 58, .conv .u64 (.tmp 57), none⟩,
 ⟨some 59, .call (.func 63) [(.tmp 58)], none⟩,
 ⟨some 60, .call (.func 64) [(.tmp 55), (.tmp 59)], none⟩,
 ⟨some 54, .mov (.tmp 60), none⟩,
 ⟨some 61, .extract (.tmp 54) 0, none⟩,
 ⟨some 62, .extract (.tmp 54) 1, none⟩,
 ⟨some 11, .alloc 24 (.agg [(.int .u64 0), (.int .u64 0), (.int .u64 0), (.int .u64 0)]), none⟩,
 ⟨none, .store 4 (.tmp 11) (.tmp 61), none⟩,
 ⟨some 12, .mov (.tmp 62), none⟩])
 (.seq (.seq (.ops 15 0 [⟨some 63, .mov (.tmp 12), none⟩,
 ⟨some 64, .mov (.tmp 63), none⟩,
 ⟨some 65, .load (some 4) (.tmp 9), (some ((some 64), false))⟩,
 ⟨some 66, .build [(.int .u64 0), (.int .u64 0), (.int .u64 0), (.int .u64 0)] [], (some ((some 64), false))⟩,
 ⟨some 67, .cmp true 24 (.tmp 65) (.tmp 66), (some ((some 64), false))⟩,
 ⟨some 68, .pick (.tmp 64) (.const (.bool true)) (.tmp 67), none⟩])
 (.cond (.tmp 68)
 (.seq (.ops 16 0 [⟨some 69, .build [(.int .u64 0), (.int .u64 0), (.int .u64 0), (.int .u64 0)] [], none⟩,
 ⟨none, .store 4 (.tmp 2) (.tmp 69), none⟩,
 ⟨some 3, .mov (.const (.int .i64 7)), none⟩])
 .ret)
 .skip))
 (.ops 17 0 [⟨some 70, .load (some 4) (.tmp 11), none⟩,
 ⟨none, .store 4 (.tmp 6) (.tmp 70), none⟩]))))))
 (.ops 18 0 [⟨some 71, .bin .add (.tmp 44) (.const (.int .i64 1)), none⟩,
 ⟨some 44, .mov (.tmp 71), none⟩]))))
def p53_l1 : PC := (.seq (.ops 4 0 [⟨some 30, .bin .lss (.tmp 29) (.tmp 28), none⟩])
 (.seq (.cond (.tmp 30)
 .skip
 (.exit 0))
 (.seq (.block 1
 (.seq (.ops 5 0 [⟨some 31, .atL 1 (.tmp 27) (.tmp 29), none⟩,
 ⟨some 32, .load none (.tmp 31), none⟩,
 ⟨some 5, .mov (.tmp 32), none⟩])
 (.seq (.ops 6 0 [⟨some 33, .mov (.tmp 5), none⟩,
 ⟨some 34, .bin .lss (.tmp 33) (.const (.int .u8 48)), none⟩,
 ⟨some 35, .mov (.tmp 34), none⟩,
 ⟨some 36, .mov (.tmp 5), (some ((some 35), false))⟩,
 ⟨some 37, .bin .gtr (.tmp 36) (.const (.int .u8 57)), (some ((some 35), false))⟩,
 ⟨some 38, .pick (.tmp 35) (.const (.bool true)) (.tmp 37), none⟩])
 (.cond (.tmp 38)
 (.seq (.ops 7 0 [⟨some 39, .build [(.int .u64 0), (.int .u64 0), (.int .u64 0), (.int .u64 0)] [], none⟩,
 ⟨none, .store 4 (.tmp 2) (.tmp 39), none⟩,
 ⟨some 3, .mov (.const (.int .i64 10)), none⟩])
 .ret)
 .skip))))
 (.ops 8 0 [⟨some 40, .bin .add (.tmp 29) (.const (.int .i64 1)), none⟩,
 ⟨some 29, .mov (.tmp 40), none⟩]))))
def p53 : PF := ⟨(.seq (.ops 0 1 [⟨some 2, .alloc 24 (.agg [(.int .u64 0), (.int .u64 0), (.int .u64 0), (.int .u64 0)]), none⟩,
 ⟨some 3, .mov (.const (.int .i64 0)), none⟩])
 (.seq (.seq (.ops 1 0 [⟨some 13, .mov (.tmp 0), none⟩,
 ⟨some 14, .bin .eql (.tmp 13) (.const (.string ⟨#[]⟩)), none⟩,
 ⟨some 15, .mov (.tmp 14), none⟩,
 ⟨some 16, .mov (.tmp 0), (some ((some 15), false))⟩,
 ⟨some 17, .indexS (.tmp 16) (.const (.int .i64 0)), (some ((some 15), false))⟩,
 ⟨some 18, .bin .eql (.tmp 17) (.const (.int .u8 48)), (some ((some 15), false))⟩,
 ⟨some 19, .mov (.tmp 18), (some ((some 15), false))⟩,
 ⟨some 20, .mov (.tmp 0), (some ((some 19), true))⟩,
 ⟨some 21, .lenS (.tmp 20), (some ((some 19), true))⟩,
 ⟨some 22, .bin .gtr (.tmp 21) (.const (.int .i64 1)), (some ((some 19), true))⟩,
 ⟨some 23, .pick (.tmp 19) (.tmp 22) (.const (.bool false)), (some ((some 15), false))⟩,
 ⟨some 24, .pick (.tmp 15) (.const (.bool true)) (.tmp 23), none⟩])
 (.cond (.tmp 24)
 (.seq (.ops 2 0 [⟨some 25, .build [(.int .u64 0), (.int .u64 0), (.int .u64 0), (.int .u64 0)] [], none⟩,
 ⟨none, .store 4 (.tmp 2) (.tmp 25), none⟩,
 ⟨some 3, .mov (.const (.int .i64 10)), none⟩])
 .ret)
 .skip))
 (.seq (.seq (.ops 3 1 [⟨some 26, .mov (.tmp 0), none⟩,
 ⟨some 27, .toBytes (.tmp 26), none⟩,
 ⟨some 28, .lenL (.tmp 27), none⟩,
 ⟨some 29, .mov (.const (.int .i64 0)), none⟩])
 (.block 0
 (.loop p53_l1)))
 (.seq (.ops 9 1 [⟨some 6, .alloc 24 (.agg [(.int .u64 0), (.int .u64 0), (.int .u64 0), (.int .u64 0)]), none⟩])
 (.seq (.seq (.ops 10 1 [⟨some 41, .mov (.tmp 0), none⟩,
 ⟨some 42, .toBytes (.tmp 41), none⟩,
 ⟨some 43, .lenL (.tmp 42), none⟩,
 ⟨some 44, .mov (.const (.int .i64 0)), none⟩])
 (.block 2
 (.loop p53_l0)))
 (.seq (.ops 19 0 [⟨some 72, .load (some 4) (.tmp 6), none⟩,
 ⟨none, .store 4 (.tmp 2) (.tmp 72), none⟩,
 ⟨some 3, .mov (.const (.int .i64 0)), none⟩])
 .ret)))))),
 73, [.cell 2 24, .tmp 3]⟩
theorem c53 : compF Tryd.prog Q Tryd.f31 = some p53 := by kernel_rfl
theorem ht53 : HasText Tryd.prog 31 Tryd.f31 := ⟨Tryd.func31, rfl, by decide⟩
def pz35 : PF := ⟨(.seq (.ops 0 2 [⟨some 3, .box 26 (.tmp 0), none⟩,
 ⟨some 6, .alloc 26 (.agg [(.bool false), (.int .u64 0), (.int .u64 0), (.int .u64 0), (.int .u64 0), (.int .i64 0)]), none⟩,
 ⟨some 7, .mov (.const (.int .i64 0)), none⟩])
 (.seq (.seq (.ops 1 0 [⟨some 10, .load (some 6) (.tmp 3), none⟩,
 ⟨some 11, .call (.func 21) [(.tmp 10)], none⟩,
 ⟨some 8, .mov (.tmp 11), none⟩])
 (.seq (.ops 2 0 [⟨some 12, .mov (.tmp 8), none⟩,
 ⟨some 13, .bin .neq (.tmp 12) (.const (.int .i64 0)), none⟩])
 (.cond (.tmp 13)
 (.seq (.ops 3 0 [⟨some 14, .build [(.bool false), (.int .u64 0), (.int .u64 0), (.int .u64 0), (.int .u64 0), (.int .i64 0)] [], none⟩,
 ⟨some 15, .mov (.tmp 8), none⟩,
 ⟨none, .store 6 (.tmp 6) (.tmp 14), none⟩,
 ⟨some 7, .mov (.tmp 15), none⟩])
 .ret)
 .skip)))
 (.seq (.seq (.ops 4 0 [⟨some 16, .mov (.tmp 1), none⟩,
 ⟨some 17, .mov (.tmp 2), none⟩,
 ⟨some 18, .call (.func 67) [(.tmp 16), (.tmp 17)], none⟩,
 ⟨some 9, .mov (.tmp 18), none⟩])
 (.seq (.ops 5 0 [⟨some 19, .mov (.tmp 9), none⟩,
 ⟨some 20, .bin .neq (.tmp 19) (.const (.int .i64 0)), none⟩])
 (.cond (.tmp 20)
 (.seq (.ops 6 0 [⟨some 21, .build [(.bool false), (.int .u64 0), (.int .u64 0), (.int .u64 0), (.int .u64 0), (.int .i64 0)] [], none⟩,
 ⟨some 22, .mov (.tmp 9), none⟩,
 ⟨none, .store 6 (.tmp 6) (.tmp 21), none⟩,
 ⟨some 7, .mov (.tmp 22), none⟩])
 .ret)
 .skip)))
 (.seq (.ops 7 0 [⟨some 23, .fieldAddr 0 (.tmp 3), none⟩,
 ⟨some 24, .load none (.tmp 23), none⟩,
 ⟨some 25, .fieldAddr 1 (.tmp 3), none⟩,
 ⟨some 26, .load (some 4) (.tmp 25), none⟩,
 ⟨some 27, .build [(.int .u64 0), (.int .u64 0), (.int .u64 0), (.int .u64 0), (.int .u64 0), (.int .u64 0), (.int .u64 0), (.int .u64 0)] [((4, 4), (.tmp 26))], none⟩,
 ⟨some 28, .fieldAddr 5 (.tmp 3), none⟩,
 ⟨some 29, .load none (.tmp 28), none⟩,
 ⟨some 30, .mov (.tmp 1), none⟩,
 ⟨some 31, .mov (.tmp 2), none⟩,
 ⟨some 32, .call (.func 68) [(.tmp 24), (.tmp 27), (.tmp 29), (.tmp 30), (.tmp 31)], none⟩,
 ⟨some 33, .extract (.tmp 32) 0, none⟩,
 ⟨some 34, .extract (.tmp 32) 1, none⟩,
 ⟨none, .store 6 (.tmp 6) (.tmp 33), none⟩,
 ⟨some 7, .mov (.tmp 34), none⟩])
 .ret)))),
 35, [.cell 6 26, .tmp 7]⟩
theorem cz35 : compF Tryd.prog Q Tryd.f35 = some pz35 := by kernel_rfl
theorem htz35 : HasText Tryd.prog 35 Tryd.f35 := ⟨Tryd.func35, rfl, by decide⟩
def p49 : PF := ⟨(.seq (.ops 0 0 [⟨some 4, .mov (.const (.bool false)), none⟩])
 (.seq (.ops 1 0 [⟨some 5, .mov (.tmp 1), none⟩,
 ⟨some 6, .mov (.tmp 0), none⟩,
 ⟨some 7, .lenS (.tmp 6), none⟩,
 ⟨some 8, .bin .lss (.tmp 5) (.tmp 7), none⟩,
 ⟨some 9, .mov (.tmp 8), none⟩,
 ⟨some 10, .mov (.tmp 0), (some ((some 9), true))⟩,
 ⟨some 11, .mov (.tmp 1), (some ((some 9), true))⟩,
 ⟨some 12, .indexS (.tmp 10) (.tmp 11), (some ((some 9), true))⟩,
 ⟨some 13, .bin .geq (.tmp 12) (.const (.int .u8 48)), (some ((some 9), true))⟩,
 ⟨some 14, .pick (.tmp 9) (.tmp 13) (.const (.bool false)), none⟩,
 ⟨some 15, .mov (.tmp 14), none⟩,
 ⟨some 16, .mov (.tmp 0), (some ((some 15), true))⟩,
 ⟨some 17, .mov (.tmp 1), (some ((some 15), true))⟩,
 ⟨some 18, .indexS (.tmp 16) (.tmp 17), (some ((some 15), true))⟩,
 ⟨some 19, .bin .leq (.tmp 18) (.const (.int .u8 57)), (some ((some 15), true))⟩,
 ⟨some 20, .pick (.tmp 15) (.tmp 19) (.const (.bool false)), none⟩,
 ⟨some 4, .mov (.tmp 20), none⟩])
 .ret)),
 21, [.tmp 4]⟩
theorem c49 : compF Tryd.prog Q Tryd.f38 = some p49 := by kernel_rfl
theorem ht49 : HasText Tryd.prog 38 Tryd.f38 := ⟨Tryd.func38, rfl, by decide⟩
def pz39_l0 : PC := (.seq (.ops 2 0 [⟨some 9, .bin .lss (.tmp 8) (.tmp 7), none⟩])
 (.seq (.cond (.tmp 9)
 .skip
 (.exit 0))
 (.seq (.block 1
 (.seq (.ops 3 1 [⟨some 10, .atL 6 (.tmp 6) (.tmp 8), none⟩,
 ⟨some 11, .load (some 6) (.tmp 10), none⟩,
 ⟨some 4, .alloc 26 (.agg [(.bool false), (.int .u64 0), (.int .u64 0), (.int .u64 0), (.int .u64 0), (.int .i64 0)]), none⟩,
 ⟨none, .store 6 (.tmp 4) (.tmp 11), none⟩])
 (.seq (.ops 4 0 [⟨some 12, .load (some 6) (.tmp 4), none⟩,
 ⟨some 13, .call (.func 21) [(.tmp 12)], none⟩,
 ⟨some 5, .mov (.tmp 13), none⟩])
 (.seq (.ops 5 0 [⟨some 14, .mov (.tmp 5), none⟩,
 ⟨some 15, .bin .neq (.tmp 14) (.const (.int .i64 0)), none⟩])
 (.cond (.tmp 15)
 (.seq (.ops 6 0 [⟨some 16, .mov (.tmp 5), none⟩,
 ⟨some 2, .mov (.tmp 16), none⟩])
 .ret)
 .skip)))))
 (.ops 7 0 [⟨some 17, .bin .add (.tmp 8) (.const (.int .i64 1)), none⟩,
 ⟨some 8, .mov (.tmp 17), none⟩]))))
def pz39 : PF := ⟨(.seq (.ops 0 0 [⟨some 2, .mov (.const (.int .i64 0)), none⟩])
 (.seq (.seq (.ops 1 0 [⟨some 6, .mov (.tmp 0), none⟩,
 ⟨some 7, .lenL (.tmp 6), none⟩,
 ⟨some 8, .mov (.const (.int .i64 0)), none⟩])
 (.block 0
 (.loop pz39_l0)))
 (.seq (.ops 8 0 [⟨some 2, .mov (.const (.int .i64 0)), none⟩])
 .ret))),
 18, [.tmp 2]⟩
theorem cz39 : compF Tryd.prog Q Tryd.f39 = some pz39 := by kernel_rfl
theorem htz39 : HasText Tryd.prog 39 Tryd.f39 := ⟨Tryd.func39, rfl, by decide⟩
def pz40 : PF := ⟨(.seq (.ops 0 1 [⟨some 1, .box 26 (.tmp 0), none⟩,
 ⟨some 2, .mov (.const (.int .i64 0)), none⟩])
 (.seq (.block 0
 (.seq (.ops 1 0 [⟨some 4, .fieldAddr 1 (.tmp 1), none⟩,
 ⟨some 5, .load (some 4) (.tmp 4), none⟩,
 ⟨some 6, .build [(.int .u64 0), (.int .u64 0), (.int .u64 0), (.int .u64 0)] [], none⟩,
 ⟨some 7, .cmp false 24 (.tmp 5) (.tmp 6), none⟩,
 ⟨some 3, .mov (.tmp 7), none⟩])
 (.cond (.tmp 3)
 (.seq (.ops 2 0 [⟨some 2, .mov (.const (.int .i64 0)), none⟩])
 .ret)
 (.seq (.ops 3 0 [⟨some 9, .fieldAddr 0 (.tmp 1), none⟩,
 ⟨some 10, .load none (.tmp 9), none⟩,
 ⟨some 8, .mov (.tmp 10), none⟩])
 (.cond (.tmp 8)
 (.seq (.ops 4 0 [⟨some 2, .mov (.const (.int .i64 (-1))), none⟩])
 .ret)
 .skip)))))
 (.seq (.ops 5 0 [⟨some 2, .mov (.const (.int .i64 1)), none⟩])
 .ret))),
 11, [.tmp 2]⟩
theorem cz40 : compF Tryd.prog Q Tryd.f40 = some pz40 := by kernel_rfl
theorem htz40 : HasText Tryd.prog 40 Tryd.f40 := ⟨Tryd.func40, rfl, by decide⟩
def pz42 : PF := ⟨(.seq (.ops 0 2 [⟨some 2, .box 24 (.tmp 0), none⟩,
 ⟨some 4, .alloc 62 (.agg [(.int .u64 0), (.int .u64 0), (.int .u64 0), (.int .u64 0), (.int .u64 0), (.int .u64 0), (.int .u64 0), (.int .u64 0)]), none⟩])
 (.seq (.ops 1 1 [⟨some 10, .mov (.tmp 1), none⟩,
 ⟨some 11, .call (.func 71) [(.tmp 10)], none⟩,
 ⟨some 9, .mov (.tmp 11), none⟩,
 ⟨some 12, .extract (.tmp 9) 0, none⟩,
 ⟨some 13, .extract (.tmp 9) 1, none⟩,
 ⟨some 5, .alloc 24 (.agg [(.int .u64 0), (.int .u64 0), (.int .u64 0), (.int .u64 0)]), none⟩,
 ⟨none, .store 4 (.tmp 5) (.tmp 12), none⟩,
 ⟨some 6, .mov (.tmp 13), none⟩])
 (.seq (.ops 2 2 [⟨some 15, .load (some 4) (.tmp 2), none⟩,
 ⟨some 16, .load (some 4) (.tmp 5), none⟩,
 ⟨some 17, .call (.func 62) [(.tmp 15), (.tmp 16)], none⟩,
 ⟨some 14, .mov (.tmp 17), none⟩,
 ⟨some 18, .extract (.tmp 14) 0, none⟩,
 ⟨some 19, .extract (.tmp 14) 1, none⟩,
 ⟨some 7, .alloc 24 (.agg [(.int .u64 0), (.int .u64 0), (.int .u64 0), (.int .u64 0)]), none⟩,
 ⟨some 8, .alloc 24 (.agg [(.int .u64 0), (.int .u64 0), (.int .u64 0), (.int .u64 0)]), none⟩,
 ⟨none, .store 4 (.tmp 7) (.tmp 18), none⟩,
 ⟨none, .store 4 (.tmp 8) (.tmp 19), none⟩])
 (.seq (.ops 3 0 [⟨some 20, .load (some 4) (.tmp 7), none⟩,
 ⟨some 21, .load (some 4) (.tmp 8), none⟩,
 ⟨some 22, .build [(.int .u64 0), (.int .u64 0), (.int .u64 0), (.int .u64 0), (.int .u64 0), (.int .u64 0), (.int .u64 0), (.int .u64 0)] [((0, 4), (.tmp 20)), ((4, 4), (.tmp 21))], none⟩,
 ⟨none, .store 8 (.tmp 4) (.tmp 22), none⟩])
 .ret)))),
 23, [.cell 4 62]⟩
theorem cz42 : compF Tryd.prog Q Tryd.f42 = some pz42 := by kernel_rfl
theorem htz42 : HasText Tryd.prog 42 Tryd.f42 := ⟨Tryd.func42, rfl, by decide⟩
def pz43_l0 : PC := (.seq (.seq (.ops 7 0 [⟨some 15, .mov (.tmp 9), none⟩,
 ⟨some 16, .bin .geq (.tmp 15) (.const (.int .i64 0)), none⟩])
 (.cond (.tmp 16)
 .skip
 (.exit 2)))
 (.seq (.block 3
 (.seq (.ops 9 0 [⟨some 19, .mov (.tmp 6), none⟩,
 ⟨some 20, .bin .shl (.tmp 19) (.const (.int .u64 32)), none⟩,
 ⟨some 21, .mov (.tmp 7), none⟩,
 ⟨some 22, .atA 4 1 (.tmp 2) (.tmp 21), none⟩,
 ⟨some 23, .load none (.tmp 22), none⟩,
 ⟨some 24, .mov (.tmp 9), none⟩,
 ⟨some 25, .bin .shr (.tmp 23) (.tmp 24), none⟩,
 ⟨some 26, .bin .and (.tmp 25) (.const (.int .u64 4294967295)), none⟩,
 ⟨some 27, .bin .or (.tmp 20) (.tmp 26), none⟩,
 ⟨some 10, .mov (.tmp 27), none⟩])
 (.seq (.ops 10 0 [⟨some 28, .mov (.tmp 8), none⟩,
 ⟨some 29, .bin .shl (.tmp 28) (.const (.int .u64 32)), none⟩,
 ⟨some 30, .mov (.tmp 10), none⟩,
 ⟨some 31, .mov (.tmp 1), none⟩,
 ⟨some 32, .bin .quo (.tmp 30) (.tmp 31), none⟩,
 ⟨some 33, .bin .or (.tmp 29) (.tmp 32), none⟩,
 ⟨some 8, .mov (.tmp 33), none⟩])
 (.ops 11 0 [⟨some 34, .mov (.tmp 10), none⟩,
 ⟨some 35, .mov (.tmp 1), none⟩,
 ⟨some 36, .bin .rem (.tmp 34) (.tmp 35), none⟩,
 ⟨some 6, .mov (.tmp 36), none⟩]))))
 (.ops 8 0 [⟨some 17, .mov (.tmp 9), none⟩,
 ⟨some 18, .bin .sub (.tmp 17) (.const (.int .i64 32)), none⟩,
 ⟨some 9, .mov (.tmp 18), none⟩])))
def pz43_l1 : PC := (.seq (.seq (.ops 3 0 [⟨some 11, .mov (.tmp 7), none⟩,
 ⟨some 12, .bin .geq (.tmp 11) (.const (.int .i64 0)), none⟩])
 (.cond (.tmp 12)
 .skip
 (.exit 0)))
 (.seq (.block 1
 (.seq (.ops 5 0 [⟨some 8, .mov (.const (.int .u64 0)), none⟩])
 (.seq (.seq (.ops 6 0 [⟨some 9, .mov (.const (.int .i64 32)), none⟩])
 (.block 2
 (.loop pz43_l0)))
 (.ops 12 0 [⟨some 37, .mov (.tmp 7), none⟩,
 ⟨some 38, .mov (.tmp 8), none⟩,
 ⟨some 39, .atA 4 1 (.tmp 2) (.tmp 37), none⟩,
 ⟨none, .store 1 (.tmp 39) (.tmp 38), none⟩]))))
 (.ops 4 0 [⟨some 13, .mov (.tmp 7), none⟩,
 ⟨some 14, .bin .sub (.tmp 13) (.const (.int .i64 1)), none⟩,
 ⟨some 7, .mov (.tmp 14), none⟩])))
def pz43 : PF := ⟨(.seq (.ops 0 2 [⟨some 2, .box 24 (.tmp 0), none⟩,
 ⟨some 4, .alloc 24 (.agg [(.int .u64 0), (.int .u64 0), (.int .u64 0), (.int .u64 0)]), none⟩,
 ⟨some 5, .mov (.const (.int .u64 0)), none⟩])
 (.seq (.ops 1 0 [⟨some 6, .mov (.const (.int .u64 0)), none⟩])
 (.seq (.seq (.ops 2 0 [⟨some 7, .mov (.const (.int .i64 3)), none⟩])
 (.block 0
 (.loop pz43_l1)))
 (.seq (.ops 13 0 [⟨some 40, .load (some 4) (.tmp 2), none⟩,
 ⟨some 41, .mov (.tmp 6), none⟩,
 ⟨none, .store 4 (.tmp 4) (.tmp 40), none⟩,
 ⟨some 5, .mov (.tmp 41), none⟩])
 .ret)))),
 42, [.cell 4 24, .tmp 5]⟩
theorem cz43 : compF Tryd.prog Q Tryd.f43 = some pz43 := by kernel_rfl
theorem htz43 : HasText Tryd.prog 43 Tryd.f43 := ⟨Tryd.func43, rfl, by decide⟩
def pz44 : PF := ⟨(.seq (.ops 0 0 [⟨some 4, .mov (.const (.int .u64 0)), none⟩,
 ⟨some 5, .mov (.const (.int .u64 0)), none⟩])
 (.seq (.cond (.const (.bool false))
 (.seq (.ops 1 0 [⟨some 11, .mov (.tmp 0), none⟩,
 ⟨some 12, .conv .u32 (.tmp 11), none⟩,
 ⟨some 13, .mov (.tmp 1), none⟩,
 ⟨some 14, .conv .u32 (.tmp 13), none⟩,
 ⟨some 15, .call (.func 72) [(.tmp 12), (.tmp 14)], none⟩,
 ⟨some 10, .mov (.tmp 15), none⟩,
 ⟨some 16, .extract (.tmp 10) 0, none⟩,
 ⟨some 17, .extract (.tmp 10) 1, none⟩,
 ⟨some 6, .mov (.tmp 16), none⟩,
 ⟨some 7, .mov (.tmp 17), none⟩])
 (.seq (.ops 2 0 [⟨some 18, .mov (.tmp 6), none⟩,
 ⟨some 19, .conv .u64 (.tmp 18), none⟩,
 ⟨some 20, .mov (.tmp 7), none⟩,
 ⟨some 21, .conv .u64 (.tmp 20), none⟩,
 ⟨some 4, .mov (.tmp 19), none⟩,
 ⟨some 5, .mov (.tmp 21), none⟩])
 .ret))
 .skip)
 (.seq (.ops 3 0 [⟨some 23, .mov (.tmp 0), none⟩,
 ⟨some 24, .mov (.tmp 1), none⟩,
 ⟨some 25, .call (.func 73) [(.tmp 23), (.tmp 24)], none⟩,
 ⟨some 22, .mov (.tmp 25), none⟩,
 ⟨some 26, .extract (.tmp 22) 0, none⟩,
 ⟨some 27, .extract (.tmp 22) 1, none⟩,
 ⟨some 8, .mov (.tmp 26), none⟩,
 ⟨some 9, .mov (.tmp 27), none⟩])
 (.seq (.ops 4 0 [⟨some 28, .mov (.tmp 8), none⟩,
 ⟨some 29, .mov (.tmp 9), none⟩,
 ⟨some 4, .mov (.tmp 28), none⟩,
 ⟨some 5, .mov (.tmp 29), none⟩])
 .ret)))),
 30, [.tmp 4, .tmp 5]⟩
theorem cz44 : compF Tryd.prog Q Tryd.f44 = some pz44 := by kernel_rfl
theorem htz44 : HasText Tryd.prog 44 Tryd.f44 := ⟨Tryd.func44, rfl, by decide⟩
def pz52 : PF := ⟨(.seq (.ops 0 0 [⟨some 4, .mov (.const (.string ⟨#[]⟩)), none⟩])
 (.seq (.seq (.ops 1 0 [⟨some 5, .mov (.tmp 0), none⟩,
 ⟨some 6, .mov (.tmp 1), none⟩,
 ⟨some 7, .call (.func 78) [(.tmp 5), (.tmp 6)], none⟩])
 (.cond (.tmp 7)
 (.seq (.ops 2 0 [⟨some 8, .mov (.tmp 0), none⟩,
 ⟨some 9, .mov (.tmp 0), none⟩,
 ⟨some 10, .lenS (.tmp 9), none⟩,
 ⟨some 11, .mov (.tmp 1), none⟩,
 ⟨some 12, .lenS (.tmp 11), none⟩,
 ⟨some 13, .bin .sub (.tmp 10) (.tmp 12), none⟩,
 ⟨some 14, .sliceS (.tmp 8) none (some (.tmp 13)), none⟩,
 ⟨some 4, .mov (.tmp 14), none⟩])
 .ret)
 .skip))
 (.seq (.ops 3 0 [⟨some 15, .mov (.tmp 0), none⟩,
 ⟨some 4, .mov (.tmp 15), none⟩])
 .ret))),
 16, [.tmp 4]⟩
theorem cz52 : compF Tryd.prog Q Tryd.f52 = some pz52 := by kernel_rfl
theorem htz52 : HasText Tryd.prog 52 Tryd.f52 := ⟨Tryd.func52, rfl, by decide⟩
def pz53_l0 : PC := (.seq (.seq (.ops 1 0 [⟨some 5, .mov (.tmp 0), none⟩,
 ⟨some 6, .lenS (.tmp 5), none⟩,
 ⟨some 7, .bin .gtr (.tmp 6) (.const (.int .i64 0)), none⟩,
 ⟨some 8, .mov (.tmp 7), none⟩,
 ⟨some 9, .mov (.tmp 0), (some ((some 8), true))⟩,
 ⟨some 10, .mov (.tmp 0), (some ((some 8), true))⟩,
 ⟨some 11, .lenS (.tmp 10), (some ((some 8), true))⟩,
 ⟨some 12, .bin .sub (.tmp 11) (.const (.int .i64 1)), (some ((some 8), true))⟩,
 ⟨some 13, .indexS (.tmp 9) (.tmp 12), (some ((some 8), true))⟩,
 ⟨some 14, .mov (.tmp 1), (some ((some 8), true))⟩,
 ⟨some 15, .bin .eql (.tmp 13) (.tmp 14), (some ((some 8), true))⟩,
 ⟨some 16, .pick (.tmp 8) (.tmp 15) (.const (.bool false)), none⟩])
 (.cond (.tmp 16)
 .skip
 (.exit 0)))
 (.block 1
 (.ops 2 0 [⟨some 17, .mov (.tmp 0), none⟩,
 ⟨some 18, .mov (.tmp 0), none⟩,
 ⟨some 19, .lenS (.tmp 18), none⟩,
 ⟨some 20, .bin .sub (.tmp 19) (.const (.int .i64 1)), none⟩,
 ⟨some 21, .sliceS (.tmp 17) none (some (.tmp 20)), none⟩,
 ⟨some 0, .mov (.tmp 21), none⟩])))
def pz53 : PF := ⟨(.seq (.ops 0 0 [⟨some 4, .mov (.const (.string ⟨#[]⟩)), none⟩])
 (.seq (.block 0
 (.loop pz53_l0))
 (.seq (.ops 3 0 [⟨some 22, .mov (.tmp 0), none⟩,
 ⟨some 4, .mov (.tmp 22), none⟩])
 .ret))),
 23, [.tmp 4]⟩
theorem cz53 : compF Tryd.prog Q Tryd.f53 = some pz53 := by kernel_rfl
theorem htz53 : HasText Tryd.prog 53 Tryd.f53 := ⟨Tryd.func53, rfl, by decide⟩
def p60 : PF := ⟨(.seq (.ops 0 0 [⟨some 4, .mov (.const (.string ⟨#[]⟩)), none⟩,
 ⟨some 5, .mov (.const (.bool false)), none⟩])
 (.seq (.seq (.ops 1 0 [⟨some 6, .mov (.tmp 0), none⟩,
 ⟨some 7, .mov (.tmp 1), none⟩,
 ⟨some 8, .call (.func 74) [(.tmp 6), (.tmp 7)], none⟩,
 ⟨some 9, .un .not (.tmp 8), none⟩])
 (.cond (.tmp 9)
 (.seq (.ops 2 0 [⟨some 10, .mov (.tmp 0), none⟩,
 ⟨some 4, .mov (.tmp 10), none⟩,
 ⟨some 5, .mov (.const (.bool false)), none⟩])
 .ret)
 .skip))
 (.seq (.ops 3 0 [⟨some 11, .mov (.tmp 0), none⟩,
 ⟨some 12, .mov (.tmp 1), none⟩,
 ⟨some 13, .lenS (.tmp 12), none⟩,
 ⟨some 14, .sliceS (.tmp 11) (some (.tmp 13)) none, none⟩,
 ⟨some 4, .mov (.tmp 14), none⟩,
 ⟨some 5, .mov (.const (.bool true)), none⟩])
 .ret))),
 15, [.tmp 4, .tmp 5]⟩
theorem c60 : compF Tryd.prog Q Tryd.f57 = some p60 := by kernel_rfl
theorem ht60 : HasText Tryd.prog 57 Tryd.f57 := ⟨Tryd.func57, rfl, by decide⟩
def p61 : PF := ⟨(.seq (.ops 0 0 [⟨some 4, .mov (.const (.string ⟨#[]⟩)), none⟩,
 ⟨some 5, .mov (.const (.string ⟨#[]⟩)), none⟩,
 ⟨some 6, .mov (.const (.bool false)), none⟩])
 (.seq (.seq (.ops 1 0 [⟨some 8, .mov (.tmp 0), none⟩,
 ⟨some 9, .mov (.tmp 1), none⟩,
 ⟨some 10, .call (.func 82) [(.tmp 8), (.tmp 9)], none⟩,
 ⟨some 7, .mov (.tmp 10), none⟩])
 (.seq (.ops 2 0 [⟨some 11, .mov (.tmp 7), none⟩,
 ⟨some 12, .bin .geq (.tmp 11) (.const (.int .i64 0)), none⟩])
 (.cond (.tmp 12)
 (.seq (.ops 3 0 [⟨some 13, .mov (.tmp 0), none⟩,
 ⟨some 14, .mov (.tmp 7), none⟩,
 ⟨some 15, .sliceS (.tmp 13) none (some (.tmp 14)), none⟩,
 ⟨some 16, .mov (.tmp 0), none⟩,
 ⟨some 17, .mov (.tmp 7), none⟩,
 ⟨some 18, .mov (.tmp 1), none⟩,
 ⟨some 19, .lenS (.tmp 18), none⟩,
 ⟨some 20, .bin .add (.tmp 17) (.tmp 19), none⟩,
 ⟨some 21, .sliceS (.tmp 16) (some (.tmp 20)) none, none⟩,
 ⟨some 4, .mov (.tmp 15), none⟩,
 ⟨some 5, .mov (.tmp 21), none⟩,
 ⟨some 6, .mov (.const (.bool true)), none⟩])
 .ret)
 .skip)))
 (.seq (.ops 4 0 [⟨some 22, .mov (.tmp 0), none⟩,
 ⟨some 4, .mov (.tmp 22), none⟩,
 ⟨some 5, .mov (.const (.string ⟨#[]⟩)), none⟩,
 ⟨some 6, .mov (.const (.bool false)), none⟩])
 .ret))),
 23, [.tmp 4, .tmp 5, .tmp 6]⟩
theorem c61 : compF Tryd.prog Q Tryd.f58 = some p61 := by kernel_rfl
theorem ht61 : HasText Tryd.prog 58 Tryd.f58 := ⟨Tryd.func58, rfl, by decide⟩
def p62_l0 : PC := (.seq (.seq (.ops 1 0 [⟨some 5, .mov (.tmp 0), none⟩,
 ⟨some 6, .lenS (.tmp 5), none⟩,
 ⟨some 7, .bin .gtr (.tmp 6) (.const (.int .i64 0)), none⟩,
 ⟨some 8, .mov (.tmp 7), none⟩,
 ⟨some 9, .mov (.tmp 0), (some ((some 8), true))⟩,
 ⟨some 10, .indexS (.tmp 9) (.const (.int .i64 0)), (some ((some 8), true))⟩,
 ⟨some 11, .mov (.tmp 1), (some ((some 8), true))⟩,
 ⟨some 12, .bin .eql (.tmp 10) (.tmp 11), (some ((some 8), true))⟩,
 ⟨some 13, .pick (.tmp 8) (.tmp 12) (.const (.bool false)), none⟩])
 (.cond (.tmp 13)
 .skip
 (.exit 0)))
 (.block 1
 (.ops 2 0 [⟨some 14, .mov (.tmp 0), none⟩,
 ⟨some 15, .sliceS (.tmp 14) (some (.const (.int .i64 1))) none, none⟩,
 ⟨some 0, .mov (.tmp 15), none⟩])))
def p62 : PF := ⟨(.seq (.ops 0 0 [⟨some 4, .mov (.const (.string ⟨#[]⟩)), none⟩])
 (.seq (.block 0
 (.loop p62_l0))
 (.seq (.ops 3 0 [⟨some 16, .mov (.tmp 0), none⟩,
 ⟨some 4, .mov (.tmp 16), none⟩])
 .ret))),
 17, [.tmp 4]⟩
theorem c62 : compF Tryd.prog Q Tryd.f59 = some p62 := by kernel_rfl
theorem ht62 : HasText Tryd.prog 59 Tryd.f59 := ⟨Tryd.func59, rfl, by decide⟩
def p66_l0 : PC := (.seq (.ops 7 0 [⟨some 18, .bin .lss (.tmp 17) (.const (.int .i64 4)), none⟩])
 (.seq (.cond (.tmp 18)
 .skip
 (.exit 2))
 (.seq (.block 3
 (.seq (.ops 8 0 [⟨some 19, .mov (.tmp 17), none⟩,
 ⟨some 9, .mov (.tmp 19), none⟩])
 (.seq (.ops 9 0 [⟨some 21, .mov (.tmp 7), none⟩,
 ⟨some 22, .atA 4 1 (.tmp 2) (.tmp 21), none⟩,
 ⟨some 23, .load none (.tmp 22), none⟩,
 ⟨some 24, .mov (.tmp 9), none⟩,
 ⟨some 25, .atA 4 1 (.tmp 3) (.tmp 24), none⟩,
 ⟨some 26, .load none (.tmp 25), none⟩,
 ⟨some 27, .call (.func 84) [(.tmp 23), (.tmp 26)], none⟩,
 ⟨some 20, .mov (.tmp 27), none⟩,
 ⟨some 28, .extract (.tmp 20) 0, none⟩,
 ⟨some 29, .extract (.tmp 20) 1, none⟩,
 ⟨some 10, .mov (.tmp 28), none⟩,
 ⟨some 11, .mov (.tmp 29), none⟩])
 (.seq (.ops 10 0 [⟨some 31, .mov (.tmp 7), none⟩,
 ⟨some 32, .mov (.tmp 9), none⟩,
 ⟨some 33, .bin .add (.tmp 31) (.tmp 32), none⟩,
 ⟨some 34, .atA 8 1 (.tmp 6) (.tmp 33), none⟩,
 ⟨some 35, .load none (.tmp 34), none⟩,
 ⟨some 36, .mov (.tmp 11), none⟩,
 ⟨some 37, .mov (.tmp 8), none⟩,
 ⟨some 38, .call (.func 85) [(.tmp 35), (.tmp 36), (.tmp 37)], none⟩,
 ⟨some 30, .mov (.tmp 38), none⟩,
 ⟨some 39, .extract (.tmp 30) 0, none⟩,
 ⟨some 40, .extract (.tmp 30) 1, none⟩,
 ⟨some 12, .mov (.tmp 39), none⟩,
 ⟨some 13, .mov (.tmp 40), none⟩])
 (.seq (.ops 11 0 [⟨some 41, .mov (.tmp 7), none⟩,
 ⟨some 42, .mov (.tmp 9), none⟩,
 ⟨some 43, .bin .add (.tmp 41) (.tmp 42), none⟩,
 ⟨some 44, .mov (.tmp 12), none⟩,
 ⟨some 45, .atA 8 1 (.tmp 6) (.tmp 43), none⟩,
 ⟨none, .store 1 (.tmp 45) (.tmp 44), none⟩])
 (.ops 12 0 [⟨some 46, .mov (.tmp 10), none⟩,
 ⟨some 47, .mov (.tmp 13), none⟩,
 ⟨some 48, .bin .add (.tmp 46) (.tmp 47), none⟩,
 ⟨some 8, .mov (.tmp 48), none⟩]))))))
 (.ops 13 0 [⟨some 49, .bin .add (.tmp 17) (.const (.int .i64 1)), none⟩,
 ⟨some 17, .mov (.tmp 49), none⟩]))))
def p66_l1 : PC := (.seq (.ops 3 0 [⟨some 15, .bin .lss (.tmp 14) (.const (.int .i64 4)), none⟩])
 (.seq (.cond (.tmp 15)
 .skip
 (.exit 0))
 (.seq (.block 1
 (.seq (.ops 4 0 [⟨some 16, .mov (.tmp 14), none⟩,
 ⟨some 7, .mov (.tmp 16), none⟩])
 (.seq (.ops 5 0 [⟨some 8, .mov (.const (.int .u64 0)), none⟩])
 (.seq (.seq (.ops 6 0 [⟨some 17, .mov (.const (.int .i64 0)), none⟩])
 (.block 2
 (.loop p66_l0)))
 (.ops 14 0 [⟨some 50, .mov (.tmp 7), none⟩,
 ⟨some 51, .bin .add (.tmp 50) (.const (.int .i64 4)), none⟩,
 ⟨some 52, .mov (.tmp 8), none⟩,
 ⟨some 53, .atA 8 1 (.tmp 6) (.tmp 51), none⟩,
 ⟨none, .store 1 (.tmp 53) (.tmp 52), none⟩])))))
 (.ops 15 0 [⟨some 54, .bin .add (.tmp 14) (.const (.int .i64 1)), none⟩,
 ⟨some 14, .mov (.tmp 54), none⟩]))))
def p66 : PF := ⟨(.seq (.ops 0 4 [⟨some 2, .box 24 (.tmp 0), none⟩,
 ⟨some 3, .box 24 (.tmp 1), none⟩,
 ⟨some 4, .alloc 24 (.agg [(.int .u64 0), (.int .u64 0), (.int .u64 0), (.int .u64 0)]), none⟩,
 ⟨some 5, .alloc 24 (.agg [(.int .u64 0), (.int .u64 0), (.int .u64 0), (.int .u64 0)]), none⟩])
 (.seq (.ops 1 1 [⟨some 6, .alloc 106 (.agg [(.int .u64 0), (.int .u64 0), (.int .u64 0), (.int .u64 0), (.int .u64 0), (.int .u64 0), (.int .u64 0), (.int .u64 0)]), none⟩])
 (.seq (.seq (.ops 2 0 [⟨some 14, .mov (.const (.int .i64 0)), none⟩])
 (.block 0
 (.loop p66_l1)))
 (.seq (.ops2 16 0 [5] [⟨some 55, .sliceA 8 1 (.tmp 6) (some (.const (.int .i64 4))) none, none⟩,
 ⟨some 56, .toArr 4 (.tmp 55), none⟩,
 ⟨some 57, .load (some 4) (.tmp 56), none⟩,
 ⟨some 58, .sliceA 8 1 (.tmp 6) none (some (.const (.int .i64 4))), none⟩,
 ⟨some 59, .toArr 4 (.tmp 58), none⟩,
 ⟨some 60, .load (some 4) (.tmp 59), none⟩,
 ⟨none, .store 4 (.tmp 4) (.tmp 57), none⟩,
 ⟨none, .store 4 (.tmp 5) (.tmp 60), none⟩] [])
 .ret)))),
 61, [.cell 4 24, .cell 5 24]⟩
theorem c66 : compF Tryd.prog Q Tryd.f62 = some p66 := by kernel_rfl
theorem ht66 : HasText Tryd.prog 62 Tryd.f62 := ⟨Tryd.func62, rfl, by decide⟩
def p67 : PF := ⟨(.seq (.ops 0 1 [⟨some 2, .alloc 24 (.agg [(.int .u64 0), (.int .u64 0), (.int .u64 0), (.int .u64 0)]), none⟩])
 (.seq (.ops 1 0 [⟨some 3, .mov (.tmp 0), none⟩,
 ⟨some 4, .build [(.int .u64 0), (.int .u64 0), (.int .u64 0), (.int .u64 0)] [((0, 1), (.tmp 3))], none⟩,
 ⟨none, .store 4 (.tmp 2) (.tmp 4), none⟩])
 .ret)),
 5, [.cell 2 24]⟩
theorem c67 : compF Tryd.prog Q Tryd.f63 = some p67 := by kernel_rfl
theorem ht67 : HasText Tryd.prog 63 Tryd.f63 := ⟨Tryd.func63, rfl, by decide⟩
def p68_l0 : PC := (.seq (.ops 4 0 [⟨some 10, .bin .lss (.tmp 9) (.const (.int .i64 4)), none⟩])
 (.seq (.cond (.tmp 10)
 .skip
 (.exit 0))
 (.seq (.block 1
 (.seq (.ops 5 0 [⟨some 11, .mov (.tmp 9), none⟩,
 ⟨some 8, .mov (.tmp 11), none⟩])
 (.ops 6 0 [⟨some 13, .mov (.tmp 8), none⟩,
 ⟨some 14, .mov (.tmp 8), none⟩,
 ⟨some 15, .atA 4 1 (.tmp 2) (.tmp 14), none⟩,
 ⟨some 16, .load none (.tmp 15), none⟩,
 ⟨some 17, .mov (.tmp 8), none⟩,
 ⟨some 18, .atA 4 1 (.tmp 3) (.tmp 17), none⟩,
 ⟨some 19, .load none (.tmp 18), none⟩,
 ⟨some 20, .mov (.tmp 7), none⟩,
 ⟨some 21, .call (.func 85) [(.tmp 16), (.tmp 19), (.tmp 20)], none⟩,
 ⟨some 12, .mov (.tmp 21), none⟩,
 ⟨some 22, .extract (.tmp 12) 0, none⟩,
 ⟨some 23, .extract (.tmp 12) 1, none⟩,
 ⟨some 24, .atA 4 1 (.tmp 6) (.tmp 13), none⟩,
 ⟨none, .store 1 (.tmp 24) (.tmp 22), none⟩,
 ⟨some 7, .mov (.tmp 23), none⟩])))
 (.ops 7 0 [⟨some 25, .bin .add (.tmp 9) (.const (.int .i64 1)), none⟩,
 ⟨some 9, .mov (.tmp 25), none⟩]))))
def p68 : PF := ⟨(.seq (.ops 0 3 [⟨some 2, .box 24 (.tmp 0), none⟩,
 ⟨some 3, .box 24 (.tmp 1), none⟩,
 ⟨some 4, .alloc 24 (.agg [(.int .u64 0), (.int .u64 0), (.int .u64 0), (.int .u64 0)]), none⟩,
 ⟨some 5, .mov (.const (.bool false)), none⟩])
 (.seq (.ops 1 1 [⟨some 6, .alloc 24 (.agg [(.int .u64 0), (.int .u64 0), (.int .u64 0), (.int .u64 0)]), none⟩])
 (.seq (.ops 2 0 [⟨some 7, .mov (.const (.int .u64 0)), none⟩])
 (.seq (.seq (.ops 3 0 [⟨some 9, .mov (.const (.int .i64 0)), none⟩])
 (.block 0
 (.loop p68_l0)))
 (.seq (.ops 8 0 [⟨some 26, .load (some 4) (.tmp 6), none⟩,
 ⟨some 27, .mov (.tmp 7), none⟩,
 ⟨some 28, .bin .gtr (.tmp 27) (.const (.int .u64 0)), none⟩,
 ⟨none, .store 4 (.tmp 4) (.tmp 26), none⟩,
 ⟨some 5, .mov (.tmp 28), none⟩])
 .ret))))),
 29, [.cell 4 24, .tmp 5]⟩
theorem c68 : compF Tryd.prog Q Tryd.f64 = some p68 := by kernel_rfl
theorem ht68 : HasText Tryd.prog 64 Tryd.f64 := ⟨Tryd.func64, rfl, by decide⟩
def p70 : PF := ⟨(.seq (.ops 0 1 [⟨some 2, .alloc 24 (.agg [(.int .u64 0), (.int .u64 0), (.int .u64 0), (.int .u64 0)]), none⟩])
 (.seq (.ops 1 0 [⟨some 3, .mov (.tmp 0), none⟩,
 ⟨some 4, .build [(.int .u64 0), (.int .u64 0), (.int .u64 0), (.int .u64 0)] [((0, 1), (.tmp 3)), ((1, 1), (.const (.int .u64 0))), ((2, 1), (.const (.int .u64 0))), ((3, 1), (.const (.int .u64 0)))], none⟩,
 ⟨none, .store 4 (.tmp 2) (.tmp 4), none⟩])
 .ret)),
 5, [.cell 2 24]⟩
def pz67 : PF := ⟨(.seq (.ops 0 0 [⟨some 4, .mov (.const (.int .i64 0)), none⟩])
 (.seq (.block 0
 (.seq (.ops 1 0 [⟨some 6, .mov (.tmp 0), none⟩,
 ⟨some 7, .bin .lss (.tmp 6) (.const (.int .i64 0)), none⟩,
 ⟨some 8, .mov (.tmp 7), none⟩,
 ⟨some 9, .mov (.tmp 0), (some ((some 8), false))⟩,
 ⟨some 10, .bin .gtr (.tmp 9) (.const (.int .i64 18)), (some ((some 8), false))⟩,
 ⟨some 11, .pick (.tmp 8) (.const (.bool true)) (.tmp 10), none⟩,
 ⟨some 5, .mov (.tmp 11), none⟩])
 (.cond (.tmp 5)
 (.seq (.ops 2 0 [⟨some 4, .mov (.const (.int .i64 21)), none⟩])
 .ret)
 (.seq (.ops 3 0 [⟨some 13, .mov (.tmp 1), none⟩,
 ⟨some 14, .bin .lss (.tmp 13) (.const (.int .i64 1)), none⟩,
 ⟨some 15, .mov (.tmp 14), none⟩,
 ⟨some 16, .mov (.tmp 1), (some ((some 15), false))⟩,
 ⟨some 17, .bin .gtr (.tmp 16) (.const (.int .i64 5)), (some ((some 15), false))⟩,
 ⟨some 18, .pick (.tmp 15) (.const (.bool true)) (.tmp 17), none⟩,
 ⟨some 12, .mov (.tmp 18), none⟩])
 (.cond (.tmp 12)
 (.seq (.ops 4 0 [⟨some 4, .mov (.const (.int .i64 22)), none⟩])
 .ret)
 .skip)))))
 (.seq (.ops 5 0 [⟨some 4, .mov (.const (.int .i64 0)), none⟩])
 .ret))),
 19, [.tmp 4]⟩
theorem cz67 : compF Tryd.prog Q Tryd.f67 = some pz67 := by kernel_rfl
theorem htz67 : HasText Tryd.prog 67 Tryd.f67 := ⟨Tryd.func67, rfl, by decide⟩
def pz68 : PF := ⟨(.seq (.ops 0 2 [⟨some 6, .box 62 (.tmp 1), none⟩,
 ⟨some 10, .alloc 26 (.agg [(.bool false), (.int .u64 0), (.int .u64 0), (.int .u64 0), (.int .u64 0), (.int .i64 0)]), none⟩,
 ⟨some 11, .mov (.const (.int .i64 0)), none⟩])
 (.seq (.seq (.ops 1 0 [⟨some 18, .mov (.tmp 3), none⟩,
 ⟨some 19, .mov (.tmp 2), none⟩,
 ⟨some 20, .bin .geq (.tmp 18) (.tmp 19), none⟩])
 (.cond (.tmp 20)
 (.seq (.seq (.ops 2 0 [⟨some 21, .fieldAddr 0 (.tmp 6), none⟩,
 ⟨some 22, .load (some 4) (.tmp 21), none⟩,
 ⟨some 23, .build [(.int .u64 0), (.int .u64 0), (.int .u64 0), (.int .u64 0)] [], none⟩,
 ⟨some 24, .cmp true 24 (.tmp 22) (.tmp 23), none⟩])
 (.cond (.tmp 24)
 (.seq (.ops 3 0 [⟨some 25, .build [(.bool false), (.int .u64 0), (.int .u64 0), (.int .u64 0), (.int .u64 0), (.int .i64 0)] [], none⟩,
 ⟨none, .store 6 (.tmp 10) (.tmp 25), none⟩,
 ⟨some 11, .mov (.const (.int .i64 7)), none⟩])
 .ret)
 .skip))
 (.seq (.ops 4 0 [⟨some 26, .mov (.tmp 0), none⟩,
 ⟨some 27, .fieldAddr 4 (.tmp 6), none⟩,
 ⟨some 28, .load (some 4) (.tmp 27), none⟩,
 ⟨some 29, .mov (.tmp 3), none⟩,
 ⟨some 30, .mov (.tmp 2), none⟩,
 ⟨some 31, .bin .sub (.tmp 29) (.tmp 30), none⟩,
 ⟨some 32, .call (.func 42) [(.tmp 28), (.tmp 31)], none⟩,
 ⟨some 33, .mov (.tmp 3), none⟩,
 ⟨some 34, .call (.func 86) [(.tmp 26), (.tmp 32), (.tmp 33)], none⟩,
 ⟨some 35, .extract (.tmp 34) 0, none⟩,
 ⟨some 36, .extract (.tmp 34) 1, none⟩,
 ⟨none, .store 6 (.tmp 10) (.tmp 35), none⟩,
 ⟨some 11, .mov (.tmp 36), none⟩])
 .ret))
 .skip))
 (.seq (.ops 5 1 [⟨some 38, .mov (.tmp 2), none⟩,
 ⟨some 39, .mov (.tmp 3), none⟩,
 ⟨some 40, .bin .sub (.tmp 38) (.tmp 39), none⟩,
 ⟨some 41, .call (.func 71) [(.tmp 40)], none⟩,
 ⟨some 37, .mov (.tmp 41), none⟩,
 ⟨some 42, .extract (.tmp 37) 0, none⟩,
 ⟨some 43, .extract (.tmp 37) 1, none⟩,
 ⟨some 12, .alloc 24 (.agg [(.int .u64 0), (.int .u64 0), (.int .u64 0), (.int .u64 0)]), none⟩,
 ⟨none, .store 4 (.tmp 12) (.tmp 42), none⟩,
 ⟨some 13, .mov (.tmp 43), none⟩])
 (.seq (.ops 6 2 [⟨some 45, .fieldAddr 0 (.tmp 6), none⟩,
 ⟨some 46, .load (some 4) (.tmp 45), none⟩,
 ⟨some 47, .fieldAddr 4 (.tmp 6), none⟩,
 ⟨some 48, .load (some 4) (.tmp 47), none⟩,
 ⟨some 49, .load (some 4) (.tmp 12), none⟩,
 ⟨some 50, .call (.func 87) [(.tmp 46), (.tmp 48), (.tmp 49)], none⟩,
 ⟨some 44, .mov (.tmp 50), none⟩,
 ⟨some 51, .extract (.tmp 44) 0, none⟩,
 ⟨some 52, .extract (.tmp 44) 1, none⟩,
 ⟨some 53, .extract (.tmp 44) 2, none⟩,
 ⟨some 14, .alloc 24 (.agg [(.int .u64 0), (.int .u64 0), (.int .u64 0), (.int .u64 0)]), none⟩,
 ⟨some 15, .alloc 24 (.agg [(.int .u64 0), (.int .u64 0), (.int .u64 0), (.int .u64 0)]), none⟩,
 ⟨none, .store 4 (.tmp 14) (.tmp 51), none⟩,
 ⟨none, .store 4 (.tmp 15) (.tmp 52), none⟩,
 ⟨some 16, .mov (.tmp 53), none⟩])
 (.seq (.seq (.ops 7 0 [⟨some 54, .mov (.tmp 16), none⟩,
 ⟨some 55, .un .not (.tmp 54), none⟩])
 (.cond (.tmp 55)
 (.seq (.ops 8 0 [⟨some 56, .build [(.bool false), (.int .u64 0), (.int .u64 0), (.int .u64 0), (.int .u64 0), (.int .i64 0)] [], none⟩,
 ⟨none, .store 6 (.tmp 10) (.tmp 56), none⟩,
 ⟨some 11, .mov (.const (.int .i64 7)), none⟩])
 .ret)
 .skip))
 (.seq (.ops 9 1 [⟨some 57, .load (some 4) (.tmp 14), none⟩,
 ⟨some 58, .build [(.int .u64 0), (.int .u64 0), (.int .u64 0), (.int .u64 0), (.int .u64 0), (.int .u64 0), (.int .u64 0), (.int .u64 0)] [((4, 4), (.tmp 57))], none⟩,
 ⟨some 17, .alloc 62 (.agg [(.int .u64 0), (.int .u64 0), (.int .u64 0), (.int .u64 0), (.int .u64 0), (.int .u64 0), (.int .u64 0), (.int .u64 0)]), none⟩,
 ⟨none, .store 8 (.tmp 17) (.tmp 58), none⟩])
 (.seq (.seq (.ops 10 0 [⟨some 59, .mov (.tmp 4), none⟩,
 ⟨some 60, .mov (.tmp 0), none⟩,
 ⟨some 61, .load (some 4) (.tmp 14), none⟩,
 ⟨some 62, .load (some 4) (.tmp 15), none⟩,
 ⟨some 63, .load (some 4) (.tmp 12), none⟩,
 ⟨some 64, .call (.func 88) [(.tmp 59), (.tmp 60), (.tmp 61), (.tmp 62), (.tmp 63)], none⟩])
 (.cond (.tmp 64)
 (.ops 11 0 [⟨some 65, .load (some 8) (.tmp 17), none⟩,
 ⟨some 66, .call (.func 63) [(.const (.int .u64 1))], none⟩,
 ⟨some 67, .build [(.int .u64 0), (.int .u64 0), (.int .u64 0), (.int .u64 0), (.int .u64 0), (.int .u64 0), (.int .u64 0), (.int .u64 0)] [((4, 4), (.tmp 66))], none⟩,
 ⟨some 68, .call (.func 89) [(.tmp 65), (.tmp 67)], none⟩,
 ⟨none, .store 8 (.tmp 17) (.tmp 68), none⟩])
 .skip))
 (.seq (.ops 12 0 [⟨some 69, .mov (.tmp 0), none⟩,
 ⟨some 70, .load (some 8) (.tmp 17), none⟩,
 ⟨some 71, .mov (.tmp 3), none⟩,
 ⟨some 72, .call (.func 86) [(.tmp 69), (.tmp 70), (.tmp 71)], none⟩,
 ⟨some 73, .extract (.tmp 72) 0, none⟩,
 ⟨some 74, .extract (.tmp 72) 1, none⟩,
 ⟨none, .store 6 (.tmp 10) (.tmp 73), none⟩,
 ⟨some 11, .mov (.tmp 74), none⟩])
 .ret)))))))),
 75, [.cell 10 26, .tmp 11]⟩
theorem cz68 : compF Tryd.prog Q Tryd.f68 = some pz68 := by kernel_rfl
theorem htz68 : HasText Tryd.prog 68 Tryd.f68 := ⟨Tryd.func68, rfl, by decide⟩
def pz70_l0 : PC := (.seq (.seq (.ops 2 0 [⟨some 6, .mov (.tmp 5), none⟩,
 ⟨some 7, .bin .geq (.tmp 6) (.const (.int .i64 0)), none⟩])
 (.cond (.tmp 7)
 .skip
 (.exit 0)))
 (.seq (.block 1
 (.seq (.ops 4 0 [⟨some 10, .mov (.tmp 5), none⟩,
 ⟨some 11, .atA 4 1 (.tmp 2) (.tmp 10), none⟩,
 ⟨some 12, .load none (.tmp 11), none⟩,
 ⟨some 13, .mov (.tmp 5), none⟩,
 ⟨some 14, .atA 4 1 (.tmp 3) (.tmp 13), none⟩,
 ⟨some 15, .load none (.tmp 14), none⟩,
 ⟨some 16, .bin .neq (.tmp 12) (.tmp 15), none⟩])
 (.cond (.tmp 16)
 (.seq (.seq (.ops 5 0 [⟨some 17, .mov (.tmp 5), none⟩,
 ⟨some 18, .atA 4 1 (.tmp 2) (.tmp 17), none⟩,
 ⟨some 19, .load none (.tmp 18), none⟩,
 ⟨some 20, .mov (.tmp 5), none⟩,
 ⟨some 21, .atA 4 1 (.tmp 3) (.tmp 20), none⟩,
 ⟨some 22, .load none (.tmp 21), none⟩,
 ⟨some 23, .bin .lss (.tmp 19) (.tmp 22), none⟩])
 (.cond (.tmp 23)
 (.seq (.ops 6 0 [⟨some 4, .mov (.const (.int .i64 (-1))), none⟩])
 .ret)
 .skip))
 (.seq (.ops 7 0 [⟨some 4, .mov (.const (.int .i64 1)), none⟩])
 .ret))
 .skip)))
 (.ops 3 0 [⟨some 8, .mov (.tmp 5), none⟩,
 ⟨some 9, .bin .sub (.tmp 8) (.const (.int .i64 1)), none⟩,
 ⟨some 5, .mov (.tmp 9), none⟩])))
def pz70 : PF := ⟨(.seq (.ops 0 2 [⟨some 2, .box 24 (.tmp 0), none⟩,
 ⟨some 3, .box 24 (.tmp 1), none⟩,
 ⟨some 4, .mov (.const (.int .i64 0)), none⟩])
 (.seq (.seq (.ops 1 0 [⟨some 5, .mov (.const (.int .i64 3)), none⟩])
 (.block 0
 (.loop pz70_l0)))
 (.seq (.ops 8 0 [⟨some 4, .mov (.const (.int .i64 0)), none⟩])
 .ret))),
 24, [.tmp 4]⟩
theorem cz70 : compF Tryd.prog Q Tryd.f70 = some pz70 := by kernel_rfl
theorem htz70 : HasText Tryd.prog 70 Tryd.f70 := ⟨Tryd.func70, rfl, by decide⟩
def pz71_l0 : PC := (.seq (.ops 5 0 [⟨some 15, .bin .lss (.tmp 14) (.tmp 13), none⟩])
 (.seq (.cond (.tmp 15)
 .skip
 (.exit 0))
 (.seq (.block 1
 (.ops 6 0 [⟨some 17, .load (some 4) (.tmp 4), none⟩,
 ⟨some 18, .call (.func 63) [(.const (.int .u64 10))], none⟩,
 ⟨some 19, .call (.func 62) [(.tmp 17), (.tmp 18)], none⟩,
 ⟨some 16, .mov (.tmp 19), none⟩,
 ⟨some 20, .extract (.tmp 16) 0, none⟩,
 ⟨some 21, .extract (.tmp 16) 1, none⟩,
 ⟨none, .store 4 (.tmp 4) (.tmp 21), none⟩]))
 (.ops 7 0 [⟨some 22, .bin .add (.tmp 14) (.const (.int .i64 1)), none⟩,
 ⟨some 14, .mov (.tmp 22), none⟩]))))
def pz71 : PF := ⟨(.seq (.ops 0 1 [⟨some 2, .alloc 24 (.agg [(.int .u64 0), (.int .u64 0), (.int .u64 0), (.int .u64 0)]), none⟩,
 ⟨some 3, .mov (.const (.bool false)), none⟩])
 (.seq (.seq (.ops 1 0 [⟨some 5, .mov (.tmp 0), none⟩,
 ⟨some 6, .bin .lss (.tmp 5) (.const (.int .i64 0)), none⟩,
 ⟨some 7, .mov (.tmp 6), none⟩,
 ⟨some 8, .mov (.tmp 0), (some ((some 7), false))⟩,
 ⟨some 9, .bin .gtr (.tmp 8) (.const (.int .i64 77)), (some ((some 7), false))⟩,
 ⟨some 10, .pick (.tmp 7) (.const (.bool true)) (.tmp 9), none⟩])
 (.cond (.tmp 10)
 (.seq (.ops 2 0 [⟨some 11, .build [(.int .u64 0), (.int .u64 0), (.int .u64 0), (.int .u64 0)] [], none⟩,
 ⟨none, .store 4 (.tmp 2) (.tmp 11), none⟩,
 ⟨some 3, .mov (.const (.bool false)), none⟩])
 .ret)
 .skip))
 (.seq (.ops 3 1 [⟨some 12, .call (.func 63) [(.const (.int .u64 1))], none⟩,
 ⟨some 4, .alloc 24 (.agg [(.int .u64 0), (.int .u64 0), (.int .u64 0), (.int .u64 0)]), none⟩,
 ⟨none, .store 4 (.tmp 4) (.tmp 12), none⟩])
 (.seq (.seq (.ops 4 0 [⟨some 13, .mov (.tmp 0), none⟩,
 ⟨some 14, .mov (.const (.int .i64 0)), none⟩])
 (.block 0
 (.loop pz71_l0)))
 (.seq (.ops 8 0 [⟨some 23, .load (some 4) (.tmp 4), none⟩,
 ⟨none, .store 4 (.tmp 2) (.tmp 23), none⟩,
 ⟨some 3, .mov (.const (.bool true)), none⟩])
 .ret))))),
 24, [.cell 2 24, .tmp 3]⟩
theorem cz71 : compF Tryd.prog Q Tryd.f71 = some pz71 := by kernel_rfl
theorem htz71 : HasText Tryd.prog 71 Tryd.f71 := ⟨Tryd.func71, rfl, by decide⟩
def pz73 : PF := ⟨(.seq (.ops 0 0 [⟨some 4, .mov (.const (.int .u64 0)), none⟩,
 ⟨some 5, .mov (.const (.int .u64 0)), none⟩])
 (.seq (.ops 1 0 [⟨some 14, .mov (.tmp 0), none⟩,
 ⟨some 15, .bin .and (.tmp 14) (.const (.int .u64 4294967295)), none⟩,
 ⟨some 6, .mov (.tmp 15), none⟩])
 (.seq (.ops 2 0 [⟨some 16, .mov (.tmp 0), none⟩,
 ⟨some 17, .bin .shr (.tmp 16) (.const (.int .u64 32)), none⟩,
 ⟨some 7, .mov (.tmp 17), none⟩])
 (.seq (.ops 3 0 [⟨some 18, .mov (.tmp 1), none⟩,
 ⟨some 19, .bin .and (.tmp 18) (.const (.int .u64 4294967295)), none⟩,
 ⟨some 8, .mov (.tmp 19), none⟩])
 (.seq (.ops 4 0 [⟨some 20, .mov (.tmp 1), none⟩,
 ⟨some 21, .bin .shr (.tmp 20) (.const (.int .u64 32)), none⟩,
 ⟨some 9, .mov (.tmp 21), none⟩])
 (.seq (.ops 5 0 [⟨some 22, .mov (.tmp 6), none⟩,
 ⟨some 23, .mov (.tmp 8), none⟩,
 ⟨some 24, .bin .mul (.tmp 22) (.tmp 23), none⟩,
 ⟨some 10, .mov (.tmp 24), none⟩])
 (.seq (.ops 6 0 [⟨some 25, .mov (.tmp 7), none⟩,
 ⟨some 26, .mov (.tmp 8), none⟩,
 ⟨some 27, .bin .mul (.tmp 25) (.tmp 26), none⟩,
 ⟨some 28, .mov (.tmp 10), none⟩,
 ⟨some 29, .bin .shr (.tmp 28) (.const (.int .u64 32)), none⟩,
 ⟨some 30, .bin .add (.tmp 27) (.tmp 29), none⟩,
 ⟨some 11, .mov (.tmp 30), none⟩])
 (.seq (.ops 7 0 [⟨some 31, .mov (.tmp 11), none⟩,
 ⟨some 32, .bin .and (.tmp 31) (.const (.int .u64 4294967295)), none⟩,
 ⟨some 12, .mov (.tmp 32), none⟩])
 (.seq (.ops 8 0 [⟨some 33, .mov (.tmp 11), none⟩,
 ⟨some 34, .bin .shr (.tmp 33) (.const (.int .u64 32)), none⟩,
 ⟨some 13, .mov (.tmp 34), none⟩])
 (.seq (.ops 9 0 [⟨some 35, .mov (.tmp 12), none⟩,
 ⟨some 36, .mov (.tmp 6), none⟩,
 ⟨some 37, .mov (.tmp 9), none⟩,
 ⟨some 38, .bin .mul (.tmp 36) (.tmp 37), none⟩,
 ⟨some 39, .bin .add (.tmp 35) (.tmp 38), none⟩,
 ⟨some 12, .mov (.tmp 39), none⟩])
 (.seq (.ops 10 0 [⟨some 40, .mov (.tmp 7), none⟩,
 ⟨some 41, .mov (.tmp 9), none⟩,
 ⟨some 42, .bin .mul (.tmp 40) (.tmp 41), none⟩,
 ⟨some 43, .mov (.tmp 13), none⟩,
 ⟨some 44, .bin .add (.tmp 42) (.tmp 43), none⟩,
 ⟨some 45, .mov (.tmp 12), none⟩,
 ⟨some 46, .bin .shr (.tmp 45) (.const (.int .u64 32)), none⟩,
 ⟨some 47, .bin .add (.tmp 44) (.tmp 46), none⟩,
 ⟨some 4, .mov (.tmp 47), none⟩])
 (.seq (.ops 11 0 [⟨some 48, .mov (.tmp 0), none⟩,
 ⟨some 49, .mov (.tmp 1), none⟩,
 ⟨some 50, .bin .mul (.tmp 48) (.tmp 49), none⟩,
 ⟨some 5, .mov (.tmp 50), none⟩])
 .ret)))))))))))),
 51, [.tmp 4, .tmp 5]⟩
theorem cz73 : compF Tryd.prog Q Tryd.f73 = some pz73 := by kernel_rfl
theorem htz73 : HasText Tryd.prog 73 Tryd.f73 := ⟨Tryd.func73, rfl, by decide⟩
def pz78 : PF := ⟨(.seq (.ops 0 0 [⟨some 4, .mov (.const (.bool false)), none⟩])
 (.seq (.ops 1 0 [⟨some 5, .mov (.tmp 0), none⟩,
 ⟨some 6, .lenS (.tmp 5), none⟩,
 ⟨some 7, .mov (.tmp 1), none⟩,
 ⟨some 8, .lenS (.tmp 7), none⟩,
 ⟨some 9, .bin .geq (.tmp 6) (.tmp 8), none⟩,
 ⟨some 10, .mov (.tmp 9), none⟩,
 ⟨some 11, .mov (.tmp 0), (some ((some 10), true))⟩,
 ⟨some 12, .mov (.tmp 0), (some ((some 10), true))⟩,
 ⟨some 13, .lenS (.tmp 12), (some ((some 10), true))⟩,
 ⟨some 14, .mov (.tmp 1), (some ((some 10), true))⟩,
 ⟨some 15, .lenS (.tmp 14), (some ((some 10), true))⟩,
 ⟨some 16, .bin .sub (.tmp 13) (.tmp 15), (some ((some 10), true))⟩,
 ⟨some 17, .sliceS (.tmp 11) (some (.tmp 16)) none, (some ((some 10), true))⟩,
 ⟨some 18, .mov (.tmp 1), (some ((some 10), true))⟩,
 ⟨some 19, .bin .eql (.tmp 17) (.tmp 18), (some ((some 10), true))⟩,
 ⟨some 20, .pick (.tmp 10) (.tmp 19) (.const (.bool false)), none⟩,
 ⟨some 4, .mov (.tmp 20), none⟩])
 .ret)),
 21, [.tmp 4]⟩
theorem cz78 : compF Tryd.prog Q Tryd.f78 = some pz78 := by kernel_rfl
theorem htz78 : HasText Tryd.prog 78 Tryd.f78 := ⟨Tryd.func78, rfl, by decide⟩
theorem ht73 : HasText Tryd.prog 82 Tryd.f82 := ⟨Tryd.func82, rfl, by decide⟩
def p77 : PF := ⟨(.seq (.ops 0 0 [⟨some 4, .mov (.const (.int .u64 0)), none⟩,
 ⟨some 5, .mov (.const (.int .u64 0)), none⟩])
 (.seq (.ops 1 0 [⟨some 12, .mov (.tmp 0), none⟩,
 ⟨some 13, .bin .shr (.tmp 12) (.const (.int .u64 32)), none⟩,
 ⟨some 14, .mov (.tmp 1), none⟩,
 ⟨some 15, .bin .shr (.tmp 14) (.const (.int .u64 32)), none⟩,
 ⟨some 16, .bin .mul (.tmp 13) (.tmp 15), none⟩,
 ⟨some 17, .mov (.tmp 0), none⟩,
 ⟨some 18, .bin .shr (.tmp 17) (.const (.int .u64 32)), none⟩,
 ⟨some 19, .mov (.tmp 1), none⟩,
 ⟨some 20, .bin .and (.tmp 19) (.const (.int .u64 4294967295)), none⟩,
 ⟨some 21, .bin .mul (.tmp 18) (.tmp 20), none⟩,
 ⟨some 22, .mov (.tmp 0), none⟩,
 ⟨some 23, .bin .and (.tmp 22) (.const (.int .u64 4294967295)), none⟩,
 ⟨some 24, .mov (.tmp 1), none⟩,
 ⟨some 25, .bin .shr (.tmp 24) (.const (.int .u64 32)), none⟩,
 ⟨some 26, .bin .mul (.tmp 23) (.tmp 25), none⟩,
 ⟨some 27, .mov (.tmp 0), none⟩,
 ⟨some 28, .bin .and (.tmp 27) (.const (.int .u64 4294967295)), none⟩,
 ⟨some 29, .mov (.tmp 1), none⟩,
 ⟨some 30, .bin .and (.tmp 29) (.const (.int .u64 4294967295)), none⟩,
 ⟨some 31, .bin .mul (.tmp 28) (.tmp 30), none⟩,
 ⟨some 6, .mov (.tmp 16), none⟩,
 ⟨some 7, .mov (.tmp 21), none⟩,
 ⟨some 8, .mov (.tmp 26), none⟩,
 ⟨some 9, .mov (.tmp 31), none⟩])
 (.seq (.ops 2 0 [⟨some 32, .mov (.tmp 7), none⟩,
 ⟨some 33, .mov (.tmp 9), none⟩,
 ⟨some 34, .bin .shr (.tmp 33) (.const (.int .u64 32)), none⟩,
 ⟨some 35, .bin .add (.tmp 32) (.tmp 34), none⟩,
 ⟨some 10, .mov (.tmp 35), none⟩])
 (.seq (.ops 3 0 [⟨some 36, .mov (.tmp 8), none⟩,
 ⟨some 37, .mov (.tmp 10), none⟩,
 ⟨some 38, .bin .and (.tmp 37) (.const (.int .u64 4294967295)), none⟩,
 ⟨some 39, .bin .add (.tmp 36) (.tmp 38), none⟩,
 ⟨some 11, .mov (.tmp 39), none⟩])
 (.seq (.ops 4 0 [⟨some 40, .mov (.tmp 6), none⟩,
 ⟨some 41, .mov (.tmp 10), none⟩,
 ⟨some 42, .bin .shr (.tmp 41) (.const (.int .u64 32)), none⟩,
 ⟨some 43, .bin .add (.tmp 40) (.tmp 42), none⟩,
 ⟨some 44, .mov (.tmp 11), none⟩,
 ⟨some 45, .bin .shr (.tmp 44) (.const (.int .u64 32)), none⟩,
 ⟨some 46, .bin .add (.tmp 43) (.tmp 45), none⟩,
 ⟨some 47, .mov (.tmp 11), none⟩,
 ⟨some 48, .bin .shl (.tmp 47) (.const (.int .u64 32)), none⟩,
 ⟨some 49, .mov (.tmp 9), none⟩,
 ⟨some 50, .bin .and (.tmp 49) (.const (.int .u64 4294967295)), none⟩,
 ⟨some 51, .bin .or (.tmp 48) (.tmp 50), none⟩,
 ⟨some 4, .mov (.tmp 46), none⟩,
 ⟨some 5, .mov (.tmp 51), none⟩])
 .ret))))),
 52, [.tmp 4, .tmp 5]⟩
theorem c77 : compF Tryd.prog Q Tryd.f84 = some p77 := by kernel_rfl
theorem ht77 : HasText Tryd.prog 84 Tryd.f84 := ⟨Tryd.func84, rfl, by decide⟩
def p78 : PF := ⟨(.seq (.ops 0 0 [⟨some 6, .mov (.const (.int .u64 0)), none⟩,
 ⟨some 7, .mov (.const (.int .u64 0)), none⟩])
 (.seq (.ops 1 0 [⟨some 11, .mov (.tmp 0), none⟩,
 ⟨some 12, .mov (.tmp 1), none⟩,
 ⟨some 13, .bin .add (.tmp 11) (.tmp 12), none⟩,
 ⟨some 8, .mov (.tmp 13), none⟩])
 (.seq (.ops 2 0 [⟨some 9, .mov (.const (.int .u64 0)), none⟩])
 (.seq (.seq (.ops 3 0 [⟨some 14, .mov (.tmp 8), none⟩,
 ⟨some 15, .mov (.tmp 0), none⟩,
 ⟨some 16, .bin .lss (.tmp 14) (.tmp 15), none⟩])
 (.cond (.tmp 16)
 (.ops 4 0 [⟨some 9, .mov (.const (.int .u64 1)), none⟩])
 .skip))
 (.seq (.ops 5 0 [⟨some 17, .mov (.tmp 8), none⟩,
 ⟨some 18, .mov (.tmp 2), none⟩,
 ⟨some 19, .bin .add (.tmp 17) (.tmp 18), none⟩,
 ⟨some 10, .mov (.tmp 19), none⟩])
 (.seq (.seq (.ops 6 0 [⟨some 20, .mov (.tmp 10), none⟩,
 ⟨some 21, .mov (.tmp 8), none⟩,
 ⟨some 22, .bin .lss (.tmp 20) (.tmp 21), none⟩])
 (.cond (.tmp 22)
 (.ops 7 0 [⟨some 23, .mov (.tmp 9), none⟩,
 ⟨some 24, .bin .add (.tmp 23) (.const (.int .u64 1)), none⟩,
 ⟨some 9, .mov (.tmp 24), none⟩])
 .skip))
 (.seq (.ops 8 0 [⟨some 25, .mov (.tmp 10), none⟩,
 ⟨some 26, .mov (.tmp 9), none⟩,
 ⟨some 6, .mov (.tmp 25), none⟩,
 ⟨some 7, .mov (.tmp 26), none⟩])
 .ret))))))),
 27, [.tmp 6, .tmp 7]⟩
theorem c78 : compF Tryd.prog Q Tryd.f85 = some p78 := by kernel_rfl
theorem ht78 : HasText Tryd.prog 85 Tryd.f85 := ⟨Tryd.func85, rfl, by decide⟩
def pz86 : PF := ⟨(.seq (.ops 0 2 [⟨some 4, .box 62 (.tmp 1), none⟩,
 ⟨some 6, .alloc 26 (.agg [(.bool false), (.int .u64 0), (.int .u64 0), (.int .u64 0), (.int .u64 0), (.int .i64 0)]), none⟩,
 ⟨some 7, .mov (.const (.int .i64 0)), none⟩])
 (.seq (.seq (.ops 1 0 [⟨some 8, .fieldAddr 0 (.tmp 4), none⟩,
 ⟨some 9, .load (some 4) (.tmp 8), none⟩,
 ⟨some 10, .build [(.int .u64 0), (.int .u64 0), (.int .u64 0), (.int .u64 0)] [], none⟩,
 ⟨some 11, .cmp true 24 (.tmp 9) (.tmp 10), none⟩])
 (.cond (.tmp 11)
 (.seq (.ops 2 0 [⟨some 12, .build [(.bool false), (.int .u64 0), (.int .u64 0), (.int .u64 0), (.int .u64 0), (.int .i64 0)] [], none⟩,
 ⟨none, .store 6 (.tmp 6) (.tmp 12), none⟩,
 ⟨some 7, .mov (.const (.int .i64 7)), none⟩])
 .ret)
 .skip))
 (.seq (.ops 3 0 [⟨some 13, .mov (.tmp 0), none⟩,
 ⟨some 14, .mov (.tmp 13), none⟩,
 ⟨some 15, .fieldAddr 4 (.tmp 4), (some ((some 14), true))⟩,
 ⟨some 16, .load (some 4) (.tmp 15), (some ((some 14), true))⟩,
 ⟨some 17, .build [(.int .u64 0), (.int .u64 0), (.int .u64 0), (.int .u64 0)] [], (some ((some 14), true))⟩,
 ⟨some 18, .cmp true 24 (.tmp 16) (.tmp 17), (some ((some 14), true))⟩,
 ⟨some 19, .pick (.tmp 14) (.tmp 18) (.const (.bool false)), none⟩,
 ⟨some 20, .fieldAddr 4 (.tmp 4), none⟩,
 ⟨some 21, .load (some 4) (.tmp 20), none⟩,
 ⟨some 22, .mov (.tmp 2), none⟩,
 ⟨some 23, .build [(.bool false), (.int .u64 0), (.int .u64 0), (.int .u64 0), (.int .u64 0), (.int .i64 0)] [((0, 1), (.tmp 19)), ((1, 4), (.tmp 21)), ((5, 1), (.tmp 22))], none⟩,
 ⟨none, .store 6 (.tmp 6) (.tmp 23), none⟩,
 ⟨some 7, .mov (.const (.int .i64 0)), none⟩])
 .ret))),
 24, [.cell 6 26, .tmp 7]⟩
theorem cz86 : compF Tryd.prog Q Tryd.f86 = some pz86 := by kernel_rfl
theorem htz86 : HasText Tryd.prog 86 Tryd.f86 := ⟨Tryd.func86, rfl, by decide⟩
def pz7 : PF := ⟨(.seq (.ops 0 2 [⟨some 2, .box 26 (.tmp 0), none⟩,
 ⟨some 3, .box 26 (.tmp 1), none⟩,
 ⟨some 4, .mov (.const (.bool false)), none⟩])
 (.seq (.seq (.ops 1 0 [⟨some 5, .load (some 6) (.tmp 2), none⟩,
 ⟨some 6, .call (.func 19) [(.tmp 5)], none⟩,
 ⟨some 7, .bin .neq (.tmp 6) (.const (.int .i64 0)), none⟩,
 ⟨some 8, .mov (.tmp 7), none⟩,
 ⟨some 9, .load (some 6) (.tmp 3), (some ((some 8), false))⟩,
 ⟨some 10, .call (.func 19) [(.tmp 9)], (some ((some 8), false))⟩,
 ⟨some 11, .bin .neq (.tmp 10) (.const (.int .i64 0)), (some ((some 8), false))⟩,
 ⟨some 12, .pick (.tmp 8) (.const (.bool true)) (.tmp 11), none⟩,
 ⟨some 13, .mov (.tmp 12), none⟩,
 ⟨some 14, .call (.func 8) [], (some ((some 13), false))⟩,
 ⟨some 15, .un .not (.tmp 14), (some ((some 13), false))⟩,
 ⟨some 16, .pick (.tmp 13) (.const (.bool true)) (.tmp 15), none⟩])
 (.cond (.tmp 16)
 (.seq (.ops 2 0 [⟨some 17, .call (.func 8) [], none⟩,
 ⟨some 4, .mov (.tmp 17), none⟩])
 .ret)
 .skip))
 (.seq (.ops 3 0 [⟨some 18, .load (some 6) (.tmp 2), none⟩,
 ⟨some 19, .call (.func 9) [(.tmp 18)], none⟩,
 ⟨some 20, .load (some 6) (.tmp 3), none⟩,
 ⟨some 21, .call (.func 9) [(.tmp 20)], none⟩,
 ⟨some 22, .bin .eql (.tmp 19) (.tmp 21), none⟩,
 ⟨some 23, .load (some 6) (.tmp 2), none⟩,
 ⟨some 24, .load (some 6) (.tmp 3), none⟩,
 ⟨some 25, .cmp false 26 (.tmp 23) (.tmp 24), none⟩,
 ⟨some 26, .cmp false 4 (.tmp 22) (.tmp 25), none⟩,
 ⟨some 27, .mov (.tmp 26), none⟩,
 ⟨some 28, .load (some 6) (.tmp 2), (some ((some 27), true))⟩,
 ⟨some 29, .call (.func 11) [(.tmp 28)], (some ((some 27), true))⟩,
 ⟨some 30, .load (some 6) (.tmp 3), (some ((some 27), true))⟩,
 ⟨some 31, .call (.func 11) [(.tmp 30)], (some ((some 27), true))⟩,
 ⟨some 32, .bin .eql (.tmp 29) (.tmp 31), (some ((some 27), true))⟩,
 ⟨some 33, .load (some 6) (.tmp 2), (some ((some 27), true))⟩,
 ⟨some 34, .load (some 6) (.tmp 3), (some ((some 27), true))⟩,
 ⟨some 35, .call (.func 20) [(.tmp 33), (.tmp 34)], (some ((some 27), true))⟩,
 ⟨some 36, .bin .eql (.tmp 35) (.const (.int .i64 0)), (some ((some 27), true))⟩,
 ⟨some 37, .cmp false 4 (.tmp 32) (.tmp 36), (some ((some 27), true))⟩,
 ⟨some 38, .pick (.tmp 27) (.tmp 37) (.const (.bool false)), none⟩,
 ⟨some 4, .mov (.tmp 38), none⟩])
 .ret))),
 39, [.tmp 4]⟩
theorem cz7 : compF Tryd.prog Q Tryd.f7 = some pz7 := by kernel_rfl
theorem htz7 : HasText Tryd.prog 7 Tryd.f7 := ⟨Tryd.func7, rfl, by decide⟩
def pz19 : PF := ⟨(.seq (.ops 0 1 [⟨some 1, .box 26 (.tmp 0), none⟩,
 ⟨some 2, .mov (.const (.int .i64 0)), none⟩])
 (.seq (.seq (.ops 1 0 [⟨some 3, .fieldAddr 5 (.tmp 1), none⟩,
 ⟨some 4, .load none (.tmp 3), none⟩,
 ⟨some 5, .bin .lss (.tmp 4) (.const (.int .i64 0)), none⟩,
 ⟨some 6, .mov (.tmp 5), none⟩,
 ⟨some 7, .fieldAddr 5 (.tmp 1), (some ((some 6), false))⟩,
 ⟨some 8, .load none (.tmp 7), (some ((some 6), false))⟩,
 ⟨some 9, .bin .gtr (.tmp 8) (.const (.int .i64 18)), (some ((some 6), false))⟩,
 ⟨some 10, .pick (.tmp 6) (.const (.bool true)) (.tmp 9), none⟩,
 ⟨some 11, .mov (.tmp 10), none⟩,
 ⟨some 12, .fieldAddr 0 (.tmp 1), (some ((some 11), false))⟩,
 ⟨some 13, .load none (.tmp 12), (some ((some 11), false))⟩,
 ⟨some 14, .mov (.tmp 13), (some ((some 11), false))⟩,
 ⟨some 15, .fieldAddr 1 (.tmp 1), (some ((some 14), true))⟩,
 ⟨some 16, .load (some 4) (.tmp 15), (some ((some 14), true))⟩,
 ⟨some 17, .build [(.int .u64 0), (.int .u64 0), (.int .u64 0), (.int .u64 0)] [], (some ((some 14), true))⟩,
 ⟨some 18, .cmp false 24 (.tmp 16) (.tmp 17), (some ((some 14), true))⟩,
 ⟨some 19, .pick (.tmp 14) (.tmp 18) (.const (.bool false)), (some ((some 11), false))⟩,
 ⟨some 20, .pick (.tmp 11) (.const (.bool true)) (.tmp 19), none⟩])
 (.cond (.tmp 20)
 (.seq (.ops 2 0 [⟨some 2, .mov (.const (.int .i64 20)), none⟩])
 .ret)
 .skip))
 (.seq (.ops 3 0 [⟨some 2, .mov (.const (.int .i64 0)), none⟩])
 .ret))),
 21, [.tmp 2]⟩
theorem cz19 : compF Tryd.prog Q Tryd.f19 = some pz19 := by kernel_rfl
theorem htz19 : HasText Tryd.prog 19 Tryd.f19 := ⟨Tryd.func19, rfl, by decide⟩
def pz20 : PF := ⟨(.seq (.ops 0 2 [⟨some 2, .box 26 (.tmp 0), none⟩,
 ⟨some 3, .box 26 (.tmp 1), none⟩,
 ⟨some 4, .mov (.const (.int .i64 0)), none⟩])
 (.seq (.seq (.ops 1 1 [⟨some 8, .load (some 6) (.tmp 2), none⟩,
 ⟨some 9, .load (some 6) (.tmp 3), none⟩,
 ⟨some 10, .bslice 26 6 2 (.agg [(.bool false), (.int .u64 0), (.int .u64 0), (.int .u64 0), (.int .u64 0), (.int .i64 0)]) [(0, (.tmp 8)), (1, (.tmp 9))], none⟩,
 ⟨some 11, .call (.func 39) [(.tmp 10)], none⟩,
 ⟨some 12, .bin .neq (.tmp 11) (.const (.int .i64 0)), none⟩,
 ⟨some 13, .mov (.tmp 12), none⟩,
 ⟨some 14, .load (some 6) (.tmp 2), (some ((some 13), false))⟩,
 ⟨some 15, .load (some 6) (.tmp 3), (some ((some 13), false))⟩,
 ⟨some 16, .cmp false 26 (.tmp 14) (.tmp 15), (some ((some 13), false))⟩,
 ⟨some 17, .pick (.tmp 13) (.const (.bool true)) (.tmp 16), none⟩])
 (.cond (.tmp 17)
 (.seq (.ops 2 0 [⟨some 4, .mov (.const (.int .i64 0)), none⟩])
 .ret)
 .skip))
 (.seq (.ops 3 0 [⟨some 18, .load (some 6) (.tmp 2), none⟩,
 ⟨some 19, .call (.func 40) [(.tmp 18)], none⟩,
 ⟨some 20, .load (some 6) (.tmp 3), none⟩,
 ⟨some 21, .call (.func 40) [(.tmp 20)], none⟩,
 ⟨some 5, .mov (.tmp 19), none⟩,
 ⟨some 6, .mov (.tmp 21), none⟩])
 (.seq (.seq (.ops 4 0 [⟨some 22, .mov (.tmp 5), none⟩,
 ⟨some 23, .mov (.tmp 6), none⟩,
 ⟨some 24, .bin .neq (.tmp 22) (.tmp 23), none⟩,
 ⟨some 25, .mov (.tmp 24), none⟩,
 ⟨some 26, .mov (.tmp 5), (some ((some 25), false))⟩,
 ⟨some 27, .bin .eql (.tmp 26) (.const (.int .i64 0)), (some ((some 25), false))⟩,
 ⟨some 28, .pick (.tmp 25) (.const (.bool true)) (.tmp 27), none⟩])
 (.cond (.tmp 28)
 (.seq (.ops 5 0 [⟨some 29, .mov (.tmp 5), none⟩,
 ⟨some 30, .mov (.tmp 6), none⟩,
 ⟨some 31, .bin .sub (.tmp 29) (.tmp 30), none⟩,
 ⟨some 32, .max [(.tmp 31), (.const (.int .i64 (-1)))], none⟩,
 ⟨some 33, .min [(.tmp 32), (.const (.int .i64 1))], none⟩,
 ⟨some 4, .mov (.tmp 33), none⟩])
 .ret)
 .skip))
 (.seq (.ops 6 0 [⟨some 34, .fieldAddr 5 (.tmp 2), none⟩,
 ⟨some 35, .load none (.tmp 34), none⟩,
 ⟨some 36, .fieldAddr 5 (.tmp 3), none⟩,
 ⟨some 37, .load none (.tmp 36), none⟩,
 ⟨some 38, .max [(.tmp 35), (.tmp 37)], none⟩,
 ⟨some 7, .mov (.tmp 38), none⟩])
 (.seq (.ops 7 0 [⟨some 39, .mov (.tmp 5), none⟩,
 ⟨some 40, .fieldAddr 1 (.tmp 2), none⟩,
 ⟨some 41, .load (some 4) (.tmp 40), none⟩,
 ⟨some 42, .mov (.tmp 7), none⟩,
 ⟨some 43, .fieldAddr 5 (.tmp 2), none⟩,
 ⟨some 44, .load none (.tmp 43), none⟩,
 ⟨some 45, .bin .sub (.tmp 42) (.tmp 44), none⟩,
 ⟨some 46, .call (.func 42) [(.tmp 41), (.tmp 45)], none⟩,
 ⟨some 47, .fieldAddr 1 (.tmp 3), none⟩,
 ⟨some 48, .load (some 4) (.tmp 47), none⟩,
 ⟨some 49, .mov (.tmp 7), none⟩,
 ⟨some 50, .fieldAddr 5 (.tmp 3), none⟩,
 ⟨some 51, .load none (.tmp 50), none⟩,
 ⟨some 52, .bin .sub (.tmp 49) (.tmp 51), none⟩,
 ⟨some 53, .call (.func 42) [(.tmp 48), (.tmp 52)], none⟩,
 ⟨some 54, .call (.func 41) [(.tmp 46), (.tmp 53)], none⟩,
 ⟨some 55, .bin .mul (.tmp 39) (.tmp 54), none⟩,
 ⟨some 4, .mov (.tmp 55), none⟩])
 .ret)))))),
 56, [.tmp 4]⟩
theorem cz20 : compF Tryd.prog Q Tryd.f20 = some pz20 := by kernel_rfl
theorem htz20 : HasText Tryd.prog 20 Tryd.f20 := ⟨Tryd.func20, rfl, by decide⟩
def pz41 : PF := ⟨(.seq (.ops 0 2 [⟨some 2, .box 62 (.tmp 0), none⟩,
 ⟨some 3, .box 62 (.tmp 1), none⟩,
 ⟨some 4, .mov (.const (.int .i64 0)), none⟩])
 (.seq (.seq (.ops 1 0 [⟨some 6, .fieldAddr 0 (.tmp 2), none⟩,
 ⟨some 7, .load (some 4) (.tmp 6), none⟩,
 ⟨some 8, .fieldAddr 0 (.tmp 3), none⟩,
 ⟨some 9, .load (some 4) (.tmp 8), none⟩,
 ⟨some 10, .call (.func 70) [(.tmp 7), (.tmp 9)], none⟩,
 ⟨some 5, .mov (.tmp 10), none⟩])
 (.seq (.ops 2 0 [⟨some 11, .mov (.tmp 5), none⟩,
 ⟨some 12, .bin .neq (.tmp 11) (.const (.int .i64 0)), none⟩])
 (.cond (.tmp 12)
 (.seq (.ops 3 0 [⟨some 13, .mov (.tmp 5), none⟩,
 ⟨some 4, .mov (.tmp 13), none⟩])
 .ret)
 .skip)))
 (.seq (.ops 4 0 [⟨some 14, .fieldAddr 4 (.tmp 2), none⟩,
 ⟨some 15, .load (some 4) (.tmp 14), none⟩,
 ⟨some 16, .fieldAddr 4 (.tmp 3), none⟩,
 ⟨some 17, .load (some 4) (.tmp 16), none⟩,
 ⟨some 18, .call (.func 70) [(.tmp 15), (.tmp 17)], none⟩,
 ⟨some 4, .mov (.tmp 18), none⟩])
 .ret))),
 19, [.tmp 4]⟩
theorem cz41 : compF Tryd.prog Q Tryd.f41 = some pz41 := by kernel_rfl
theorem htz41 : HasText Tryd.prog 41 Tryd.f41 := ⟨Tryd.func41, rfl, by decide⟩
end Go.Proofs.YtddalcnajejibaaDoor
