/- The resolved code of the functions. Written by mkp.py. -/
import Derived.Test.YtiijphmpkmmpjaaAmU
import Derived.Test.YtiijphmpkmmpjaaProg
namespace Go.Proofs.Ytiijphmpkmmpjaa
open Go Go.Am
set_option maxRecDepth 100000
set_option linter.unusedVariables false
def quiet : List FuncId := [9,10,11,13,14,23,24,25,26,27,28,29,31,32,33,34,37,38,39]
def Q (f : FuncId) : Bool := quiet.contains f
-- gosem.cut.init
def p2 : PF := ⟨(.ops 0 0 [⟨(some 0), .call (.func 1) [], none⟩]),
  1, []⟩
theorem c2 : compF Try.prog Q Try.f2 = some p2 := by kernel_rfl
theorem ht2 : HasText Try.prog 2 Try.f2 := ⟨Try.func2, rfl, by decide⟩
-- excise/exciselaw24.ShaBlocks
def p9 : PF := ⟨(.seq (.ops 0 0 [⟨(some 0), .mov (.const (.bool false)), none⟩])
  (.seq (.ops 1 2 [⟨(some 1), .bslice 5 1 3 (.int .u8 0) [(0, (.const (.int .u8 97))), (1, (.const (.int .u8 98))), (2, (.const (.int .u8 99)))], none⟩,
    ⟨(some 2), .ice (.tmp 1), none⟩,
    ⟨(some 3), .bslice 23 1 1 (.sl none 0 (.fix 0)) [(0, (.tmp 2))], none⟩,
    ⟨(some 4), .call (.func 12) [(.tmp 3)], none⟩,
    ⟨(some 5), .call (.func 25) [(.tmp 4)], none⟩,
    ⟨(some 6), .bin .eql (.tmp 5) (.const (.string ⟨#[98, 97, 55, 56, 49, 54, 98, 102, 56, 102, 48, 49, 99, 102, 101, 97, 52, 49, 52, 49, 52, 48, 100, 101, 53, 100, 97, 101, 50, 50, 50, 51, 98, 48, 48, 51, 54, 49, 97, 51, 57, 54, 49, 55, 55, 97, 57, 99, 98, 52, 49, 48, 102, 102, 54, 49, 102, 50, 48, 48, 49, 53, 97, 100]⟩)), none⟩,
    ⟨(some 0), .mov (.tmp 6), none⟩])
  .ret)),
  7, [.tmp 0]⟩
theorem c9 : compF Try.prog Q Try.f9 = some p9 := by kernel_rfl
theorem ht9 : HasText Try.prog 9 Try.f9 := ⟨Try.func9, rfl, by decide⟩
-- excise/sha.Block
def p10_l0 : PC := (.seq (.ops 12 0 [⟨(some 86), .bin .lss (.tmp 85) (.const (.int .i64 8)), none⟩])
    (.seq (.cond (.tmp 86)
     .skip
     (.exit 2))
    (.seq (.block 3
     (.seq (.ops 13 0 [⟨(some 87), .mov (.tmp 85), none⟩,
       ⟨(some 12), .mov (.tmp 87), none⟩])
     (.ops 14 0 [⟨(some 88), .mov (.tmp 12), none⟩,
       ⟨(some 89), .atA 8 1 (.tmp 6) (.tmp 88), none⟩,
       ⟨(some 90), .load none (.tmp 89), none⟩,
       ⟨(some 91), .mov (.tmp 12), none⟩,
       ⟨(some 92), .atA 8 1 (.tmp 2) (.tmp 91), none⟩,
       ⟨(some 93), .load none (.tmp 92), none⟩,
       ⟨(some 94), .bin .add (.tmp 90) (.tmp 93), none⟩,
       ⟨(some 95), .atA 8 1 (.tmp 6) (.tmp 88), none⟩,
       ⟨none, .store 1 (.tmp 95) (.tmp 94), none⟩])))
    (.ops 15 0 [⟨(some 96), .bin .add (.tmp 85) (.const (.int .i64 1)), none⟩,
      ⟨(some 85), .mov (.tmp 96), none⟩]))))
def p10_l1 : PC := (.seq (.ops 4 0 [⟨(some 17), .bin .lss (.tmp 16) (.const (.int .i64 64)), none⟩])
    (.seq (.cond (.tmp 17)
     .skip
     (.exit 0))
    (.seq (.block 1
     (.seq (.ops 5 0 [⟨(some 18), .mov (.tmp 16), none⟩,
       ⟨(some 7), .mov (.tmp 18), none⟩])
     (.seq (.ops 6 0 [⟨(some 19), .atA 8 1 (.tmp 6) (.const (.int .i64 4)), none⟩,
       ⟨(some 20), .load none (.tmp 19), none⟩,
       ⟨(some 21), .atA 8 1 (.tmp 6) (.const (.int .i64 0)), none⟩,
       ⟨(some 22), .load none (.tmp 21), none⟩,
       ⟨(some 8), .mov (.tmp 20), none⟩,
       ⟨(some 9), .mov (.tmp 22), none⟩])
     (.seq (.ops 7 0 [⟨(some 23), .atA 8 1 (.tmp 6) (.const (.int .i64 7)), none⟩,
       ⟨(some 24), .load none (.tmp 23), none⟩,
       ⟨(some 25), .mov (.tmp 8), none⟩,
       ⟨(some 26), .call (.func 28) [(.tmp 25), (.const (.int .i64 6)), (.const (.int .i64 11)), (.const (.int .i64 25))], none⟩,
       ⟨(some 27), .bin .add (.tmp 24) (.tmp 26), none⟩,
       ⟨(some 28), .mov (.tmp 8), none⟩,
       ⟨(some 29), .atA 8 1 (.tmp 6) (.const (.int .i64 5)), none⟩,
       ⟨(some 30), .load none (.tmp 29), none⟩,
       ⟨(some 31), .bin .and (.tmp 28) (.tmp 30), none⟩,
       ⟨(some 32), .mov (.tmp 8), none⟩,
       ⟨(some 33), .un .xor (.tmp 32), none⟩,
       ⟨(some 34), .atA 8 1 (.tmp 6) (.const (.int .i64 6)), none⟩,
       ⟨(some 35), .load none (.tmp 34), none⟩,
       ⟨(some 36), .bin .and (.tmp 33) (.tmp 35), none⟩,
       ⟨(some 37), .bin .xor (.tmp 31) (.tmp 36), none⟩,
       ⟨(some 38), .bin .add (.tmp 27) (.tmp 37), none⟩,
       ⟨(some 39), .mov (.tmp 7), none⟩,
       ⟨(some 40), .call (.func 29) [(.tmp 39)], none⟩,
       ⟨(some 41), .bin .add (.tmp 38) (.tmp 40), none⟩,
       ⟨(some 42), .mov (.tmp 7), none⟩,
       ⟨(some 43), .atA 64 1 (.tmp 5) (.tmp 42), none⟩,
       ⟨(some 44), .load none (.tmp 43), none⟩,
       ⟨(some 45), .bin .add (.tmp 41) (.tmp 44), none⟩,
       ⟨(some 10), .mov (.tmp 45), none⟩])
     (.seq (.ops 8 0 [⟨(some 46), .mov (.tmp 9), none⟩,
       ⟨(some 47), .call (.func 28) [(.tmp 46), (.const (.int .i64 2)), (.const (.int .i64 13)), (.const (.int .i64 22))], none⟩,
       ⟨(some 48), .mov (.tmp 9), none⟩,
       ⟨(some 49), .atA 8 1 (.tmp 6) (.const (.int .i64 1)), none⟩,
       ⟨(some 50), .load none (.tmp 49), none⟩,
       ⟨(some 51), .bin .and (.tmp 48) (.tmp 50), none⟩,
       ⟨(some 52), .mov (.tmp 9), none⟩,
       ⟨(some 53), .atA 8 1 (.tmp 6) (.const (.int .i64 2)), none⟩,
       ⟨(some 54), .load none (.tmp 53), none⟩,
       ⟨(some 55), .bin .and (.tmp 52) (.tmp 54), none⟩,
       ⟨(some 56), .bin .xor (.tmp 51) (.tmp 55), none⟩,
       ⟨(some 57), .atA 8 1 (.tmp 6) (.const (.int .i64 1)), none⟩,
       ⟨(some 58), .load none (.tmp 57), none⟩,
       ⟨(some 59), .atA 8 1 (.tmp 6) (.const (.int .i64 2)), none⟩,
       ⟨(some 60), .load none (.tmp 59), none⟩,
       ⟨(some 61), .bin .and (.tmp 58) (.tmp 60), none⟩,
       ⟨(some 62), .bin .xor (.tmp 56) (.tmp 61), none⟩,
       ⟨(some 63), .bin .add (.tmp 47) (.tmp 62), none⟩,
       ⟨(some 11), .mov (.tmp 63), none⟩])
     (.ops 9 0 [⟨(some 64), .mov (.tmp 10), none⟩,
       ⟨(some 65), .mov (.tmp 11), none⟩,
       ⟨(some 66), .bin .add (.tmp 64) (.tmp 65), none⟩,
       ⟨(some 67), .atA 8 1 (.tmp 6) (.const (.int .i64 0)), none⟩,
       ⟨(some 68), .load none (.tmp 67), none⟩,
       ⟨(some 69), .atA 8 1 (.tmp 6) (.const (.int .i64 1)), none⟩,
       ⟨(some 70), .load none (.tmp 69), none⟩,
       ⟨(some 71), .atA 8 1 (.tmp 6) (.const (.int .i64 2)), none⟩,
       ⟨(some 72), .load none (.tmp 71), none⟩,
       ⟨(some 73), .atA 8 1 (.tmp 6) (.const (.int .i64 3)), none⟩,
       ⟨(some 74), .load none (.tmp 73), none⟩,
       ⟨(some 75), .mov (.tmp 10), none⟩,
       ⟨(some 76), .bin .add (.tmp 74) (.tmp 75), none⟩,
       ⟨(some 77), .atA 8 1 (.tmp 6) (.const (.int .i64 4)), none⟩,
       ⟨(some 78), .load none (.tmp 77), none⟩,
       ⟨(some 79), .atA 8 1 (.tmp 6) (.const (.int .i64 5)), none⟩,
       ⟨(some 80), .load none (.tmp 79), none⟩,
       ⟨(some 81), .atA 8 1 (.tmp 6) (.const (.int .i64 6)), none⟩,
       ⟨(some 82), .load none (.tmp 81), none⟩,
       ⟨(some 83), .build [(.int .u32 0), (.int .u32 0), (.int .u32 0), (.int .u32 0), (.int .u32 0), (.int .u32 0), (.int .u32 0), (.int .u32 0)] [((0, 1), (.tmp 66)), ((1, 1), (.tmp 68)), ((2, 1), (.tmp 70)), ((3, 1), (.tmp 72)), ((4, 1), (.tmp 76)), ((5, 1), (.tmp 78)), ((6, 1), (.tmp 80)), ((7, 1), (.tmp 82))], none⟩,
       ⟨none, .store 8 (.tmp 6) (.tmp 83), none⟩]))))))
    (.ops 10 0 [⟨(some 84), .bin .add (.tmp 16) (.const (.int .i64 1)), none⟩,
      ⟨(some 16), .mov (.tmp 84), none⟩]))))
def p10 : PF := ⟨(.seq (.ops 0 3 [⟨(some 2), .box 25 (.tmp 0), none⟩,
    ⟨(some 3), .box 26 (.tmp 1), none⟩,
    ⟨(some 4), .alloc 25 (.agg [(.int .u32 0), (.int .u32 0), (.int .u32 0), (.int .u32 0), (.int .u32 0), (.int .u32 0), (.int .u32 0), (.int .u32 0)]), none⟩])
  (.seq (.ops 1 1 [⟨(some 13), .load (some 64) (.tmp 3), none⟩,
    ⟨(some 14), .call (.func 27) [(.tmp 13)], none⟩,
    ⟨(some 5), .alloc 53 (.agg [(.int .u32 0), (.int .u32 0), (.int .u32 0), (.int .u32 0), (.int .u32 0), (.int .u32 0), (.int .u32 0), (.int .u32 0), (.int .u32 0), (.int .u32 0), (.int .u32 0), (.int .u32 0), (.int .u32 0), (.int .u32 0), (.int .u32 0), (.int .u32 0), (.int .u32 0), (.int .u32 0), (.int .u32 0), (.int .u32 0), (.int .u32 0), (.int .u32 0), (.int .u32 0), (.int .u32 0), (.int .u32 0), (.int .u32 0), (.int .u32 0), (.int .u32 0), (.int .u32 0), (.int .u32 0), (.int .u32 0), (.int .u32 0), (.int .u32 0), (.int .u32 0), (.int .u32 0), (.int .u32 0), (.int .u32 0), (.int .u32 0), (.int .u32 0), (.int .u32 0), (.int .u32 0), (.int .u32 0), (.int .u32 0), (.int .u32 0), (.int .u32 0), (.int .u32 0), (.int .u32 0), (.int .u32 0), (.int .u32 0), (.int .u32 0), (.int .u32 0), (.int .u32 0), (.int .u32 0), (.int .u32 0), (.int .u32 0), (.int .u32 0), (.int .u32 0), (.int .u32 0), (.int .u32 0), (.int .u32 0), (.int .u32 0), (.int .u32 0), (.int .u32 0), (.int .u32 0)]), none⟩,
    ⟨none, .store 64 (.tmp 5) (.tmp 14), none⟩])
  (.seq (.ops 2 1 [⟨(some 15), .load (some 8) (.tmp 2), none⟩,
    ⟨(some 6), .alloc 25 (.agg [(.int .u32 0), (.int .u32 0), (.int .u32 0), (.int .u32 0), (.int .u32 0), (.int .u32 0), (.int .u32 0), (.int .u32 0)]), none⟩,
    ⟨none, .store 8 (.tmp 6) (.tmp 15), none⟩])
  (.seq (.seq (.ops 3 0 [⟨(some 16), .mov (.const (.int .i64 0)), none⟩])
  (.block 0
   (.loop p10_l1)))
  (.seq (.seq (.ops 11 0 [⟨(some 85), .mov (.const (.int .i64 0)), none⟩])
  (.block 2
   (.loop p10_l0)))
  (.seq (.ops 16 0 [⟨(some 97), .load (some 8) (.tmp 6), none⟩,
    ⟨none, .store 8 (.tmp 4) (.tmp 97), none⟩])
  .ret)))))),
  98, [.cell 4 25]⟩
theorem c10 : compF Try.prog Q Try.f10 = some p10 := by kernel_rfl
theorem ht10 : HasText Try.prog 10 Try.f10 := ⟨Try.func10, rfl, by decide⟩
-- excise/exciseref24.Block
def p11_l0 : PC := (.seq (.seq (.ops 12 0 [⟨(some 106), .mov (.tmp 12), none⟩,
      ⟨(some 107), .bin .lss (.tmp 106) (.const (.int .i64 8)), none⟩])
    (.cond (.tmp 107)
     .skip
     (.exit 2)))
    (.seq (.block 3
     (.ops 14 0 [⟨(some 110), .mov (.tmp 12), none⟩,
       ⟨(some 111), .atA 8 1 (.tmp 6) (.tmp 110), none⟩,
       ⟨(some 112), .load none (.tmp 111), none⟩,
       ⟨(some 113), .mov (.tmp 12), none⟩,
       ⟨(some 114), .atA 8 1 (.tmp 2) (.tmp 113), none⟩,
       ⟨(some 115), .load none (.tmp 114), none⟩,
       ⟨(some 116), .bin .add (.tmp 112) (.tmp 115), none⟩,
       ⟨(some 117), .atA 8 1 (.tmp 6) (.tmp 110), none⟩,
       ⟨none, .store 1 (.tmp 117) (.tmp 116), none⟩]))
    (.ops 13 0 [⟨(some 108), .mov (.tmp 12), none⟩,
      ⟨(some 109), .bin .add (.tmp 108) (.const (.int .i64 1)), none⟩,
      ⟨(some 12), .mov (.tmp 109), none⟩])))
def p11_l1 : PC := (.seq (.seq (.ops 4 0 [⟨(some 16), .mov (.tmp 7), none⟩,
      ⟨(some 17), .bin .lss (.tmp 16) (.const (.int .i64 64)), none⟩])
    (.cond (.tmp 17)
     .skip
     (.exit 0)))
    (.seq (.block 1
     (.seq (.ops 6 0 [⟨(some 20), .atA 8 1 (.tmp 6) (.const (.int .i64 4)), none⟩,
       ⟨(some 21), .load none (.tmp 20), none⟩,
       ⟨(some 22), .call (.func 31) [(.tmp 21), (.const (.int .i64 6))], none⟩,
       ⟨(some 23), .atA 8 1 (.tmp 6) (.const (.int .i64 4)), none⟩,
       ⟨(some 24), .load none (.tmp 23), none⟩,
       ⟨(some 25), .call (.func 31) [(.tmp 24), (.const (.int .i64 11))], none⟩,
       ⟨(some 26), .bin .xor (.tmp 22) (.tmp 25), none⟩,
       ⟨(some 27), .atA 8 1 (.tmp 6) (.const (.int .i64 4)), none⟩,
       ⟨(some 28), .load none (.tmp 27), none⟩,
       ⟨(some 29), .call (.func 31) [(.tmp 28), (.const (.int .i64 25))], none⟩,
       ⟨(some 30), .bin .xor (.tmp 26) (.tmp 29), none⟩,
       ⟨(some 8), .mov (.tmp 30), none⟩])
     (.seq (.ops 7 0 [⟨(some 31), .atA 8 1 (.tmp 6) (.const (.int .i64 0)), none⟩,
       ⟨(some 32), .load none (.tmp 31), none⟩,
       ⟨(some 33), .call (.func 31) [(.tmp 32), (.const (.int .i64 2))], none⟩,
       ⟨(some 34), .atA 8 1 (.tmp 6) (.const (.int .i64 0)), none⟩,
       ⟨(some 35), .load none (.tmp 34), none⟩,
       ⟨(some 36), .call (.func 31) [(.tmp 35), (.const (.int .i64 13))], none⟩,
       ⟨(some 37), .bin .xor (.tmp 33) (.tmp 36), none⟩,
       ⟨(some 38), .atA 8 1 (.tmp 6) (.const (.int .i64 0)), none⟩,
       ⟨(some 39), .load none (.tmp 38), none⟩,
       ⟨(some 40), .call (.func 31) [(.tmp 39), (.const (.int .i64 22))], none⟩,
       ⟨(some 41), .bin .xor (.tmp 37) (.tmp 40), none⟩,
       ⟨(some 9), .mov (.tmp 41), none⟩])
     (.seq (.ops 8 0 [⟨(some 42), .atA 8 1 (.tmp 6) (.const (.int .i64 7)), none⟩,
       ⟨(some 43), .load none (.tmp 42), none⟩,
       ⟨(some 44), .mov (.tmp 8), none⟩,
       ⟨(some 45), .bin .add (.tmp 43) (.tmp 44), none⟩,
       ⟨(some 46), .atA 8 1 (.tmp 6) (.const (.int .i64 4)), none⟩,
       ⟨(some 47), .load none (.tmp 46), none⟩,
       ⟨(some 48), .atA 8 1 (.tmp 6) (.const (.int .i64 5)), none⟩,
       ⟨(some 49), .load none (.tmp 48), none⟩,
       ⟨(some 50), .bin .and (.tmp 47) (.tmp 49), none⟩,
       ⟨(some 51), .atA 8 1 (.tmp 6) (.const (.int .i64 4)), none⟩,
       ⟨(some 52), .load none (.tmp 51), none⟩,
       ⟨(some 53), .un .xor (.tmp 52), none⟩,
       ⟨(some 54), .atA 8 1 (.tmp 6) (.const (.int .i64 6)), none⟩,
       ⟨(some 55), .load none (.tmp 54), none⟩,
       ⟨(some 56), .bin .and (.tmp 53) (.tmp 55), none⟩,
       ⟨(some 57), .bin .xor (.tmp 50) (.tmp 56), none⟩,
       ⟨(some 58), .bin .add (.tmp 45) (.tmp 57), none⟩,
       ⟨(some 59), .mov (.tmp 7), none⟩,
       ⟨(some 60), .call (.func 32) [(.tmp 59)], none⟩,
       ⟨(some 61), .bin .add (.tmp 58) (.tmp 60), none⟩,
       ⟨(some 62), .mov (.tmp 5), none⟩,
       ⟨(some 63), .mov (.tmp 7), none⟩,
       ⟨(some 64), .atL 1 (.tmp 62) (.tmp 63), none⟩,
       ⟨(some 65), .load none (.tmp 64), none⟩,
       ⟨(some 66), .bin .add (.tmp 61) (.tmp 65), none⟩,
       ⟨(some 10), .mov (.tmp 66), none⟩])
     (.seq (.ops 9 0 [⟨(some 67), .mov (.tmp 9), none⟩,
       ⟨(some 68), .atA 8 1 (.tmp 6) (.const (.int .i64 0)), none⟩,
       ⟨(some 69), .load none (.tmp 68), none⟩,
       ⟨(some 70), .atA 8 1 (.tmp 6) (.const (.int .i64 1)), none⟩,
       ⟨(some 71), .load none (.tmp 70), none⟩,
       ⟨(some 72), .bin .and (.tmp 69) (.tmp 71), none⟩,
       ⟨(some 73), .atA 8 1 (.tmp 6) (.const (.int .i64 0)), none⟩,
       ⟨(some 74), .load none (.tmp 73), none⟩,
       ⟨(some 75), .atA 8 1 (.tmp 6) (.const (.int .i64 2)), none⟩,
       ⟨(some 76), .load none (.tmp 75), none⟩,
       ⟨(some 77), .bin .and (.tmp 74) (.tmp 76), none⟩,
       ⟨(some 78), .bin .xor (.tmp 72) (.tmp 77), none⟩,
       ⟨(some 79), .atA 8 1 (.tmp 6) (.const (.int .i64 1)), none⟩,
       ⟨(some 80), .load none (.tmp 79), none⟩,
       ⟨(some 81), .atA 8 1 (.tmp 6) (.const (.int .i64 2)), none⟩,
       ⟨(some 82), .load none (.tmp 81), none⟩,
       ⟨(some 83), .bin .and (.tmp 80) (.tmp 82), none⟩,
       ⟨(some 84), .bin .xor (.tmp 78) (.tmp 83), none⟩,
       ⟨(some 85), .bin .add (.tmp 67) (.tmp 84), none⟩,
       ⟨(some 11), .mov (.tmp 85), none⟩])
     (.ops 10 0 [⟨(some 86), .mov (.tmp 10), none⟩,
       ⟨(some 87), .mov (.tmp 11), none⟩,
       ⟨(some 88), .bin .add (.tmp 86) (.tmp 87), none⟩,
       ⟨(some 89), .atA 8 1 (.tmp 6) (.const (.int .i64 0)), none⟩,
       ⟨(some 90), .load none (.tmp 89), none⟩,
       ⟨(some 91), .atA 8 1 (.tmp 6) (.const (.int .i64 1)), none⟩,
       ⟨(some 92), .load none (.tmp 91), none⟩,
       ⟨(some 93), .atA 8 1 (.tmp 6) (.const (.int .i64 2)), none⟩,
       ⟨(some 94), .load none (.tmp 93), none⟩,
       ⟨(some 95), .atA 8 1 (.tmp 6) (.const (.int .i64 3)), none⟩,
       ⟨(some 96), .load none (.tmp 95), none⟩,
       ⟨(some 97), .mov (.tmp 10), none⟩,
       ⟨(some 98), .bin .add (.tmp 96) (.tmp 97), none⟩,
       ⟨(some 99), .atA 8 1 (.tmp 6) (.const (.int .i64 4)), none⟩,
       ⟨(some 100), .load none (.tmp 99), none⟩,
       ⟨(some 101), .atA 8 1 (.tmp 6) (.const (.int .i64 5)), none⟩,
       ⟨(some 102), .load none (.tmp 101), none⟩,
       ⟨(some 103), .atA 8 1 (.tmp 6) (.const (.int .i64 6)), none⟩,
       ⟨(some 104), .load none (.tmp 103), none⟩,
       ⟨(some 105), .build [(.int .u32 0), (.int .u32 0), (.int .u32 0), (.int .u32 0), (.int .u32 0), (.int .u32 0), (.int .u32 0), (.int .u32 0)] [((0, 1), (.tmp 88)), ((1, 1), (.tmp 90)), ((2, 1), (.tmp 92)), ((3, 1), (.tmp 94)), ((4, 1), (.tmp 98)), ((5, 1), (.tmp 100)), ((6, 1), (.tmp 102)), ((7, 1), (.tmp 104))], none⟩,
       ⟨none, .store 8 (.tmp 6) (.tmp 105), none⟩]))))))
    (.ops 5 0 [⟨(some 18), .mov (.tmp 7), none⟩,
      ⟨(some 19), .bin .add (.tmp 18) (.const (.int .i64 1)), none⟩,
      ⟨(some 7), .mov (.tmp 19), none⟩])))
def p11 : PF := ⟨(.seq (.ops 0 3 [⟨(some 2), .box 25 (.tmp 0), none⟩,
    ⟨(some 3), .box 26 (.tmp 1), none⟩,
    ⟨(some 4), .alloc 25 (.agg [(.int .u32 0), (.int .u32 0), (.int .u32 0), (.int .u32 0), (.int .u32 0), (.int .u32 0), (.int .u32 0), (.int .u32 0)]), none⟩])
  (.seq (.ops 1 0 [⟨(some 13), .load (some 64) (.tmp 3), none⟩,
    ⟨(some 14), .call (.func 30) [(.tmp 13)], none⟩,
    ⟨(some 5), .mov (.tmp 14), none⟩])
  (.seq (.ops 2 1 [⟨(some 15), .load (some 8) (.tmp 2), none⟩,
    ⟨(some 6), .alloc 25 (.agg [(.int .u32 0), (.int .u32 0), (.int .u32 0), (.int .u32 0), (.int .u32 0), (.int .u32 0), (.int .u32 0), (.int .u32 0)]), none⟩,
    ⟨none, .store 8 (.tmp 6) (.tmp 15), none⟩])
  (.seq (.seq (.ops 3 0 [⟨(some 7), .mov (.const (.int .i64 0)), none⟩])
  (.block 0
   (.loop p11_l1)))
  (.seq (.seq (.ops 11 0 [⟨(some 12), .mov (.const (.int .i64 0)), none⟩])
  (.block 2
   (.loop p11_l0)))
  (.seq (.ops 15 0 [⟨(some 118), .load (some 8) (.tmp 6), none⟩,
    ⟨none, .store 8 (.tmp 4) (.tmp 118), none⟩])
  .ret)))))),
  119, [.cell 4 25]⟩
theorem c11 : compF Try.prog Q Try.f11 = some p11 := by kernel_rfl
theorem ht11 : HasText Try.prog 11 Try.f11 := ⟨Try.func11, rfl, by decide⟩
-- excise/sha.Sum
def p12_l0 : PC := (.seq (.ops 3 0 [⟨(some 10), .bin .lss (.tmp 9) (.tmp 8), none⟩])
    (.seq (.cond (.tmp 10)
     .skip
     (.exit 0))
    (.seq (.block 1
     (.seq (.ops 4 0 [⟨(some 11), .atL 1 (.tmp 7) (.tmp 9), none⟩,
       ⟨(some 12), .load none (.tmp 11), none⟩,
       ⟨(some 5), .mov (.tmp 12), none⟩])
     (.ops 5 0 [⟨(some 13), .mov (.tmp 3), none⟩,
       ⟨(some 14), .mov (.tmp 5), none⟩,
       ⟨(some 15), .call (.func 18) [(.tmp 13), (.tmp 14)], none⟩])))
    (.ops 6 0 [⟨(some 16), .bin .add (.tmp 9) (.const (.int .i64 1)), none⟩,
      ⟨(some 9), .mov (.tmp 16), none⟩]))))
def p12 : PF := ⟨(.seq (.ops 0 1 [⟨(some 2), .alloc 30 (.agg [(.int .u8 0), (.int .u8 0), (.int .u8 0), (.int .u8 0), (.int .u8 0), (.int .u8 0), (.int .u8 0), (.int .u8 0), (.int .u8 0), (.int .u8 0), (.int .u8 0), (.int .u8 0), (.int .u8 0), (.int .u8 0), (.int .u8 0), (.int .u8 0), (.int .u8 0), (.int .u8 0), (.int .u8 0), (.int .u8 0), (.int .u8 0), (.int .u8 0), (.int .u8 0), (.int .u8 0), (.int .u8 0), (.int .u8 0), (.int .u8 0), (.int .u8 0), (.int .u8 0), (.int .u8 0), (.int .u8 0), (.int .u8 0)]), none⟩])
  (.seq (.ops 1 0 [⟨(some 6), .call (.func 17) [], none⟩,
    ⟨(some 3), .mov (.tmp 6), none⟩])
  (.seq (.seq (.ops 2 0 [⟨(some 7), .mov (.tmp 0), none⟩,
    ⟨(some 8), .lenL (.tmp 7), none⟩,
    ⟨(some 9), .mov (.const (.int .i64 0)), none⟩])
  (.block 0
   (.loop p12_l0)))
  (.seq (.ops 7 0 [⟨(some 17), .mov (.tmp 3), none⟩,
    ⟨(some 18), .call (.func 20) [(.tmp 17)], none⟩,
    ⟨none, .store 32 (.tmp 2) (.tmp 18), none⟩])
  .ret)))),
  19, [.cell 2 30]⟩
theorem c12 : compF Try.prog Q Try.f12 = some p12 := by kernel_rfl
theorem ht12 : HasText Try.prog 12 Try.f12 := ⟨Try.func12, rfl, by decide⟩
-- excise/exciseref24.Sum
theorem ht13 : HasText Try.prog 13 Try.f13 := ⟨Try.func13, rfl, by decide⟩
-- bytes.Equal
theorem ht14 : HasText Try.prog 14 Try.f14 := ⟨Try.func14, rfl, by decide⟩
-- excise/sha.Pad
def p15_l0 : PC := (.seq (.ops 8 0 [⟨(some 24), .bin .lss (.tmp 23) (.const (.int .i64 8)), none⟩])
    (.seq (.cond (.tmp 24)
     .skip
     (.exit 2))
    (.seq (.block 3
     (.seq (.ops 9 0 [⟨(some 25), .mov (.tmp 23), none⟩,
       ⟨(some 5), .mov (.tmp 25), none⟩])
     (.ops 10 2 [⟨(some 26), .mov (.tmp 3), none⟩,
       ⟨(some 27), .mov (.tmp 4), none⟩,
       ⟨(some 28), .mov (.tmp 5), none⟩,
       ⟨(some 29), .bin .mul (.const (.int .i64 8)) (.tmp 28), none⟩,
       ⟨(some 30), .bin .sub (.const (.int .i64 56)) (.tmp 29), none⟩,
       ⟨(some 31), .bin .shr (.tmp 27) (.tmp 30), none⟩,
       ⟨(some 32), .conv .u8 (.tmp 31), none⟩,
       ⟨(some 33), .bslice 5 1 1 (.int .u8 0) [(0, (.tmp 32))], none⟩,
       ⟨(some 34), .append 5 1 1 (.tmp 26) (.tmp 33), none⟩,
       ⟨(some 3), .mov (.tmp 34), none⟩])))
    (.ops 11 0 [⟨(some 35), .bin .add (.tmp 23) (.const (.int .i64 1)), none⟩,
      ⟨(some 23), .mov (.tmp 35), none⟩]))))
def p15_l1 : PC := (.seq (.seq (.ops 4 0 [⟨(some 9), .mov (.tmp 0), none⟩,
      ⟨(some 10), .bin .rem (.tmp 9) (.const (.int .i64 64)), none⟩,
      ⟨(some 11), .mov (.tmp 3), none⟩,
      ⟨(some 12), .lenL (.tmp 11), none⟩,
      ⟨(some 13), .bin .add (.tmp 10) (.tmp 12), none⟩,
      ⟨(some 14), .bin .add (.tmp 13) (.const (.int .i64 8)), none⟩,
      ⟨(some 15), .bin .rem (.tmp 14) (.const (.int .i64 64)), none⟩,
      ⟨(some 16), .bin .neq (.tmp 15) (.const (.int .i64 0)), none⟩])
    (.cond (.tmp 16)
     .skip
     (.exit 0)))
    (.block 1
     (.ops 5 2 [⟨(some 17), .mov (.tmp 3), none⟩,
       ⟨(some 18), .bslice 5 1 1 (.int .u8 0) [(0, (.const (.int .u8 0)))], none⟩,
       ⟨(some 19), .append 5 1 1 (.tmp 17) (.tmp 18), none⟩,
       ⟨(some 3), .mov (.tmp 19), none⟩])))
def p15 : PF := ⟨(.seq (.ops 0 0 [⟨(some 2), .mov (.const (.slice none 0 0)), none⟩])
  (.seq (.seq (.ops 1 0 [⟨(some 6), .mov (.tmp 0), none⟩,
    ⟨(some 7), .bin .lss (.tmp 6) (.const (.int .i64 0)), none⟩])
  (.cond (.tmp 7)
   (.seq (.ops 2 0 [⟨(some 2), .mov (.const (.slice none 0 0)), none⟩])
   .ret)
   .skip))
  (.seq (.ops 3 1 [⟨(some 8), .bslice 5 1 1 (.int .u8 0) [(0, (.const (.int .u8 128)))], none⟩,
    ⟨(some 3), .mov (.tmp 8), none⟩])
  (.seq (.block 0
   (.loop p15_l1))
  (.seq (.ops 6 0 [⟨(some 20), .mov (.tmp 0), none⟩,
    ⟨(some 21), .conv .u64 (.tmp 20), none⟩,
    ⟨(some 22), .bin .mul (.tmp 21) (.const (.int .u64 8)), none⟩,
    ⟨(some 4), .mov (.tmp 22), none⟩])
  (.seq (.seq (.ops 7 0 [⟨(some 23), .mov (.const (.int .i64 0)), none⟩])
  (.block 2
   (.loop p15_l0)))
  (.seq (.ops 12 0 [⟨(some 36), .mov (.tmp 3), none⟩,
    ⟨(some 2), .mov (.tmp 36), none⟩])
  .ret))))))),
  37, [.tmp 2]⟩
theorem c15 : compF Try.prog Q Try.f15 = some p15 := by kernel_rfl
theorem ht15 : HasText Try.prog 15 Try.f15 := ⟨Try.func15, rfl, by decide⟩
-- excise/exciseref24.Pad
def p16_l0 : PC := (.seq (.seq (.ops 8 0 [⟨(some 23), .mov (.tmp 5), none⟩,
      ⟨(some 24), .bin .geq (.tmp 23) (.const (.int .i64 0)), none⟩])
    (.cond (.tmp 24)
     .skip
     (.exit 2)))
    (.seq (.block 3
     (.ops 10 2 [⟨(some 27), .mov (.tmp 3), none⟩,
       ⟨(some 28), .mov (.tmp 4), none⟩,
       ⟨(some 29), .mov (.tmp 5), none⟩,
       ⟨(some 30), .bin .shr (.tmp 28) (.tmp 29), none⟩,
       ⟨(some 31), .conv .u8 (.tmp 30), none⟩,
       ⟨(some 32), .bslice 5 1 1 (.int .u8 0) [(0, (.tmp 31))], none⟩,
       ⟨(some 33), .append 5 1 1 (.tmp 27) (.tmp 32), none⟩,
       ⟨(some 3), .mov (.tmp 33), none⟩]))
    (.ops 9 0 [⟨(some 25), .mov (.tmp 5), none⟩,
      ⟨(some 26), .bin .sub (.tmp 25) (.const (.int .i64 8)), none⟩,
      ⟨(some 5), .mov (.tmp 26), none⟩])))
def p16_l1 : PC := (.seq (.seq (.ops 4 0 [⟨(some 9), .mov (.tmp 0), none⟩,
      ⟨(some 10), .bin .rem (.tmp 9) (.const (.int .i64 64)), none⟩,
      ⟨(some 11), .mov (.tmp 3), none⟩,
      ⟨(some 12), .lenL (.tmp 11), none⟩,
      ⟨(some 13), .bin .add (.tmp 10) (.tmp 12), none⟩,
      ⟨(some 14), .bin .add (.tmp 13) (.const (.int .i64 8)), none⟩,
      ⟨(some 15), .bin .rem (.tmp 14) (.const (.int .i64 64)), none⟩,
      ⟨(some 16), .bin .neq (.tmp 15) (.const (.int .i64 0)), none⟩])
    (.cond (.tmp 16)
     .skip
     (.exit 0)))
    (.block 1
     (.ops 5 2 [⟨(some 17), .mov (.tmp 3), none⟩,
       ⟨(some 18), .bslice 5 1 1 (.int .u8 0) [(0, (.const (.int .u8 0)))], none⟩,
       ⟨(some 19), .append 5 1 1 (.tmp 17) (.tmp 18), none⟩,
       ⟨(some 3), .mov (.tmp 19), none⟩])))
def p16 : PF := ⟨(.seq (.ops 0 0 [⟨(some 2), .mov (.const (.slice none 0 0)), none⟩])
  (.seq (.seq (.ops 1 0 [⟨(some 6), .mov (.tmp 0), none⟩,
    ⟨(some 7), .bin .lss (.tmp 6) (.const (.int .i64 0)), none⟩])
  (.cond (.tmp 7)
   (.seq (.ops 2 0 [⟨(some 2), .mov (.const (.slice none 0 0)), none⟩])
   .ret)
   .skip))
  (.seq (.ops 3 1 [⟨(some 8), .bslice 5 1 1 (.int .u8 0) [(0, (.const (.int .u8 128)))], none⟩,
    ⟨(some 3), .mov (.tmp 8), none⟩])
  (.seq (.block 0
   (.loop p16_l1))
  (.seq (.ops 6 0 [⟨(some 20), .mov (.tmp 0), none⟩,
    ⟨(some 21), .conv .u64 (.tmp 20), none⟩,
    ⟨(some 22), .bin .mul (.tmp 21) (.const (.int .u64 8)), none⟩,
    ⟨(some 4), .mov (.tmp 22), none⟩])
  (.seq (.seq (.ops 7 0 [⟨(some 5), .mov (.const (.int .i64 56)), none⟩])
  (.block 2
   (.loop p16_l0)))
  (.seq (.ops 11 0 [⟨(some 34), .mov (.tmp 3), none⟩,
    ⟨(some 2), .mov (.tmp 34), none⟩])
  .ret))))))),
  35, [.tmp 2]⟩
theorem c16 : compF Try.prog Q Try.f16 = some p16 := by kernel_rfl
theorem ht16 : HasText Try.prog 16 Try.f16 := ⟨Try.func16, rfl, by decide⟩
-- excise/sha.New
def p17 : PF := ⟨(.seq (.ops 0 0 [⟨(some 0), .mov (.const (.pointer none)), none⟩])
  (.seq (.ops 1 1 [⟨(some 1), .call (.func 34) [], none⟩,
    ⟨(some 2), .build [(.bool false), (.int .u32 0), (.int .u32 0), (.int .u32 0), (.int .u32 0), (.int .u32 0), (.int .u32 0), (.int .u32 0), (.int .u32 0), (.sl none 0 (.fix 0)), (.int .i64 0)] [((0, 1), (.const (.bool true))), ((1, 8), (.tmp 1))], none⟩,
    ⟨(some 3), .box 47 (.tmp 2), none⟩,
    ⟨(some 0), .mov (.tmp 3), none⟩])
  .ret)),
  4, [.tmp 0]⟩
theorem c17 : compF Try.prog Q Try.f17 = some p17 := by kernel_rfl
theorem ht17 : HasText Try.prog 17 Try.f17 := ⟨Try.func17, rfl, by decide⟩
-- (*excise/sha.Hash).Write
def p18 : PF := ⟨(.seq (.ops 0 0 [⟨(some 4), .mov (.const (.int .i64 0)), none⟩])
  (.seq (.seq (.ops 1 0 [⟨(some 5), .mov (.tmp 0), none⟩,
    ⟨(some 6), .call (.func 35) [(.tmp 5)], none⟩])
  (.cond (.tmp 6)
   (.seq (.ops 2 0 [⟨(some 4), .mov (.const (.int .i64 2)), none⟩])
   .ret)
   .skip))
  (.seq (.seq (.ops 3 0 [⟨(some 7), .mov (.tmp 1), none⟩,
    ⟨(some 8), .lenL (.tmp 7), none⟩,
    ⟨(some 9), .mov (.tmp 0), none⟩,
    ⟨(some 10), .nilCheck (.tmp 9), none⟩,
    ⟨(some 11), .fieldAddr 10 (.tmp 10), none⟩,
    ⟨(some 12), .load none (.tmp 11), none⟩,
    ⟨(some 13), .bin .sub (.const (.int .i64 1152921504606846976)) (.tmp 12), none⟩,
    ⟨(some 14), .bin .gtr (.tmp 8) (.tmp 13), none⟩])
  (.cond (.tmp 14)
   (.seq (.ops 4 0 [⟨(some 4), .mov (.const (.int .i64 3)), none⟩])
   .ret)
   .skip))
  (.seq (.ops 5 0 [⟨(some 15), .mov (.tmp 0), none⟩,
    ⟨(some 16), .mov (.tmp 1), none⟩,
    ⟨(some 17), .call (.func 36) [(.tmp 15), (.tmp 16)], none⟩])
  (.seq (.ops 6 0 [⟨(some 18), .mov (.tmp 0), none⟩,
    ⟨(some 19), .nilCheck (.tmp 18), none⟩,
    ⟨(some 20), .fieldAddr 10 (.tmp 19), none⟩,
    ⟨(some 21), .load none (.tmp 20), none⟩,
    ⟨(some 22), .mov (.tmp 1), none⟩,
    ⟨(some 23), .lenL (.tmp 22), none⟩,
    ⟨(some 24), .bin .add (.tmp 21) (.tmp 23), none⟩,
    ⟨(some 25), .nilCheck (.tmp 18), none⟩,
    ⟨(some 26), .fieldAddr 10 (.tmp 25), none⟩,
    ⟨none, .store 1 (.tmp 26) (.tmp 24), none⟩])
  (.seq (.ops 7 0 [⟨(some 4), .mov (.const (.int .i64 0)), none⟩])
  .ret)))))),
  27, [.tmp 4]⟩
theorem c18 : compF Try.prog Q Try.f18 = some p18 := by kernel_rfl
theorem ht18 : HasText Try.prog 18 Try.f18 := ⟨Try.func18, rfl, by decide⟩
-- (*excise/sha.Hash).Len
def p19 : PF := ⟨(.seq (.ops 0 0 [⟨(some 2), .mov (.const (.int .i64 0)), none⟩])
  (.seq (.seq (.ops 1 0 [⟨(some 3), .mov (.tmp 0), none⟩,
    ⟨(some 4), .call (.func 35) [(.tmp 3)], none⟩])
  (.cond (.tmp 4)
   (.seq (.ops 2 0 [⟨(some 2), .mov (.const (.int .i64 0)), none⟩])
   .ret)
   .skip))
  (.seq (.ops 3 0 [⟨(some 5), .mov (.tmp 0), none⟩,
    ⟨(some 6), .nilCheck (.tmp 5), none⟩,
    ⟨(some 7), .fieldAddr 10 (.tmp 6), none⟩,
    ⟨(some 8), .load none (.tmp 7), none⟩,
    ⟨(some 2), .mov (.tmp 8), none⟩])
  .ret))),
  9, [.tmp 2]⟩
theorem c19 : compF Try.prog Q Try.f19 = some p19 := by kernel_rfl
theorem ht19 : HasText Try.prog 19 Try.f19 := ⟨Try.func19, rfl, by decide⟩
-- (*excise/sha.Hash).Sum
def p20_l0 : PC := (.seq (.ops 7 0 [⟨(some 22), .bin .lss (.tmp 21) (.const (.int .i64 8)), none⟩])
    (.seq (.cond (.tmp 22)
     .skip
     (.exit 0))
    (.seq (.block 1
     (.seq (.ops 8 0 [⟨(some 23), .mov (.tmp 21), none⟩,
       ⟨(some 24), .indexA 8 1 none (.tmp 20) (.tmp 21), none⟩,
       ⟨(some 5), .mov (.tmp 23), none⟩,
       ⟨(some 6), .mov (.tmp 24), none⟩])
     (.ops 9 1 [⟨(some 25), .mov (.tmp 5), none⟩,
       ⟨(some 26), .bin .mul (.const (.int .i64 4)) (.tmp 25), none⟩,
       ⟨(some 27), .sliceA 32 1 (.tmp 3) (some (.tmp 26)) none, none⟩,
       ⟨(some 28), .mov (.tmp 6), none⟩,
       ⟨(some 29), .bin .shr (.tmp 28) (.const (.int .u64 24)), none⟩,
       ⟨(some 30), .conv .u8 (.tmp 29), none⟩,
       ⟨(some 31), .mov (.tmp 6), none⟩,
       ⟨(some 32), .bin .shr (.tmp 31) (.const (.int .u64 16)), none⟩,
       ⟨(some 33), .conv .u8 (.tmp 32), none⟩,
       ⟨(some 34), .mov (.tmp 6), none⟩,
       ⟨(some 35), .bin .shr (.tmp 34) (.const (.int .u64 8)), none⟩,
       ⟨(some 36), .conv .u8 (.tmp 35), none⟩,
       ⟨(some 37), .mov (.tmp 6), none⟩,
       ⟨(some 38), .conv .u8 (.tmp 37), none⟩,
       ⟨(some 39), .bslice 5 1 4 (.int .u8 0) [(0, (.tmp 30)), (1, (.tmp 33)), (2, (.tmp 36)), (3, (.tmp 38))], none⟩,
       ⟨(some 40), .copy 1 (.tmp 27) (.tmp 39), none⟩])))
    (.ops 10 0 [⟨(some 41), .bin .add (.tmp 21) (.const (.int .i64 1)), none⟩,
      ⟨(some 21), .mov (.tmp 41), none⟩]))))
def p20 : PF := ⟨(.seq (.ops 0 1 [⟨(some 2), .alloc 30 (.agg [(.int .u8 0), (.int .u8 0), (.int .u8 0), (.int .u8 0), (.int .u8 0), (.int .u8 0), (.int .u8 0), (.int .u8 0), (.int .u8 0), (.int .u8 0), (.int .u8 0), (.int .u8 0), (.int .u8 0), (.int .u8 0), (.int .u8 0), (.int .u8 0), (.int .u8 0), (.int .u8 0), (.int .u8 0), (.int .u8 0), (.int .u8 0), (.int .u8 0), (.int .u8 0), (.int .u8 0), (.int .u8 0), (.int .u8 0), (.int .u8 0), (.int .u8 0), (.int .u8 0), (.int .u8 0), (.int .u8 0), (.int .u8 0)]), none⟩])
  (.seq (.ops 1 1 [⟨(some 3), .alloc 30 (.agg [(.int .u8 0), (.int .u8 0), (.int .u8 0), (.int .u8 0), (.int .u8 0), (.int .u8 0), (.int .u8 0), (.int .u8 0), (.int .u8 0), (.int .u8 0), (.int .u8 0), (.int .u8 0), (.int .u8 0), (.int .u8 0), (.int .u8 0), (.int .u8 0), (.int .u8 0), (.int .u8 0), (.int .u8 0), (.int .u8 0), (.int .u8 0), (.int .u8 0), (.int .u8 0), (.int .u8 0), (.int .u8 0), (.int .u8 0), (.int .u8 0), (.int .u8 0), (.int .u8 0), (.int .u8 0), (.int .u8 0), (.int .u8 0)]), none⟩])
  (.seq (.seq (.ops 2 0 [⟨(some 7), .mov (.tmp 0), none⟩,
    ⟨(some 8), .call (.func 35) [(.tmp 7)], none⟩])
  (.cond (.tmp 8)
   (.seq (.ops 3 0 [⟨(some 9), .load (some 32) (.tmp 3), none⟩,
     ⟨none, .store 32 (.tmp 2) (.tmp 9), none⟩])
   .ret)
   .skip))
  (.seq (.ops 4 1 [⟨(some 10), .mov (.tmp 0), none⟩,
    ⟨(some 11), .nilCheck (.tmp 10), none⟩,
    ⟨(some 12), .load (some 11) (.tmp 11), none⟩,
    ⟨(some 4), .alloc 47 (.agg [(.bool false), (.int .u32 0), (.int .u32 0), (.int .u32 0), (.int .u32 0), (.int .u32 0), (.int .u32 0), (.int .u32 0), (.int .u32 0), (.sl none 0 (.fix 0)), (.int .i64 0)]), none⟩,
    ⟨none, .store 11 (.tmp 4) (.tmp 12), none⟩])
  (.seq (.ops 5 0 [⟨(some 13), .mov (.tmp 0), none⟩,
    ⟨(some 14), .nilCheck (.tmp 13), none⟩,
    ⟨(some 15), .fieldAddr 10 (.tmp 14), none⟩,
    ⟨(some 16), .load none (.tmp 15), none⟩,
    ⟨(some 17), .call (.func 15) [(.tmp 16)], none⟩,
    ⟨(some 18), .call (.func 36) [(.tmp 4), (.tmp 17)], none⟩])
  (.seq (.seq (.ops 6 0 [⟨(some 19), .fieldAddr 1 (.tmp 4), none⟩,
    ⟨(some 20), .load (some 8) (.tmp 19), none⟩,
    ⟨(some 21), .mov (.const (.int .i64 0)), none⟩])
  (.block 0
   (.loop p20_l0)))
  (.seq (.ops 11 0 [⟨(some 42), .load (some 32) (.tmp 3), none⟩,
    ⟨none, .store 32 (.tmp 2) (.tmp 42), none⟩])
  .ret))))))),
  43, [.cell 2 30]⟩
theorem c20 : compF Try.prog Q Try.f20 = some p20 := by kernel_rfl
theorem ht20 : HasText Try.prog 20 Try.f20 := ⟨Try.func20, rfl, by decide⟩
-- (*excise/sha.Hash).Clone
def p21 : PF := ⟨(.seq (.ops 0 0 [⟨(some 2), .mov (.const (.pointer none)), none⟩])
  (.seq (.seq (.ops 1 0 [⟨(some 4), .mov (.tmp 0), none⟩,
    ⟨(some 5), .call (.func 35) [(.tmp 4)], none⟩])
  (.cond (.tmp 5)
   (.seq (.ops 2 0 [⟨(some 2), .mov (.const (.pointer none)), none⟩])
   .ret)
   .skip))
  (.seq (.ops 3 1 [⟨(some 6), .mov (.tmp 0), none⟩,
    ⟨(some 7), .nilCheck (.tmp 6), none⟩,
    ⟨(some 8), .load (some 11) (.tmp 7), none⟩,
    ⟨(some 3), .alloc 47 (.agg [(.bool false), (.int .u32 0), (.int .u32 0), (.int .u32 0), (.int .u32 0), (.int .u32 0), (.int .u32 0), (.int .u32 0), (.int .u32 0), (.sl none 0 (.fix 0)), (.int .i64 0)]), none⟩,
    ⟨none, .store 11 (.tmp 3) (.tmp 8), none⟩])
  (.seq (.ops 4 0 [⟨(some 2), .mov (.tmp 3), none⟩])
  .ret)))),
  9, [.tmp 2]⟩
theorem c21 : compF Try.prog Q Try.f21 = some p21 := by kernel_rfl
theorem ht21 : HasText Try.prog 21 Try.f21 := ⟨Try.func21, rfl, by decide⟩
-- bytes.Clone
theorem ht23 : HasText Try.prog 23 Try.f23 := ⟨Try.func23, rfl, by decide⟩
-- excise/exciseref24.Parse
theorem ht24 : HasText Try.prog 24 Try.f24 := ⟨Try.func24, rfl, by decide⟩
-- excise/sha.Hex
def p25_l0 : PC := (.seq (.ops 3 0 [⟨(some 8), .bin .lss (.tmp 7) (.const (.int .i64 32)), none⟩])
    (.seq (.cond (.tmp 8)
     .skip
     (.exit 0))
    (.seq (.block 1
     (.seq (.ops 4 0 [⟨(some 9), .indexA 32 1 none (.tmp 6) (.tmp 7), none⟩,
       ⟨(some 5), .mov (.tmp 9), none⟩])
     (.ops 5 2 [⟨(some 10), .mov (.tmp 3), none⟩,
       ⟨(some 11), .mov (.tmp 5), none⟩,
       ⟨(some 12), .bin .quo (.tmp 11) (.const (.int .u8 16)), none⟩,
       ⟨(some 13), .indexS (.const (.string ⟨#[48, 49, 50, 51, 52, 53, 54, 55, 56, 57, 97, 98, 99, 100, 101, 102]⟩)) (.tmp 12), none⟩,
       ⟨(some 14), .mov (.tmp 5), none⟩,
       ⟨(some 15), .bin .rem (.tmp 14) (.const (.int .u8 16)), none⟩,
       ⟨(some 16), .indexS (.const (.string ⟨#[48, 49, 50, 51, 52, 53, 54, 55, 56, 57, 97, 98, 99, 100, 101, 102]⟩)) (.tmp 15), none⟩,
       ⟨(some 17), .bslice 5 1 2 (.int .u8 0) [(0, (.tmp 13)), (1, (.tmp 16))], none⟩,
       ⟨(some 18), .append 5 1 1 (.tmp 10) (.tmp 17), none⟩,
       ⟨(some 3), .mov (.tmp 18), none⟩])))
    (.ops 6 0 [⟨(some 19), .bin .add (.tmp 7) (.const (.int .i64 1)), none⟩,
      ⟨(some 7), .mov (.tmp 19), none⟩]))))
def p25 : PF := ⟨(.seq (.ops 0 1 [⟨(some 1), .box 30 (.tmp 0), none⟩,
    ⟨(some 2), .mov (.const (.string ⟨#[]⟩)), none⟩])
  (.seq (.ops 1 0 [⟨(some 3), .mov (.const (.slice none 0 0)), none⟩])
  (.seq (.seq (.ops 2 0 [⟨(some 6), .load (some 32) (.tmp 1), none⟩,
    ⟨(some 7), .mov (.const (.int .i64 0)), none⟩])
  (.block 0
   (.loop p25_l0)))
  (.seq (.ops 7 0 [⟨(some 20), .mov (.tmp 3), none⟩,
    ⟨(some 21), .toStr (.tmp 20), none⟩,
    ⟨(some 2), .mov (.tmp 21), none⟩])
  .ret)))),
  22, [.tmp 2]⟩
theorem c25 : compF Try.prog Q Try.f25 = some p25 := by kernel_rfl
theorem ht25 : HasText Try.prog 25 Try.f25 := ⟨Try.func25, rfl, by decide⟩
-- excise/exciseref24.Hex
theorem ht26 : HasText Try.prog 26 Try.f26 := ⟨Try.func26, rfl, by decide⟩
-- excise/sha.words
def p27_l0 : PC := (.seq (.seq (.ops 9 0 [⟨(some 43), .mov (.tmp 6), none⟩,
      ⟨(some 44), .bin .lss (.tmp 43) (.const (.int .i64 64)), none⟩])
    (.cond (.tmp 44)
     .skip
     (.exit 2)))
    (.seq (.block 3
     (.seq (.ops 11 0 [⟨(some 47), .mov (.tmp 6), none⟩,
       ⟨(some 48), .bin .sub (.tmp 47) (.const (.int .i64 15)), none⟩,
       ⟨(some 49), .atA 64 1 (.tmp 3) (.tmp 48), none⟩,
       ⟨(some 50), .load none (.tmp 49), none⟩,
       ⟨(some 51), .mov (.tmp 6), none⟩,
       ⟨(some 52), .bin .sub (.tmp 51) (.const (.int .i64 2)), none⟩,
       ⟨(some 53), .atA 64 1 (.tmp 3) (.tmp 52), none⟩,
       ⟨(some 54), .load none (.tmp 53), none⟩,
       ⟨(some 7), .mov (.tmp 50), none⟩,
       ⟨(some 8), .mov (.tmp 54), none⟩])
     (.ops 12 0 [⟨(some 55), .mov (.tmp 6), none⟩,
       ⟨(some 56), .mov (.tmp 8), none⟩,
       ⟨(some 57), .call (.func 39) [(.tmp 56), (.const (.int .i64 17))], none⟩,
       ⟨(some 58), .mov (.tmp 8), none⟩,
       ⟨(some 59), .call (.func 39) [(.tmp 58), (.const (.int .i64 19))], none⟩,
       ⟨(some 60), .bin .xor (.tmp 57) (.tmp 59), none⟩,
       ⟨(some 61), .mov (.tmp 8), none⟩,
       ⟨(some 62), .bin .shr (.tmp 61) (.const (.int .u64 10)), none⟩,
       ⟨(some 63), .bin .xor (.tmp 60) (.tmp 62), none⟩,
       ⟨(some 64), .mov (.tmp 6), none⟩,
       ⟨(some 65), .bin .sub (.tmp 64) (.const (.int .i64 7)), none⟩,
       ⟨(some 66), .atA 64 1 (.tmp 3) (.tmp 65), none⟩,
       ⟨(some 67), .load none (.tmp 66), none⟩,
       ⟨(some 68), .bin .add (.tmp 63) (.tmp 67), none⟩,
       ⟨(some 69), .mov (.tmp 7), none⟩,
       ⟨(some 70), .call (.func 39) [(.tmp 69), (.const (.int .i64 7))], none⟩,
       ⟨(some 71), .mov (.tmp 7), none⟩,
       ⟨(some 72), .call (.func 39) [(.tmp 71), (.const (.int .i64 18))], none⟩,
       ⟨(some 73), .bin .xor (.tmp 70) (.tmp 72), none⟩,
       ⟨(some 74), .mov (.tmp 7), none⟩,
       ⟨(some 75), .bin .shr (.tmp 74) (.const (.int .u64 3)), none⟩,
       ⟨(some 76), .bin .xor (.tmp 73) (.tmp 75), none⟩,
       ⟨(some 77), .bin .add (.tmp 68) (.tmp 76), none⟩,
       ⟨(some 78), .mov (.tmp 6), none⟩,
       ⟨(some 79), .bin .sub (.tmp 78) (.const (.int .i64 16)), none⟩,
       ⟨(some 80), .atA 64 1 (.tmp 3) (.tmp 79), none⟩,
       ⟨(some 81), .load none (.tmp 80), none⟩,
       ⟨(some 82), .bin .add (.tmp 77) (.tmp 81), none⟩,
       ⟨(some 83), .atA 64 1 (.tmp 3) (.tmp 55), none⟩,
       ⟨none, .store 1 (.tmp 83) (.tmp 82), none⟩])))
    (.ops 10 0 [⟨(some 45), .mov (.tmp 6), none⟩,
      ⟨(some 46), .bin .add (.tmp 45) (.const (.int .i64 1)), none⟩,
      ⟨(some 6), .mov (.tmp 46), none⟩])))
def p27_l1 : PC := (.seq (.ops 3 0 [⟨(some 10), .bin .lss (.tmp 9) (.const (.int .i64 16)), none⟩])
    (.seq (.cond (.tmp 10)
     .skip
     (.exit 0))
    (.seq (.block 1
     (.seq (.ops 4 0 [⟨(some 11), .mov (.tmp 9), none⟩,
       ⟨(some 4), .mov (.tmp 11), none⟩])
     (.seq (.ops 5 0 [⟨(some 12), .mov (.tmp 4), none⟩,
       ⟨(some 13), .bin .mul (.const (.int .i64 4)) (.tmp 12), none⟩,
       ⟨(some 14), .mov (.tmp 4), none⟩,
       ⟨(some 15), .bin .mul (.const (.int .i64 4)) (.tmp 14), none⟩,
       ⟨(some 16), .bin .add (.tmp 15) (.const (.int .i64 4)), none⟩,
       ⟨(some 17), .sliceA 64 1 (.tmp 1) (some (.tmp 13)) (some (.tmp 16)), none⟩,
       ⟨(some 5), .mov (.tmp 17), none⟩])
     (.ops 6 0 [⟨(some 18), .mov (.tmp 4), none⟩,
       ⟨(some 19), .mov (.tmp 5), none⟩,
       ⟨(some 20), .atL 1 (.tmp 19) (.const (.int .i64 0)), none⟩,
       ⟨(some 21), .load none (.tmp 20), none⟩,
       ⟨(some 22), .conv .u32 (.tmp 21), none⟩,
       ⟨(some 23), .bin .shl (.tmp 22) (.const (.int .u64 24)), none⟩,
       ⟨(some 24), .mov (.tmp 5), none⟩,
       ⟨(some 25), .atL 1 (.tmp 24) (.const (.int .i64 1)), none⟩,
       ⟨(some 26), .load none (.tmp 25), none⟩,
       ⟨(some 27), .conv .u32 (.tmp 26), none⟩,
       ⟨(some 28), .bin .shl (.tmp 27) (.const (.int .u64 16)), none⟩,
       ⟨(some 29), .bin .or (.tmp 23) (.tmp 28), none⟩,
       ⟨(some 30), .mov (.tmp 5), none⟩,
       ⟨(some 31), .atL 1 (.tmp 30) (.const (.int .i64 2)), none⟩,
       ⟨(some 32), .load none (.tmp 31), none⟩,
       ⟨(some 33), .conv .u32 (.tmp 32), none⟩,
       ⟨(some 34), .bin .shl (.tmp 33) (.const (.int .u64 8)), none⟩,
       ⟨(some 35), .bin .or (.tmp 29) (.tmp 34), none⟩,
       ⟨(some 36), .mov (.tmp 5), none⟩,
       ⟨(some 37), .atL 1 (.tmp 36) (.const (.int .i64 3)), none⟩,
       ⟨(some 38), .load none (.tmp 37), none⟩,
       ⟨(some 39), .conv .u32 (.tmp 38), none⟩,
       ⟨(some 40), .bin .or (.tmp 35) (.tmp 39), none⟩,
       ⟨(some 41), .atA 64 1 (.tmp 3) (.tmp 18), none⟩,
       ⟨none, .store 1 (.tmp 41) (.tmp 40), none⟩]))))
    (.ops 7 0 [⟨(some 42), .bin .add (.tmp 9) (.const (.int .i64 1)), none⟩,
      ⟨(some 9), .mov (.tmp 42), none⟩]))))
def p27 : PF := ⟨(.seq (.ops 0 2 [⟨(some 1), .box 26 (.tmp 0), none⟩,
    ⟨(some 2), .alloc 53 (.agg [(.int .u32 0), (.int .u32 0), (.int .u32 0), (.int .u32 0), (.int .u32 0), (.int .u32 0), (.int .u32 0), (.int .u32 0), (.int .u32 0), (.int .u32 0), (.int .u32 0), (.int .u32 0), (.int .u32 0), (.int .u32 0), (.int .u32 0), (.int .u32 0), (.int .u32 0), (.int .u32 0), (.int .u32 0), (.int .u32 0), (.int .u32 0), (.int .u32 0), (.int .u32 0), (.int .u32 0), (.int .u32 0), (.int .u32 0), (.int .u32 0), (.int .u32 0), (.int .u32 0), (.int .u32 0), (.int .u32 0), (.int .u32 0), (.int .u32 0), (.int .u32 0), (.int .u32 0), (.int .u32 0), (.int .u32 0), (.int .u32 0), (.int .u32 0), (.int .u32 0), (.int .u32 0), (.int .u32 0), (.int .u32 0), (.int .u32 0), (.int .u32 0), (.int .u32 0), (.int .u32 0), (.int .u32 0), (.int .u32 0), (.int .u32 0), (.int .u32 0), (.int .u32 0), (.int .u32 0), (.int .u32 0), (.int .u32 0), (.int .u32 0), (.int .u32 0), (.int .u32 0), (.int .u32 0), (.int .u32 0), (.int .u32 0), (.int .u32 0), (.int .u32 0), (.int .u32 0)]), none⟩])
  (.seq (.ops 1 1 [⟨(some 3), .alloc 53 (.agg [(.int .u32 0), (.int .u32 0), (.int .u32 0), (.int .u32 0), (.int .u32 0), (.int .u32 0), (.int .u32 0), (.int .u32 0), (.int .u32 0), (.int .u32 0), (.int .u32 0), (.int .u32 0), (.int .u32 0), (.int .u32 0), (.int .u32 0), (.int .u32 0), (.int .u32 0), (.int .u32 0), (.int .u32 0), (.int .u32 0), (.int .u32 0), (.int .u32 0), (.int .u32 0), (.int .u32 0), (.int .u32 0), (.int .u32 0), (.int .u32 0), (.int .u32 0), (.int .u32 0), (.int .u32 0), (.int .u32 0), (.int .u32 0), (.int .u32 0), (.int .u32 0), (.int .u32 0), (.int .u32 0), (.int .u32 0), (.int .u32 0), (.int .u32 0), (.int .u32 0), (.int .u32 0), (.int .u32 0), (.int .u32 0), (.int .u32 0), (.int .u32 0), (.int .u32 0), (.int .u32 0), (.int .u32 0), (.int .u32 0), (.int .u32 0), (.int .u32 0), (.int .u32 0), (.int .u32 0), (.int .u32 0), (.int .u32 0), (.int .u32 0), (.int .u32 0), (.int .u32 0), (.int .u32 0), (.int .u32 0), (.int .u32 0), (.int .u32 0), (.int .u32 0), (.int .u32 0)]), none⟩])
  (.seq (.seq (.ops 2 0 [⟨(some 9), .mov (.const (.int .i64 0)), none⟩])
  (.block 0
   (.loop p27_l1)))
  (.seq (.seq (.ops 8 0 [⟨(some 6), .mov (.const (.int .i64 16)), none⟩])
  (.block 2
   (.loop p27_l0)))
  (.seq (.ops 13 0 [⟨(some 84), .load (some 64) (.tmp 3), none⟩,
    ⟨none, .store 64 (.tmp 2) (.tmp 84), none⟩])
  .ret))))),
  85, [.cell 2 53]⟩
theorem c27 : compF Try.prog Q Try.f27 = some p27 := by kernel_rfl
theorem ht27 : HasText Try.prog 27 Try.f27 := ⟨Try.func27, rfl, by decide⟩
-- excise/sha.turns
def p28 : PF := ⟨(.seq (.ops 0 0 [⟨(some 8), .mov (.const (.int .u32 0)), none⟩])
  (.seq (.ops 1 0 [⟨(some 9), .mov (.tmp 0), none⟩,
    ⟨(some 10), .mov (.tmp 1), none⟩,
    ⟨(some 11), .call (.func 39) [(.tmp 9), (.tmp 10)], none⟩,
    ⟨(some 12), .mov (.tmp 0), none⟩,
    ⟨(some 13), .mov (.tmp 2), none⟩,
    ⟨(some 14), .call (.func 39) [(.tmp 12), (.tmp 13)], none⟩,
    ⟨(some 15), .bin .xor (.tmp 11) (.tmp 14), none⟩,
    ⟨(some 16), .mov (.tmp 0), none⟩,
    ⟨(some 17), .mov (.tmp 3), none⟩,
    ⟨(some 18), .call (.func 39) [(.tmp 16), (.tmp 17)], none⟩,
    ⟨(some 19), .bin .xor (.tmp 15) (.tmp 18), none⟩,
    ⟨(some 8), .mov (.tmp 19), none⟩])
  .ret)),
  20, [.tmp 8]⟩
theorem c28 : compF Try.prog Q Try.f28 = some p28 := by kernel_rfl
theorem ht28 : HasText Try.prog 28 Try.f28 := ⟨Try.func28, rfl, by decide⟩
-- excise/sha.constant
def p29 : PF := ⟨(.seq (.ops 0 0 [⟨(some 2), .mov (.const (.int .u32 0)), none⟩])
  (.seq (.ops 1 1 [⟨(some 4), .build [(.int .u32 0), (.int .u32 0), (.int .u32 0), (.int .u32 0), (.int .u32 0), (.int .u32 0), (.int .u32 0), (.int .u32 0), (.int .u32 0), (.int .u32 0), (.int .u32 0), (.int .u32 0), (.int .u32 0), (.int .u32 0), (.int .u32 0), (.int .u32 0), (.int .u32 0), (.int .u32 0), (.int .u32 0), (.int .u32 0), (.int .u32 0), (.int .u32 0), (.int .u32 0), (.int .u32 0), (.int .u32 0), (.int .u32 0), (.int .u32 0), (.int .u32 0), (.int .u32 0), (.int .u32 0), (.int .u32 0), (.int .u32 0), (.int .u32 0), (.int .u32 0), (.int .u32 0), (.int .u32 0), (.int .u32 0), (.int .u32 0), (.int .u32 0), (.int .u32 0), (.int .u32 0), (.int .u32 0), (.int .u32 0), (.int .u32 0), (.int .u32 0), (.int .u32 0), (.int .u32 0), (.int .u32 0), (.int .u32 0), (.int .u32 0), (.int .u32 0), (.int .u32 0), (.int .u32 0), (.int .u32 0), (.int .u32 0), (.int .u32 0), (.int .u32 0), (.int .u32 0), (.int .u32 0), (.int .u32 0), (.int .u32 0), (.int .u32 0), (.int .u32 0), (.int .u32 0)] [((0, 1), (.const (.int .u32 1116352408))), ((1, 1), (.const (.int .u32 1899447441))), ((2, 1), (.const (.int .u32 3049323471))), ((3, 1), (.const (.int .u32 3921009573))), ((4, 1), (.const (.int .u32 961987163))), ((5, 1), (.const (.int .u32 1508970993))), ((6, 1), (.const (.int .u32 2453635748))), ((7, 1), (.const (.int .u32 2870763221))), ((8, 1), (.const (.int .u32 3624381080))), ((9, 1), (.const (.int .u32 310598401))), ((10, 1), (.const (.int .u32 607225278))), ((11, 1), (.const (.int .u32 1426881987))), ((12, 1), (.const (.int .u32 1925078388))), ((13, 1), (.const (.int .u32 2162078206))), ((14, 1), (.const (.int .u32 2614888103))), ((15, 1), (.const (.int .u32 3248222580))), ((16, 1), (.const (.int .u32 3835390401))), ((17, 1), (.const (.int .u32 4022224774))), ((18, 1), (.const (.int .u32 264347078))), ((19, 1), (.const (.int .u32 604807628))), ((20, 1), (.const (.int .u32 770255983))), ((21, 1), (.const (.int .u32 1249150122))), ((22, 1), (.const (.int .u32 1555081692))), ((23, 1), (.const (.int .u32 1996064986))), ((24, 1), (.const (.int .u32 2554220882))), ((25, 1), (.const (.int .u32 2821834349))), ((26, 1), (.const (.int .u32 2952996808))), ((27, 1), (.const (.int .u32 3210313671))), ((28, 1), (.const (.int .u32 3336571891))), ((29, 1), (.const (.int .u32 3584528711))), ((30, 1), (.const (.int .u32 113926993))), ((31, 1), (.const (.int .u32 338241895))), ((32, 1), (.const (.int .u32 666307205))), ((33, 1), (.const (.int .u32 773529912))), ((34, 1), (.const (.int .u32 1294757372))), ((35, 1), (.const (.int .u32 1396182291))), ((36, 1), (.const (.int .u32 1695183700))), ((37, 1), (.const (.int .u32 1986661051))), ((38, 1), (.const (.int .u32 2177026350))), ((39, 1), (.const (.int .u32 2456956037))), ((40, 1), (.const (.int .u32 2730485921))), ((41, 1), (.const (.int .u32 2820302411))), ((42, 1), (.const (.int .u32 3259730800))), ((43, 1), (.const (.int .u32 3345764771))), ((44, 1), (.const (.int .u32 3516065817))), ((45, 1), (.const (.int .u32 3600352804))), ((46, 1), (.const (.int .u32 4094571909))), ((47, 1), (.const (.int .u32 275423344))), ((48, 1), (.const (.int .u32 430227734))), ((49, 1), (.const (.int .u32 506948616))), ((50, 1), (.const (.int .u32 659060556))), ((51, 1), (.const (.int .u32 883997877))), ((52, 1), (.const (.int .u32 958139571))), ((53, 1), (.const (.int .u32 1322822218))), ((54, 1), (.const (.int .u32 1537002063))), ((55, 1), (.const (.int .u32 1747873779))), ((56, 1), (.const (.int .u32 1955562222))), ((57, 1), (.const (.int .u32 2024104815))), ((58, 1), (.const (.int .u32 2227730452))), ((59, 1), (.const (.int .u32 2361852424))), ((60, 1), (.const (.int .u32 2428436474))), ((61, 1), (.const (.int .u32 2756734187))), ((62, 1), (.const (.int .u32 3204031479))), ((63, 1), (.const (.int .u32 3329325298)))], none⟩,
    ⟨(some 3), .alloc 53 (.agg [(.int .u32 0), (.int .u32 0), (.int .u32 0), (.int .u32 0), (.int .u32 0), (.int .u32 0), (.int .u32 0), (.int .u32 0), (.int .u32 0), (.int .u32 0), (.int .u32 0), (.int .u32 0), (.int .u32 0), (.int .u32 0), (.int .u32 0), (.int .u32 0), (.int .u32 0), (.int .u32 0), (.int .u32 0), (.int .u32 0), (.int .u32 0), (.int .u32 0), (.int .u32 0), (.int .u32 0), (.int .u32 0), (.int .u32 0), (.int .u32 0), (.int .u32 0), (.int .u32 0), (.int .u32 0), (.int .u32 0), (.int .u32 0), (.int .u32 0), (.int .u32 0), (.int .u32 0), (.int .u32 0), (.int .u32 0), (.int .u32 0), (.int .u32 0), (.int .u32 0), (.int .u32 0), (.int .u32 0), (.int .u32 0), (.int .u32 0), (.int .u32 0), (.int .u32 0), (.int .u32 0), (.int .u32 0), (.int .u32 0), (.int .u32 0), (.int .u32 0), (.int .u32 0), (.int .u32 0), (.int .u32 0), (.int .u32 0), (.int .u32 0), (.int .u32 0), (.int .u32 0), (.int .u32 0), (.int .u32 0), (.int .u32 0), (.int .u32 0), (.int .u32 0), (.int .u32 0)]), none⟩,
    ⟨none, .store 64 (.tmp 3) (.tmp 4), none⟩])
  (.seq (.ops 2 0 [⟨(some 5), .mov (.tmp 0), none⟩,
    ⟨(some 6), .atA 64 1 (.tmp 3) (.tmp 5), none⟩,
    ⟨(some 7), .load none (.tmp 6), none⟩,
    ⟨(some 2), .mov (.tmp 7), none⟩])
  .ret))),
  8, [.tmp 2]⟩
theorem c29 : compF Try.prog Q Try.f29 = some p29 := by kernel_rfl
theorem ht29 : HasText Try.prog 29 Try.f29 := ⟨Try.func29, rfl, by decide⟩
-- excise/exciseref24.words
def p30_l0 : PC := (.seq (.seq (.ops 3 0 [⟨(some 7), .mov (.tmp 4), none⟩,
      ⟨(some 8), .bin .lss (.tmp 7) (.const (.int .i64 64)), none⟩])
    (.cond (.tmp 8)
     .skip
     (.exit 0)))
    (.seq (.block 1
     (.seq (.seq (.ops 5 0 [⟨(some 11), .mov (.tmp 4), none⟩,
       ⟨(some 12), .bin .lss (.tmp 11) (.const (.int .i64 16)), none⟩])
     (.cond (.tmp 12)
      (.seq (.ops 6 2 [⟨(some 13), .mov (.tmp 3), none⟩,
        ⟨(some 14), .mov (.tmp 4), none⟩,
        ⟨(some 15), .bin .mul (.const (.int .i64 4)) (.tmp 14), none⟩,
        ⟨(some 16), .atA 64 1 (.tmp 1) (.tmp 15), none⟩,
        ⟨(some 17), .load none (.tmp 16), none⟩,
        ⟨(some 18), .conv .u32 (.tmp 17), none⟩,
        ⟨(some 19), .bin .shl (.tmp 18) (.const (.int .u64 24)), none⟩,
        ⟨(some 20), .mov (.tmp 4), none⟩,
        ⟨(some 21), .bin .mul (.const (.int .i64 4)) (.tmp 20), none⟩,
        ⟨(some 22), .bin .add (.tmp 21) (.const (.int .i64 1)), none⟩,
        ⟨(some 23), .atA 64 1 (.tmp 1) (.tmp 22), none⟩,
        ⟨(some 24), .load none (.tmp 23), none⟩,
        ⟨(some 25), .conv .u32 (.tmp 24), none⟩,
        ⟨(some 26), .bin .shl (.tmp 25) (.const (.int .u64 16)), none⟩,
        ⟨(some 27), .bin .or (.tmp 19) (.tmp 26), none⟩,
        ⟨(some 28), .mov (.tmp 4), none⟩,
        ⟨(some 29), .bin .mul (.const (.int .i64 4)) (.tmp 28), none⟩,
        ⟨(some 30), .bin .add (.tmp 29) (.const (.int .i64 2)), none⟩,
        ⟨(some 31), .atA 64 1 (.tmp 1) (.tmp 30), none⟩,
        ⟨(some 32), .load none (.tmp 31), none⟩,
        ⟨(some 33), .conv .u32 (.tmp 32), none⟩,
        ⟨(some 34), .bin .shl (.tmp 33) (.const (.int .u64 8)), none⟩,
        ⟨(some 35), .bin .or (.tmp 27) (.tmp 34), none⟩,
        ⟨(some 36), .mov (.tmp 4), none⟩,
        ⟨(some 37), .bin .mul (.const (.int .i64 4)) (.tmp 36), none⟩,
        ⟨(some 38), .bin .add (.tmp 37) (.const (.int .i64 3)), none⟩,
        ⟨(some 39), .atA 64 1 (.tmp 1) (.tmp 38), none⟩,
        ⟨(some 40), .load none (.tmp 39), none⟩,
        ⟨(some 41), .conv .u32 (.tmp 40), none⟩,
        ⟨(some 42), .bin .or (.tmp 35) (.tmp 41), none⟩,
        ⟨(some 43), .bslice 24 1 1 (.int .u32 0) [(0, (.tmp 42))], none⟩,
        ⟨(some 44), .append 24 1 4 (.tmp 13) (.tmp 43), none⟩,
        ⟨(some 3), .mov (.tmp 44), none⟩])
      (.exit 1))
      .skip))
     (.seq (.ops 7 0 [⟨(some 45), .mov (.tmp 3), none⟩,
       ⟨(some 46), .mov (.tmp 4), none⟩,
       ⟨(some 47), .bin .sub (.tmp 46) (.const (.int .i64 15)), none⟩,
       ⟨(some 48), .atL 1 (.tmp 45) (.tmp 47), none⟩,
       ⟨(some 49), .load none (.tmp 48), none⟩,
       ⟨(some 50), .call (.func 31) [(.tmp 49), (.const (.int .i64 7))], none⟩,
       ⟨(some 51), .mov (.tmp 3), none⟩,
       ⟨(some 52), .mov (.tmp 4), none⟩,
       ⟨(some 53), .bin .sub (.tmp 52) (.const (.int .i64 15)), none⟩,
       ⟨(some 54), .atL 1 (.tmp 51) (.tmp 53), none⟩,
       ⟨(some 55), .load none (.tmp 54), none⟩,
       ⟨(some 56), .call (.func 31) [(.tmp 55), (.const (.int .i64 18))], none⟩,
       ⟨(some 57), .bin .xor (.tmp 50) (.tmp 56), none⟩,
       ⟨(some 58), .mov (.tmp 3), none⟩,
       ⟨(some 59), .mov (.tmp 4), none⟩,
       ⟨(some 60), .bin .sub (.tmp 59) (.const (.int .i64 15)), none⟩,
       ⟨(some 61), .atL 1 (.tmp 58) (.tmp 60), none⟩,
       ⟨(some 62), .load none (.tmp 61), none⟩,
       ⟨(some 63), .bin .shr (.tmp 62) (.const (.int .u64 3)), none⟩,
       ⟨(some 64), .bin .xor (.tmp 57) (.tmp 63), none⟩,
       ⟨(some 5), .mov (.tmp 64), none⟩])
     (.seq (.ops 8 0 [⟨(some 65), .mov (.tmp 3), none⟩,
       ⟨(some 66), .mov (.tmp 4), none⟩,
       ⟨(some 67), .bin .sub (.tmp 66) (.const (.int .i64 2)), none⟩,
       ⟨(some 68), .atL 1 (.tmp 65) (.tmp 67), none⟩,
       ⟨(some 69), .load none (.tmp 68), none⟩,
       ⟨(some 70), .call (.func 31) [(.tmp 69), (.const (.int .i64 17))], none⟩,
       ⟨(some 71), .mov (.tmp 3), none⟩,
       ⟨(some 72), .mov (.tmp 4), none⟩,
       ⟨(some 73), .bin .sub (.tmp 72) (.const (.int .i64 2)), none⟩,
       ⟨(some 74), .atL 1 (.tmp 71) (.tmp 73), none⟩,
       ⟨(some 75), .load none (.tmp 74), none⟩,
       ⟨(some 76), .call (.func 31) [(.tmp 75), (.const (.int .i64 19))], none⟩,
       ⟨(some 77), .bin .xor (.tmp 70) (.tmp 76), none⟩,
       ⟨(some 78), .mov (.tmp 3), none⟩,
       ⟨(some 79), .mov (.tmp 4), none⟩,
       ⟨(some 80), .bin .sub (.tmp 79) (.const (.int .i64 2)), none⟩,
       ⟨(some 81), .atL 1 (.tmp 78) (.tmp 80), none⟩,
       ⟨(some 82), .load none (.tmp 81), none⟩,
       ⟨(some 83), .bin .shr (.tmp 82) (.const (.int .u64 10)), none⟩,
       ⟨(some 84), .bin .xor (.tmp 77) (.tmp 83), none⟩,
       ⟨(some 6), .mov (.tmp 84), none⟩])
     (.ops 9 2 [⟨(some 85), .mov (.tmp 3), none⟩,
       ⟨(some 86), .mov (.tmp 6), none⟩,
       ⟨(some 87), .mov (.tmp 3), none⟩,
       ⟨(some 88), .mov (.tmp 4), none⟩,
       ⟨(some 89), .bin .sub (.tmp 88) (.const (.int .i64 7)), none⟩,
       ⟨(some 90), .atL 1 (.tmp 87) (.tmp 89), none⟩,
       ⟨(some 91), .load none (.tmp 90), none⟩,
       ⟨(some 92), .bin .add (.tmp 86) (.tmp 91), none⟩,
       ⟨(some 93), .mov (.tmp 5), none⟩,
       ⟨(some 94), .bin .add (.tmp 92) (.tmp 93), none⟩,
       ⟨(some 95), .mov (.tmp 3), none⟩,
       ⟨(some 96), .mov (.tmp 4), none⟩,
       ⟨(some 97), .bin .sub (.tmp 96) (.const (.int .i64 16)), none⟩,
       ⟨(some 98), .atL 1 (.tmp 95) (.tmp 97), none⟩,
       ⟨(some 99), .load none (.tmp 98), none⟩,
       ⟨(some 100), .bin .add (.tmp 94) (.tmp 99), none⟩,
       ⟨(some 101), .bslice 24 1 1 (.int .u32 0) [(0, (.tmp 100))], none⟩,
       ⟨(some 102), .append 24 1 4 (.tmp 85) (.tmp 101), none⟩,
       ⟨(some 3), .mov (.tmp 102), none⟩])))))
    (.ops 4 0 [⟨(some 9), .mov (.tmp 4), none⟩,
      ⟨(some 10), .bin .add (.tmp 9) (.const (.int .i64 1)), none⟩,
      ⟨(some 4), .mov (.tmp 10), none⟩])))
def p30 : PF := ⟨(.seq (.ops 0 1 [⟨(some 1), .box 26 (.tmp 0), none⟩,
    ⟨(some 2), .mov (.const (.slice none 0 0)), none⟩])
  (.seq (.ops 1 0 [⟨(some 3), .mov (.const (.slice none 0 0)), none⟩])
  (.seq (.seq (.ops 2 0 [⟨(some 4), .mov (.const (.int .i64 0)), none⟩])
  (.block 0
   (.loop p30_l0)))
  (.seq (.ops 10 0 [⟨(some 103), .mov (.tmp 3), none⟩,
    ⟨(some 2), .mov (.tmp 103), none⟩])
  .ret)))),
  104, [.tmp 2]⟩
theorem c30 : compF Try.prog Q Try.f30 = some p30 := by kernel_rfl
theorem ht30 : HasText Try.prog 30 Try.f30 := ⟨Try.func30, rfl, by decide⟩
-- excise/exciseref24.turn
def p31 : PF := ⟨(.seq (.ops 0 0 [⟨(some 4), .mov (.const (.int .u32 0)), none⟩])
  (.seq (.ops 1 0 [⟨(some 5), .mov (.tmp 0), none⟩,
    ⟨(some 6), .mov (.tmp 1), none⟩,
    ⟨(some 7), .bin .shr (.tmp 5) (.tmp 6), none⟩,
    ⟨(some 8), .mov (.tmp 0), none⟩,
    ⟨(some 9), .mov (.tmp 1), none⟩,
    ⟨(some 10), .bin .sub (.const (.int .i64 32)) (.tmp 9), none⟩,
    ⟨(some 11), .bin .shl (.tmp 8) (.tmp 10), none⟩,
    ⟨(some 12), .bin .or (.tmp 7) (.tmp 11), none⟩,
    ⟨(some 4), .mov (.tmp 12), none⟩])
  .ret)),
  13, [.tmp 4]⟩
theorem c31 : compF Try.prog Q Try.f31 = some p31 := by kernel_rfl
theorem ht31 : HasText Try.prog 31 Try.f31 := ⟨Try.func31, rfl, by decide⟩
-- excise/exciseref24.constant
def p32 : PF := ⟨(.seq (.ops 0 0 [⟨(some 2), .mov (.const (.int .u32 0)), none⟩])
  (.seq (.ops 1 1 [⟨(some 4), .bslice 24 1 64 (.int .u32 0) [(0, (.const (.int .u32 1116352408))), (1, (.const (.int .u32 1899447441))), (2, (.const (.int .u32 3049323471))), (3, (.const (.int .u32 3921009573))), (4, (.const (.int .u32 961987163))), (5, (.const (.int .u32 1508970993))), (6, (.const (.int .u32 2453635748))), (7, (.const (.int .u32 2870763221))), (8, (.const (.int .u32 3624381080))), (9, (.const (.int .u32 310598401))), (10, (.const (.int .u32 607225278))), (11, (.const (.int .u32 1426881987))), (12, (.const (.int .u32 1925078388))), (13, (.const (.int .u32 2162078206))), (14, (.const (.int .u32 2614888103))), (15, (.const (.int .u32 3248222580))), (16, (.const (.int .u32 3835390401))), (17, (.const (.int .u32 4022224774))), (18, (.const (.int .u32 264347078))), (19, (.const (.int .u32 604807628))), (20, (.const (.int .u32 770255983))), (21, (.const (.int .u32 1249150122))), (22, (.const (.int .u32 1555081692))), (23, (.const (.int .u32 1996064986))), (24, (.const (.int .u32 2554220882))), (25, (.const (.int .u32 2821834349))), (26, (.const (.int .u32 2952996808))), (27, (.const (.int .u32 3210313671))), (28, (.const (.int .u32 3336571891))), (29, (.const (.int .u32 3584528711))), (30, (.const (.int .u32 113926993))), (31, (.const (.int .u32 338241895))), (32, (.const (.int .u32 666307205))), (33, (.const (.int .u32 773529912))), (34, (.const (.int .u32 1294757372))), (35, (.const (.int .u32 1396182291))), (36, (.const (.int .u32 1695183700))), (37, (.const (.int .u32 1986661051))), (38, (.const (.int .u32 2177026350))), (39, (.const (.int .u32 2456956037))), (40, (.const (.int .u32 2730485921))), (41, (.const (.int .u32 2820302411))), (42, (.const (.int .u32 3259730800))), (43, (.const (.int .u32 3345764771))), (44, (.const (.int .u32 3516065817))), (45, (.const (.int .u32 3600352804))), (46, (.const (.int .u32 4094571909))), (47, (.const (.int .u32 275423344))), (48, (.const (.int .u32 430227734))), (49, (.const (.int .u32 506948616))), (50, (.const (.int .u32 659060556))), (51, (.const (.int .u32 883997877))), (52, (.const (.int .u32 958139571))), (53, (.const (.int .u32 1322822218))), (54, (.const (.int .u32 1537002063))), (55, (.const (.int .u32 1747873779))), (56, (.const (.int .u32 1955562222))), (57, (.const (.int .u32 2024104815))), (58, (.const (.int .u32 2227730452))), (59, (.const (.int .u32 2361852424))), (60, (.const (.int .u32 2428436474))), (61, (.const (.int .u32 2756734187))), (62, (.const (.int .u32 3204031479))), (63, (.const (.int .u32 3329325298)))], none⟩,
    ⟨(some 3), .mov (.tmp 4), none⟩])
  (.seq (.ops 2 0 [⟨(some 5), .mov (.tmp 3), none⟩,
    ⟨(some 6), .mov (.tmp 0), none⟩,
    ⟨(some 7), .atL 1 (.tmp 5) (.tmp 6), none⟩,
    ⟨(some 8), .load none (.tmp 7), none⟩,
    ⟨(some 2), .mov (.tmp 8), none⟩])
  .ret))),
  9, [.tmp 2]⟩
theorem c32 : compF Try.prog Q Try.f32 = some p32 := by kernel_rfl
theorem ht32 : HasText Try.prog 32 Try.f32 := ⟨Try.func32, rfl, by decide⟩
-- excise/exciseref24.First
def p33 : PF := ⟨(.seq (.ops 0 1 [⟨(some 0), .alloc 25 (.agg [(.int .u32 0), (.int .u32 0), (.int .u32 0), (.int .u32 0), (.int .u32 0), (.int .u32 0), (.int .u32 0), (.int .u32 0)]), none⟩])
  (.seq (.ops 1 0 [⟨(some 1), .build [(.int .u32 0), (.int .u32 0), (.int .u32 0), (.int .u32 0), (.int .u32 0), (.int .u32 0), (.int .u32 0), (.int .u32 0)] [((0, 1), (.const (.int .u32 1779033703))), ((1, 1), (.const (.int .u32 3144134277))), ((2, 1), (.const (.int .u32 1013904242))), ((3, 1), (.const (.int .u32 2773480762))), ((4, 1), (.const (.int .u32 1359893119))), ((5, 1), (.const (.int .u32 2600822924))), ((6, 1), (.const (.int .u32 528734635))), ((7, 1), (.const (.int .u32 1541459225)))], none⟩,
    ⟨none, .store 8 (.tmp 0) (.tmp 1), none⟩])
  .ret)),
  2, [.cell 0 25]⟩
theorem c33 : compF Try.prog Q Try.f33 = some p33 := by kernel_rfl
theorem ht33 : HasText Try.prog 33 Try.f33 := ⟨Try.func33, rfl, by decide⟩
-- excise/sha.first
def p34 : PF := ⟨(.seq (.ops 0 1 [⟨(some 0), .alloc 25 (.agg [(.int .u32 0), (.int .u32 0), (.int .u32 0), (.int .u32 0), (.int .u32 0), (.int .u32 0), (.int .u32 0), (.int .u32 0)]), none⟩])
  (.seq (.ops 1 0 [⟨(some 1), .build [(.int .u32 0), (.int .u32 0), (.int .u32 0), (.int .u32 0), (.int .u32 0), (.int .u32 0), (.int .u32 0), (.int .u32 0)] [((0, 1), (.const (.int .u32 1779033703))), ((1, 1), (.const (.int .u32 3144134277))), ((2, 1), (.const (.int .u32 1013904242))), ((3, 1), (.const (.int .u32 2773480762))), ((4, 1), (.const (.int .u32 1359893119))), ((5, 1), (.const (.int .u32 2600822924))), ((6, 1), (.const (.int .u32 528734635))), ((7, 1), (.const (.int .u32 1541459225)))], none⟩,
    ⟨none, .store 8 (.tmp 0) (.tmp 1), none⟩])
  .ret)),
  2, [.cell 0 25]⟩
theorem c34 : compF Try.prog Q Try.f34 = some p34 := by kernel_rfl
theorem ht34 : HasText Try.prog 34 Try.f34 := ⟨Try.func34, rfl, by decide⟩
-- (*excise/sha.Hash).none
def p35 : PF := ⟨(.seq (.ops 0 0 [⟨(some 2), .mov (.const (.bool false)), none⟩])
  (.seq (.ops 1 0 [⟨(some 3), .mov (.tmp 0), none⟩,
    ⟨(some 4), .cmp false 37 (.tmp 3) (.const (.pointer none)), none⟩,
    ⟨(some 5), .mov (.tmp 4), none⟩,
    ⟨(some 6), .mov (.tmp 0), (some ((some 5), false))⟩,
    ⟨(some 7), .nilCheck (.tmp 6), (some ((some 5), false))⟩,
    ⟨(some 8), .fieldAddr 0 (.tmp 7), (some ((some 5), false))⟩,
    ⟨(some 9), .load none (.tmp 8), (some ((some 5), false))⟩,
    ⟨(some 10), .un .not (.tmp 9), (some ((some 5), false))⟩,
    ⟨(some 11), .pick (.tmp 5) (.const (.bool true)) (.tmp 10), none⟩,
    ⟨(some 2), .mov (.tmp 11), none⟩])
  .ret)),
  12, [.tmp 2]⟩
theorem c35 : compF Try.prog Q Try.f35 = some p35 := by kernel_rfl
theorem ht35 : HasText Try.prog 35 Try.f35 := ⟨Try.func35, rfl, by decide⟩
-- (*excise/sha.Hash).takes
def p36_l0 : PC := (.seq (.seq (.ops 0 0 [⟨(some 7), .mov (.tmp 1), none⟩,
      ⟨(some 8), .lenL (.tmp 7), none⟩,
      ⟨(some 9), .bin .gtr (.tmp 8) (.const (.int .i64 0)), none⟩])
    (.cond (.tmp 9)
     .skip
     (.exit 0)))
    (.block 1
     (.seq (.seq (.ops 1 0 [⟨(some 10), .mov (.tmp 0), none⟩,
       ⟨(some 11), .nilCheck (.tmp 10), none⟩,
       ⟨(some 12), .fieldAddr 9 (.tmp 11), none⟩,
       ⟨(some 13), .load none (.tmp 12), none⟩,
       ⟨(some 14), .lenL (.tmp 13), none⟩,
       ⟨(some 15), .bin .eql (.tmp 14) (.const (.int .i64 0)), none⟩,
       ⟨(some 16), .mov (.tmp 15), none⟩,
       ⟨(some 17), .mov (.tmp 1), (some ((some 16), true))⟩,
       ⟨(some 18), .lenL (.tmp 17), (some ((some 16), true))⟩,
       ⟨(some 19), .bin .geq (.tmp 18) (.const (.int .i64 64)), (some ((some 16), true))⟩,
       ⟨(some 20), .pick (.tmp 16) (.tmp 19) (.const (.bool false)), none⟩])
     (.cond (.tmp 20)
      (.seq (.ops 2 0 [⟨(some 21), .mov (.tmp 0), none⟩,
        ⟨(some 22), .mov (.tmp 0), none⟩,
        ⟨(some 23), .nilCheck (.tmp 22), none⟩,
        ⟨(some 24), .fieldAddr 1 (.tmp 23), none⟩,
        ⟨(some 25), .load (some 8) (.tmp 24), none⟩,
        ⟨(some 26), .mov (.tmp 1), none⟩,
        ⟨(some 27), .sliceL 1 (.tmp 26) none (some (.const (.int .i64 64))), none⟩,
        ⟨(some 28), .toArr 64 (.tmp 27), none⟩,
        ⟨(some 29), .load (some 64) (.tmp 28), none⟩,
        ⟨(some 30), .call (.func 10) [(.tmp 25), (.tmp 29)], none⟩,
        ⟨(some 31), .nilCheck (.tmp 21), none⟩,
        ⟨(some 32), .fieldAddr 1 (.tmp 31), none⟩,
        ⟨none, .store 8 (.tmp 32) (.tmp 30), none⟩])
      (.seq (.ops 3 0 [⟨(some 33), .mov (.tmp 1), none⟩,
        ⟨(some 34), .sliceL 1 (.tmp 33) (some (.const (.int .i64 64))) none, none⟩,
        ⟨(some 1), .mov (.tmp 34), none⟩])
      (.exit 1)))
      .skip))
     (.seq (.ops 4 1 [⟨(some 4), .alloc 26 (.agg [(.int .u8 0), (.int .u8 0), (.int .u8 0), (.int .u8 0), (.int .u8 0), (.int .u8 0), (.int .u8 0), (.int .u8 0), (.int .u8 0), (.int .u8 0), (.int .u8 0), (.int .u8 0), (.int .u8 0), (.int .u8 0), (.int .u8 0), (.int .u8 0), (.int .u8 0), (.int .u8 0), (.int .u8 0), (.int .u8 0), (.int .u8 0), (.int .u8 0), (.int .u8 0), (.int .u8 0), (.int .u8 0), (.int .u8 0), (.int .u8 0), (.int .u8 0), (.int .u8 0), (.int .u8 0), (.int .u8 0), (.int .u8 0), (.int .u8 0), (.int .u8 0), (.int .u8 0), (.int .u8 0), (.int .u8 0), (.int .u8 0), (.int .u8 0), (.int .u8 0), (.int .u8 0), (.int .u8 0), (.int .u8 0), (.int .u8 0), (.int .u8 0), (.int .u8 0), (.int .u8 0), (.int .u8 0), (.int .u8 0), (.int .u8 0), (.int .u8 0), (.int .u8 0), (.int .u8 0), (.int .u8 0), (.int .u8 0), (.int .u8 0), (.int .u8 0), (.int .u8 0), (.int .u8 0), (.int .u8 0), (.int .u8 0), (.int .u8 0), (.int .u8 0), (.int .u8 0)]), none⟩])
     (.seq (.ops 5 0 [⟨(some 35), .sliceA 64 1 (.tmp 4) none none, none⟩,
       ⟨(some 36), .mov (.tmp 0), none⟩,
       ⟨(some 37), .nilCheck (.tmp 36), none⟩,
       ⟨(some 38), .fieldAddr 9 (.tmp 37), none⟩,
       ⟨(some 39), .load none (.tmp 38), none⟩,
       ⟨(some 40), .copy 1 (.tmp 35) (.tmp 39), none⟩,
       ⟨(some 5), .mov (.tmp 40), none⟩])
     (.seq (.ops 6 0 [⟨(some 41), .mov (.tmp 5), none⟩,
       ⟨(some 42), .sliceA 64 1 (.tmp 4) (some (.tmp 41)) none, none⟩,
       ⟨(some 43), .mov (.tmp 1), none⟩,
       ⟨(some 44), .copy 1 (.tmp 42) (.tmp 43), none⟩,
       ⟨(some 6), .mov (.tmp 44), none⟩])
     (.seq (.ops 7 0 [⟨(some 45), .mov (.tmp 1), none⟩,
       ⟨(some 46), .mov (.tmp 6), none⟩,
       ⟨(some 47), .sliceL 1 (.tmp 45) (some (.tmp 46)) none, none⟩,
       ⟨(some 1), .mov (.tmp 47), none⟩])
     (.seq (.seq (.ops 8 0 [⟨(some 48), .mov (.tmp 5), none⟩,
       ⟨(some 49), .mov (.tmp 6), none⟩,
       ⟨(some 50), .bin .add (.tmp 48) (.tmp 49), none⟩,
       ⟨(some 51), .bin .lss (.tmp 50) (.const (.int .i64 64)), none⟩])
     (.cond (.tmp 51)
      (.seq (.ops 9 0 [⟨(some 52), .mov (.tmp 0), none⟩,
        ⟨(some 53), .mov (.tmp 5), none⟩,
        ⟨(some 54), .mov (.tmp 6), none⟩,
        ⟨(some 55), .bin .add (.tmp 53) (.tmp 54), none⟩,
        ⟨(some 56), .sliceA 64 1 (.tmp 4) none (some (.tmp 55)), none⟩,
        ⟨(some 57), .nilCheck (.tmp 52), none⟩,
        ⟨(some 58), .fieldAddr 9 (.tmp 57), none⟩,
        ⟨none, .store 1 (.tmp 58) (.tmp 56), none⟩])
      .ret)
      .skip))
     (.ops2 10 0 [] [⟨(some 59), .mov (.tmp 0), none⟩,
       ⟨(some 60), .mov (.tmp 0), none⟩,
       ⟨(some 61), .mov (.tmp 0), none⟩,
       ⟨(some 62), .nilCheck (.tmp 61), none⟩,
       ⟨(some 63), .fieldAddr 1 (.tmp 62), none⟩,
       ⟨(some 64), .load (some 8) (.tmp 63), none⟩,
       ⟨(some 65), .load (some 64) (.tmp 4), none⟩,
       ⟨(some 66), .call (.func 10) [(.tmp 64), (.tmp 65)], none⟩,
       ⟨(some 67), .nilCheck (.tmp 59), none⟩,
       ⟨(some 68), .fieldAddr 1 (.tmp 67), none⟩,
       ⟨none, .store 8 (.tmp 68) (.tmp 66), none⟩,
       ⟨(some 69), .nilCheck (.tmp 60), none⟩,
       ⟨(some 70), .fieldAddr 9 (.tmp 69), none⟩,
       ⟨none, .store 1 (.tmp 70) (.const (.slice none 0 0)), none⟩] [])))))))))
def p36 : PF := ⟨(.block 0
   (.loop p36_l0)),
  71, []⟩
theorem c36 : compF Try.prog Q Try.f36 = some p36 := by kernel_rfl
theorem ht36 : HasText Try.prog 36 Try.f36 := ⟨Try.func36, rfl, by decide⟩
-- excise/sha.digit
theorem ht37 : HasText Try.prog 37 Try.f37 := ⟨Try.func37, rfl, by decide⟩
-- excise/exciseref24.digit
theorem ht38 : HasText Try.prog 38 Try.f38 := ⟨Try.func38, rfl, by decide⟩
-- excise/sha.turn
def p39 : PF := ⟨(.seq (.ops 0 0 [⟨(some 4), .mov (.const (.int .u32 0)), none⟩])
  (.seq (.ops 1 0 [⟨(some 5), .mov (.tmp 0), none⟩,
    ⟨(some 6), .mov (.tmp 1), none⟩,
    ⟨(some 7), .bin .shr (.tmp 5) (.tmp 6), none⟩,
    ⟨(some 8), .mov (.tmp 0), none⟩,
    ⟨(some 9), .mov (.tmp 1), none⟩,
    ⟨(some 10), .bin .sub (.const (.int .i64 32)) (.tmp 9), none⟩,
    ⟨(some 11), .bin .shl (.tmp 8) (.tmp 10), none⟩,
    ⟨(some 12), .bin .or (.tmp 7) (.tmp 11), none⟩,
    ⟨(some 4), .mov (.tmp 12), none⟩])
  .ret)),
  13, [.tmp 4]⟩
theorem c39 : compF Try.prog Q Try.f39 = some p39 := by kernel_rfl
theorem ht39 : HasText Try.prog 39 Try.f39 := ⟨Try.func39, rfl, by decide⟩
end Go.Proofs.Ytiijphmpkmmpjaa
