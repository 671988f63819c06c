/- Written by merging: Rk Rl Rm Rn Rp Rr Rs. -/
import Derived.Test.YtddalcnajejibaaDoorNa
namespace Go.Proofs.YtddalcnajejibaaDoor
open Go Go.Am Go.RowKit
set_option maxRecDepth 100000
set_option maxHeartbeats 1000000
set_option linter.unusedVariables false
set_option linter.unusedSimpArgs false
def sHalf : List AV → Option AV
  | [.int .u64 a, .int .u64 b] => if u64B a && u64B b then some (.tup [.int .u64 (a * b / 18446744073709551616), .int .u64 (a * b % 18446744073709551616)]) else none
  | _ => none
def sPlus : List AV → Option AV
  | [.int .u64 a, .int .u64 b, .int .u64 c] => if u64B a && u64B b && u64B c then some (.tup [.int .u64 ((a + b + c) % 18446744073709551616), .int .u64 ((a + b + c) / 18446744073709551616)]) else none
  | _ => none
def tbL : List TbE := [⟨84, fun vs _ => sHalf vs, .tup [i64, i64]⟩, ⟨85, fun vs _ => sPlus vs, .tup [i64, i64]⟩]
def CL : Cfg := tbC Q tbL (fun _ => false) kdU
theorem v77 (a b : Int) (R : AV → AHeap → Prop) : (R (AV.tup [AV.int .u64 (IntKind.wrap .u64 (IntKind.wrap .u64 (IntKind.wrap .u64 (Int.fdiv a (2 ^ min 32 (IntKind.bits .u64)) * Int.fdiv b (2 ^ min 32 (IntKind.bits .u64))) + Int.fdiv (IntKind.wrap .u64 (IntKind.wrap .u64 (Int.fdiv a (2 ^ min 32 (IntKind.bits .u64)) * IntKind.wrap .u64 (↑(BitVec.toNat (BitVec.ofInt (IntKind.bits .u64) b &&& BitVec.ofInt (IntKind.bits .u64) 4294967295)) : Int)) + Int.fdiv (IntKind.wrap .u64 (IntKind.wrap .u64 (↑(BitVec.toNat (BitVec.ofInt (IntKind.bits .u64) a &&& BitVec.ofInt (IntKind.bits .u64) 4294967295)) : Int) * IntKind.wrap .u64 (↑(BitVec.toNat (BitVec.ofInt (IntKind.bits .u64) b &&& BitVec.ofInt (IntKind.bits .u64) 4294967295)) : Int))) (2 ^ min 32 (IntKind.bits .u64)))) (2 ^ min 32 (IntKind.bits .u64))) + Int.fdiv (IntKind.wrap .u64 (IntKind.wrap .u64 (IntKind.wrap .u64 (↑(BitVec.toNat (BitVec.ofInt (IntKind.bits .u64) a &&& BitVec.ofInt (IntKind.bits .u64) 4294967295)) : Int) * Int.fdiv b (2 ^ min 32 (IntKind.bits .u64))) + IntKind.wrap .u64 (↑(BitVec.toNat (BitVec.ofInt (IntKind.bits .u64) (IntKind.wrap .u64 (IntKind.wrap .u64 (Int.fdiv a (2 ^ min 32 (IntKind.bits .u64)) * IntKind.wrap .u64 (↑(BitVec.toNat (BitVec.ofInt (IntKind.bits .u64) b &&& BitVec.ofInt (IntKind.bits .u64) 4294967295)) : Int)) + Int.fdiv (IntKind.wrap .u64 (IntKind.wrap .u64 (↑(BitVec.toNat (BitVec.ofInt (IntKind.bits .u64) a &&& BitVec.ofInt (IntKind.bits .u64) 4294967295)) : Int) * IntKind.wrap .u64 (↑(BitVec.toNat (BitVec.ofInt (IntKind.bits .u64) b &&& BitVec.ofInt (IntKind.bits .u64) 4294967295)) : Int))) (2 ^ min 32 (IntKind.bits .u64)))) &&& BitVec.ofInt (IntKind.bits .u64) 4294967295)) : Int))) (2 ^ min 32 (IntKind.bits .u64)))), AV.int .u64 (IntKind.wrap .u64 (↑(BitVec.toNat (BitVec.ofInt (IntKind.bits .u64) (IntKind.wrap .u64 (IntKind.wrap .u64 (IntKind.wrap .u64 (IntKind.wrap .u64 (↑(BitVec.toNat (BitVec.ofInt (IntKind.bits .u64) a &&& BitVec.ofInt (IntKind.bits .u64) 4294967295)) : Int) * Int.fdiv b (2 ^ min 32 (IntKind.bits .u64))) + IntKind.wrap .u64 (↑(BitVec.toNat (BitVec.ofInt (IntKind.bits .u64) (IntKind.wrap .u64 (IntKind.wrap .u64 (Int.fdiv a (2 ^ min 32 (IntKind.bits .u64)) * IntKind.wrap .u64 (↑(BitVec.toNat (BitVec.ofInt (IntKind.bits .u64) b &&& BitVec.ofInt (IntKind.bits .u64) 4294967295)) : Int)) + Int.fdiv (IntKind.wrap .u64 (IntKind.wrap .u64 (↑(BitVec.toNat (BitVec.ofInt (IntKind.bits .u64) a &&& BitVec.ofInt (IntKind.bits .u64) 4294967295)) : Int) * IntKind.wrap .u64 (↑(BitVec.toNat (BitVec.ofInt (IntKind.bits .u64) b &&& BitVec.ofInt (IntKind.bits .u64) 4294967295)) : Int))) (2 ^ min 32 (IntKind.bits .u64)))) &&& BitVec.ofInt (IntKind.bits .u64) 4294967295)) : Int)) * 2 ^ min 32 (IntKind.bits .u64))) ||| BitVec.ofInt (IntKind.bits .u64) (IntKind.wrap .u64 (↑(BitVec.toNat (BitVec.ofInt (IntKind.bits .u64) (IntKind.wrap .u64 (IntKind.wrap .u64 (↑(BitVec.toNat (BitVec.ofInt (IntKind.bits .u64) a &&& BitVec.ofInt (IntKind.bits .u64) 4294967295)) : Int) * IntKind.wrap .u64 (↑(BitVec.toNat (BitVec.ofInt (IntKind.bits .u64) b &&& BitVec.ofInt (IntKind.bits .u64) 4294967295)) : Int))) &&& BitVec.ofInt (IntKind.bits .u64) 4294967295)) : Int)))) : Int))]) []) = (wpF Tryd.prog CL0 60 p77 [.int .u64 a, .int .u64 b] [] R) := by kernel_rfl
theorem v78 (a b c : Int) (R : AV → AHeap → Prop) : (askB (decide (IntKind.wrap .u64 (a + b) < a)) (askB (decide (IntKind.wrap .u64 (IntKind.wrap .u64 (a + b) + c) < IntKind.wrap .u64 (a + b))) (R (AV.tup [AV.int .u64 (IntKind.wrap .u64 (IntKind.wrap .u64 (a + b) + c)), AV.int .u64 2]) []) (R (AV.tup [AV.int .u64 (IntKind.wrap .u64 (IntKind.wrap .u64 (a + b) + c)), AV.int .u64 1]) [])) (askB (decide (IntKind.wrap .u64 (IntKind.wrap .u64 (a + b) + c) < IntKind.wrap .u64 (a + b))) (R (AV.tup [AV.int .u64 (IntKind.wrap .u64 (IntKind.wrap .u64 (a + b) + c)), AV.int .u64 1]) []) (R (AV.tup [AV.int .u64 (IntKind.wrap .u64 (IntKind.wrap .u64 (a + b) + c)), AV.int .u64 0]) []))) = (wpF Tryd.prog CL0 60 p78 [.int .u64 a, .int .u64 b, .int .u64 c] [] R) := by kernel_rfl
theorem v67 (a : Int) (R : AV → AHeap → Prop) : (R (AV.agg [AV.int .u64 a, AV.int .u64 0, AV.int .u64 0, AV.int .u64 0]) [AObj.row 24 4 [AV.int .u64 a, AV.int .u64 0, AV.int .u64 0, AV.int .u64 0]]) = (wpF Tryd.prog CL0 60 p67 [.int .u64 a] [] R) := by kernel_rfl
theorem v66 (a0 a1 a2 a3 b0 b1 b2 b3 : Int) (R : AV → AHeap → Prop) : (∃ (n : Int), ∃ (n_1 : Int), TbE.s { f := 84, s := fun (vs : List AV) (x : AHeap) => sHalf vs, r := Rs.tup [i64, i64] } [AV.int .u64 a0, AV.int .u64 b0] [AObj.row 24 4 [AV.int .u64 a0, AV.int .u64 a1, AV.int .u64 a2, AV.int .u64 a3], AObj.row 24 4 [AV.int .u64 b0, AV.int .u64 b1, AV.int .u64 b2, AV.int .u64 b3], AObj.row 24 4 [AV.int .u64 0, AV.int .u64 0, AV.int .u64 0, AV.int .u64 0], AObj.row 24 4 [AV.int .u64 0, AV.int .u64 0, AV.int .u64 0, AV.int .u64 0], AObj.row 106 8 [AV.int .u64 0, AV.int .u64 0, AV.int .u64 0, AV.int .u64 0, AV.int .u64 0, AV.int .u64 0, AV.int .u64 0, AV.int .u64 0]] = some (AV.tup [AV.int .u64 n, AV.int .u64 n_1]) ∧ ∃ (n_2 : Int), ∃ (n_3 : Int), TbE.s { f := 85, s := fun (vs : List AV) (x : AHeap) => sPlus vs, r := Rs.tup [i64, i64] } [AV.int .u64 0, AV.int .u64 n_1, AV.int .u64 0] [AObj.row 24 4 [AV.int .u64 a0, AV.int .u64 a1, AV.int .u64 a2, AV.int .u64 a3], AObj.row 24 4 [AV.int .u64 b0, AV.int .u64 b1, AV.int .u64 b2, AV.int .u64 b3], AObj.row 24 4 [AV.int .u64 0, AV.int .u64 0, AV.int .u64 0, AV.int .u64 0], AObj.row 24 4 [AV.int .u64 0, AV.int .u64 0, AV.int .u64 0, AV.int .u64 0], AObj.row 106 8 [AV.int .u64 0, AV.int .u64 0, AV.int .u64 0, AV.int .u64 0, AV.int .u64 0, AV.int .u64 0, AV.int .u64 0, AV.int .u64 0]] = some (AV.tup [AV.int .u64 n_2, AV.int .u64 n_3]) ∧ ∃ (n_4 : Int), ∃ (n_5 : Int), TbE.s { f := 84, s := fun (vs : List AV) (x : AHeap) => sHalf vs, r := Rs.tup [i64, i64] } [AV.int .u64 a0, AV.int .u64 b1] [AObj.row 24 4 [AV.int .u64 a0, AV.int .u64 a1, AV.int .u64 a2, AV.int .u64 a3], AObj.row 24 4 [AV.int .u64 b0, AV.int .u64 b1, AV.int .u64 b2, AV.int .u64 b3], AObj.row 24 4 [AV.int .u64 0, AV.int .u64 0, AV.int .u64 0, AV.int .u64 0], AObj.row 24 4 [AV.int .u64 0, AV.int .u64 0, AV.int .u64 0, AV.int .u64 0], AObj.row 106 8 [AV.int .u64 n_2, AV.int .u64 0, AV.int .u64 0, AV.int .u64 0, AV.int .u64 0, AV.int .u64 0, AV.int .u64 0, AV.int .u64 0]] = some (AV.tup [AV.int .u64 n_4, AV.int .u64 n_5]) ∧ ∃ (n_6 : Int), ∃ (n_7 : Int), TbE.s { f := 85, s := fun (vs : List AV) (x : AHeap) => sPlus vs, r := Rs.tup [i64, i64] } [AV.int .u64 0, AV.int .u64 n_5, AV.int .u64 (IntKind.wrap .u64 (n + n_3))] [AObj.row 24 4 [AV.int .u64 a0, AV.int .u64 a1, AV.int .u64 a2, AV.int .u64 a3], AObj.row 24 4 [AV.int .u64 b0, AV.int .u64 b1, AV.int .u64 b2, AV.int .u64 b3], AObj.row 24 4 [AV.int .u64 0, AV.int .u64 0, AV.int .u64 0, AV.int .u64 0], AObj.row 24 4 [AV.int .u64 0, AV.int .u64 0, AV.int .u64 0, AV.int .u64 0], AObj.row 106 8 [AV.int .u64 n_2, AV.int .u64 0, AV.int .u64 0, AV.int .u64 0, AV.int .u64 0, AV.int .u64 0, AV.int .u64 0, AV.int .u64 0]] = some (AV.tup [AV.int .u64 n_6, AV.int .u64 n_7]) ∧ ∃ (n : Int), ∃ (n_8 : Int), TbE.s { f := 84, s := fun (vs : List AV) (x : AHeap) => sHalf vs, r := Rs.tup [i64, i64] } [AV.int .u64 a0, AV.int .u64 b2] [AObj.row 24 4 [AV.int .u64 a0, AV.int .u64 a1, AV.int .u64 a2, AV.int .u64 a3], AObj.row 24 4 [AV.int .u64 b0, AV.int .u64 b1, AV.int .u64 b2, AV.int .u64 b3], AObj.row 24 4 [AV.int .u64 0, AV.int .u64 0, AV.int .u64 0, AV.int .u64 0], AObj.row 24 4 [AV.int .u64 0, AV.int .u64 0, AV.int .u64 0, AV.int .u64 0], AObj.row 106 8 [AV.int .u64 n_2, AV.int .u64 n_6, AV.int .u64 0, AV.int .u64 0, AV.int .u64 0, AV.int .u64 0, AV.int .u64 0, AV.int .u64 0]] = some (AV.tup [AV.int .u64 n, AV.int .u64 n_8]) ∧ ∃ (n_9 : Int), ∃ (n_10 : Int), TbE.s { f := 85, s := fun (vs : List AV) (x : AHeap) => sPlus vs, r := Rs.tup [i64, i64] } [AV.int .u64 0, AV.int .u64 n_8, AV.int .u64 (IntKind.wrap .u64 (n_4 + n_7))] [AObj.row 24 4 [AV.int .u64 a0, AV.int .u64 a1, AV.int .u64 a2, AV.int .u64 a3], AObj.row 24 4 [AV.int .u64 b0, AV.int .u64 b1, AV.int .u64 b2, AV.int .u64 b3], AObj.row 24 4 [AV.int .u64 0, AV.int .u64 0, AV.int .u64 0, AV.int .u64 0], AObj.row 24 4 [AV.int .u64 0, AV.int .u64 0, AV.int .u64 0, AV.int .u64 0], AObj.row 106 8 [AV.int .u64 n_2, AV.int .u64 n_6, AV.int .u64 0, AV.int .u64 0, AV.int .u64 0, AV.int .u64 0, AV.int .u64 0, AV.int .u64 0]] = some (AV.tup [AV.int .u64 n_9, AV.int .u64 n_10]) ∧ ∃ (n_11 : Int), ∃ (n_12 : Int), TbE.s { f := 84, s := fun (vs : List AV) (x : AHeap) => sHalf vs, r := Rs.tup [i64, i64] } [AV.int .u64 a0, AV.int .u64 b3] [AObj.row 24 4 [AV.int .u64 a0, AV.int .u64 a1, AV.int .u64 a2, AV.int .u64 a3], AObj.row 24 4 [AV.int .u64 b0, AV.int .u64 b1, AV.int .u64 b2, AV.int .u64 b3], AObj.row 24 4 [AV.int .u64 0, AV.int .u64 0, AV.int .u64 0, AV.int .u64 0], AObj.row 24 4 [AV.int .u64 0, AV.int .u64 0, AV.int .u64 0, AV.int .u64 0], AObj.row 106 8 [AV.int .u64 n_2, AV.int .u64 n_6, AV.int .u64 n_9, AV.int .u64 0, AV.int .u64 0, AV.int .u64 0, AV.int .u64 0, AV.int .u64 0]] = some (AV.tup [AV.int .u64 n_11, AV.int .u64 n_12]) ∧ ∃ (n_13 : Int), ∃ (n_14 : Int), TbE.s { f := 85, s := fun (vs : List AV) (x : AHeap) => sPlus vs, r := Rs.tup [i64, i64] } [AV.int .u64 0, AV.int .u64 n_12, AV.int .u64 (IntKind.wrap .u64 (n + n_10))] [AObj.row 24 4 [AV.int .u64 a0, AV.int .u64 a1, AV.int .u64 a2, AV.int .u64 a3], AObj.row 24 4 [AV.int .u64 b0, AV.int .u64 b1, AV.int .u64 b2, AV.int .u64 b3], AObj.row 24 4 [AV.int .u64 0, AV.int .u64 0, AV.int .u64 0, AV.int .u64 0], AObj.row 24 4 [AV.int .u64 0, AV.int .u64 0, AV.int .u64 0, AV.int .u64 0], AObj.row 106 8 [AV.int .u64 n_2, AV.int .u64 n_6, AV.int .u64 n_9, AV.int .u64 0, AV.int .u64 0, AV.int .u64 0, AV.int .u64 0, AV.int .u64 0]] = some (AV.tup [AV.int .u64 n_13, AV.int .u64 n_14]) ∧ ∃ (n : Int), ∃ (n_15 : Int), TbE.s { f := 84, s := fun (vs : List AV) (x : AHeap) => sHalf vs, r := Rs.tup [i64, i64] } [AV.int .u64 a1, AV.int .u64 b0] [AObj.row 24 4 [AV.int .u64 a0, AV.int .u64 a1, AV.int .u64 a2, AV.int .u64 a3], AObj.row 24 4 [AV.int .u64 b0, AV.int .u64 b1, AV.int .u64 b2, AV.int .u64 b3], AObj.row 24 4 [AV.int .u64 0, AV.int .u64 0, AV.int .u64 0, AV.int .u64 0], AObj.row 24 4 [AV.int .u64 0, AV.int .u64 0, AV.int .u64 0, AV.int .u64 0], AObj.row 106 8 [AV.int .u64 n_2, AV.int .u64 n_6, AV.int .u64 n_9, AV.int .u64 n_13, AV.int .u64 (IntKind.wrap .u64 (n_11 + n_14)), AV.int .u64 0, AV.int .u64 0, AV.int .u64 0]] = some (AV.tup [AV.int .u64 n, AV.int .u64 n_15]) ∧ ∃ (n_16 : Int), ∃ (n_17 : Int), TbE.s { f := 85, s := fun (vs : List AV) (x : AHeap) => sPlus vs, r := Rs.tup [i64, i64] } [AV.int .u64 n_6, AV.int .u64 n_15, AV.int .u64 0] [AObj.row 24 4 [AV.int .u64 a0, AV.int .u64 a1, AV.int .u64 a2, AV.int .u64 a3], AObj.row 24 4 [AV.int .u64 b0, AV.int .u64 b1, AV.int .u64 b2, AV.int .u64 b3], AObj.row 24 4 [AV.int .u64 0, AV.int .u64 0, AV.int .u64 0, AV.int .u64 0], AObj.row 24 4 [AV.int .u64 0, AV.int .u64 0, AV.int .u64 0, AV.int .u64 0], AObj.row 106 8 [AV.int .u64 n_2, AV.int .u64 n_6, AV.int .u64 n_9, AV.int .u64 n_13, AV.int .u64 (IntKind.wrap .u64 (n_11 + n_14)), AV.int .u64 0, AV.int .u64 0, AV.int .u64 0]] = some (AV.tup [AV.int .u64 n_16, AV.int .u64 n_17]) ∧ ∃ (n_18 : Int), ∃ (n_19 : Int), TbE.s { f := 84, s := fun (vs : List AV) (x : AHeap) => sHalf vs, r := Rs.tup [i64, i64] } [AV.int .u64 a1, AV.int .u64 b1] [AObj.row 24 4 [AV.int .u64 a0, AV.int .u64 a1, AV.int .u64 a2, AV.int .u64 a3], AObj.row 24 4 [AV.int .u64 b0, AV.int .u64 b1, AV.int .u64 b2, AV.int .u64 b3], AObj.row 24 4 [AV.int .u64 0, AV.int .u64 0, AV.int .u64 0, AV.int .u64 0], AObj.row 24 4 [AV.int .u64 0, AV.int .u64 0, AV.int .u64 0, AV.int .u64 0], AObj.row 106 8 [AV.int .u64 n_2, AV.int .u64 n_16, AV.int .u64 n_9, AV.int .u64 n_13, AV.int .u64 (IntKind.wrap .u64 (n_11 + n_14)), AV.int .u64 0, AV.int .u64 0, AV.int .u64 0]] = some (AV.tup [AV.int .u64 n_18, AV.int .u64 n_19]) ∧ ∃ (n_20 : Int), ∃ (n_21 : Int), TbE.s { f := 85, s := fun (vs : List AV) (x : AHeap) => sPlus vs, r := Rs.tup [i64, i64] } [AV.int .u64 n_9, AV.int .u64 n_19, AV.int .u64 (IntKind.wrap .u64 (n + n_17))] [AObj.row 24 4 [AV.int .u64 a0, AV.int .u64 a1, AV.int .u64 a2, AV.int .u64 a3], AObj.row 24 4 [AV.int .u64 b0, AV.int .u64 b1, AV.int .u64 b2, AV.int .u64 b3], AObj.row 24 4 [AV.int .u64 0, AV.int .u64 0, AV.int .u64 0, AV.int .u64 0], AObj.row 24 4 [AV.int .u64 0, AV.int .u64 0, AV.int .u64 0, AV.int .u64 0], AObj.row 106 8 [AV.int .u64 n_2, AV.int .u64 n_16, AV.int .u64 n_9, AV.int .u64 n_13, AV.int .u64 (IntKind.wrap .u64 (n_11 + n_14)), AV.int .u64 0, AV.int .u64 0, AV.int .u64 0]] = some (AV.tup [AV.int .u64 n_20, AV.int .u64 n_21]) ∧ ∃ (n : Int), ∃ (n_22 : Int), TbE.s { f := 84, s := fun (vs : List AV) (x : AHeap) => sHalf vs, r := Rs.tup [i64, i64] } [AV.int .u64 a1, AV.int .u64 b2] [AObj.row 24 4 [AV.int .u64 a0, AV.int .u64 a1, AV.int .u64 a2, AV.int .u64 a3], AObj.row 24 4 [AV.int .u64 b0, AV.int .u64 b1, AV.int .u64 b2, AV.int .u64 b3], AObj.row 24 4 [AV.int .u64 0, AV.int .u64 0, AV.int .u64 0, AV.int .u64 0], AObj.row 24 4 [AV.int .u64 0, AV.int .u64 0, AV.int .u64 0, AV.int .u64 0], AObj.row 106 8 [AV.int .u64 n_2, AV.int .u64 n_16, AV.int .u64 n_20, AV.int .u64 n_13, AV.int .u64 (IntKind.wrap .u64 (n_11 + n_14)), AV.int .u64 0, AV.int .u64 0, AV.int .u64 0]] = some (AV.tup [AV.int .u64 n, AV.int .u64 n_22]) ∧ ∃ (n_23 : Int), ∃ (n_24 : Int), TbE.s { f := 85, s := fun (vs : List AV) (x : AHeap) => sPlus vs, r := Rs.tup [i64, i64] } [AV.int .u64 n_13, AV.int .u64 n_22, AV.int .u64 (IntKind.wrap .u64 (n_18 + n_21))] [AObj.row 24 4 [AV.int .u64 a0, AV.int .u64 a1, AV.int .u64 a2, AV.int .u64 a3], AObj.row 24 4 [AV.int .u64 b0, AV.int .u64 b1, AV.int .u64 b2, AV.int .u64 b3], AObj.row 24 4 [AV.int .u64 0, AV.int .u64 0, AV.int .u64 0, AV.int .u64 0], AObj.row 24 4 [AV.int .u64 0, AV.int .u64 0, AV.int .u64 0, AV.int .u64 0], AObj.row 106 8 [AV.int .u64 n_2, AV.int .u64 n_16, AV.int .u64 n_20, AV.int .u64 n_13, AV.int .u64 (IntKind.wrap .u64 (n_11 + n_14)), AV.int .u64 0, AV.int .u64 0, AV.int .u64 0]] = some (AV.tup [AV.int .u64 n_23, AV.int .u64 n_24]) ∧ ∃ (n_25 : Int), ∃ (n_26 : Int), TbE.s { f := 84, s := fun (vs : List AV) (x : AHeap) => sHalf vs, r := Rs.tup [i64, i64] } [AV.int .u64 a1, AV.int .u64 b3] [AObj.row 24 4 [AV.int .u64 a0, AV.int .u64 a1, AV.int .u64 a2, AV.int .u64 a3], AObj.row 24 4 [AV.int .u64 b0, AV.int .u64 b1, AV.int .u64 b2, AV.int .u64 b3], AObj.row 24 4 [AV.int .u64 0, AV.int .u64 0, AV.int .u64 0, AV.int .u64 0], AObj.row 24 4 [AV.int .u64 0, AV.int .u64 0, AV.int .u64 0, AV.int .u64 0], AObj.row 106 8 [AV.int .u64 n_2, AV.int .u64 n_16, AV.int .u64 n_20, AV.int .u64 n_23, AV.int .u64 (IntKind.wrap .u64 (n_11 + n_14)), AV.int .u64 0, AV.int .u64 0, AV.int .u64 0]] = some (AV.tup [AV.int .u64 n_25, AV.int .u64 n_26]) ∧ ∃ (n_27 : Int), ∃ (n_28 : Int), TbE.s { f := 85, s := fun (vs : List AV) (x : AHeap) => sPlus vs, r := Rs.tup [i64, i64] } [AV.int .u64 (IntKind.wrap .u64 (n_11 + n_14)), AV.int .u64 n_26, AV.int .u64 (IntKind.wrap .u64 (n + n_24))] [AObj.row 24 4 [AV.int .u64 a0, AV.int .u64 a1, AV.int .u64 a2, AV.int .u64 a3], AObj.row 24 4 [AV.int .u64 b0, AV.int .u64 b1, AV.int .u64 b2, AV.int .u64 b3], AObj.row 24 4 [AV.int .u64 0, AV.int .u64 0, AV.int .u64 0, AV.int .u64 0], AObj.row 24 4 [AV.int .u64 0, AV.int .u64 0, AV.int .u64 0, AV.int .u64 0], AObj.row 106 8 [AV.int .u64 n_2, AV.int .u64 n_16, AV.int .u64 n_20, AV.int .u64 n_23, AV.int .u64 (IntKind.wrap .u64 (n_11 + n_14)), AV.int .u64 0, AV.int .u64 0, AV.int .u64 0]] = some (AV.tup [AV.int .u64 n_27, AV.int .u64 n_28]) ∧ ∃ (n : Int), ∃ (n_29 : Int), TbE.s { f := 84, s := fun (vs : List AV) (x : AHeap) => sHalf vs, r := Rs.tup [i64, i64] } [AV.int .u64 a2, AV.int .u64 b0] [AObj.row 24 4 [AV.int .u64 a0, AV.int .u64 a1, AV.int .u64 a2, AV.int .u64 a3], AObj.row 24 4 [AV.int .u64 b0, AV.int .u64 b1, AV.int .u64 b2, AV.int .u64 b3], AObj.row 24 4 [AV.int .u64 0, AV.int .u64 0, AV.int .u64 0, AV.int .u64 0], AObj.row 24 4 [AV.int .u64 0, AV.int .u64 0, AV.int .u64 0, AV.int .u64 0], AObj.row 106 8 [AV.int .u64 n_2, AV.int .u64 n_16, AV.int .u64 n_20, AV.int .u64 n_23, AV.int .u64 n_27, AV.int .u64 (IntKind.wrap .u64 (n_25 + n_28)), AV.int .u64 0, AV.int .u64 0]] = some (AV.tup [AV.int .u64 n, AV.int .u64 n_29]) ∧ ∃ (n_30 : Int), ∃ (n_31 : Int), TbE.s { f := 85, s := fun (vs : List AV) (x : AHeap) => sPlus vs, r := Rs.tup [i64, i64] } [AV.int .u64 n_20, AV.int .u64 n_29, AV.int .u64 0] [AObj.row 24 4 [AV.int .u64 a0, AV.int .u64 a1, AV.int .u64 a2, AV.int .u64 a3], AObj.row 24 4 [AV.int .u64 b0, AV.int .u64 b1, AV.int .u64 b2, AV.int .u64 b3], AObj.row 24 4 [AV.int .u64 0, AV.int .u64 0, AV.int .u64 0, AV.int .u64 0], AObj.row 24 4 [AV.int .u64 0, AV.int .u64 0, AV.int .u64 0, AV.int .u64 0], AObj.row 106 8 [AV.int .u64 n_2, AV.int .u64 n_16, AV.int .u64 n_20, AV.int .u64 n_23, AV.int .u64 n_27, AV.int .u64 (IntKind.wrap .u64 (n_25 + n_28)), AV.int .u64 0, AV.int .u64 0]] = some (AV.tup [AV.int .u64 n_30, AV.int .u64 n_31]) ∧ ∃ (n_32 : Int), ∃ (n_33 : Int), TbE.s { f := 84, s := fun (vs : List AV) (x : AHeap) => sHalf vs, r := Rs.tup [i64, i64] } [AV.int .u64 a2, AV.int .u64 b1] [AObj.row 24 4 [AV.int .u64 a0, AV.int .u64 a1, AV.int .u64 a2, AV.int .u64 a3], AObj.row 24 4 [AV.int .u64 b0, AV.int .u64 b1, AV.int .u64 b2, AV.int .u64 b3], AObj.row 24 4 [AV.int .u64 0, AV.int .u64 0, AV.int .u64 0, AV.int .u64 0], AObj.row 24 4 [AV.int .u64 0, AV.int .u64 0, AV.int .u64 0, AV.int .u64 0], AObj.row 106 8 [AV.int .u64 n_2, AV.int .u64 n_16, AV.int .u64 n_30, AV.int .u64 n_23, AV.int .u64 n_27, AV.int .u64 (IntKind.wrap .u64 (n_25 + n_28)), AV.int .u64 0, AV.int .u64 0]] = some (AV.tup [AV.int .u64 n_32, AV.int .u64 n_33]) ∧ ∃ (n_34 : Int), ∃ (n_35 : Int), TbE.s { f := 85, s := fun (vs : List AV) (x : AHeap) => sPlus vs, r := Rs.tup [i64, i64] } [AV.int .u64 n_23, AV.int .u64 n_33, AV.int .u64 (IntKind.wrap .u64 (n + n_31))] [AObj.row 24 4 [AV.int .u64 a0, AV.int .u64 a1, AV.int .u64 a2, AV.int .u64 a3], AObj.row 24 4 [AV.int .u64 b0, AV.int .u64 b1, AV.int .u64 b2, AV.int .u64 b3], AObj.row 24 4 [AV.int .u64 0, AV.int .u64 0, AV.int .u64 0, AV.int .u64 0], AObj.row 24 4 [AV.int .u64 0, AV.int .u64 0, AV.int .u64 0, AV.int .u64 0], AObj.row 106 8 [AV.int .u64 n_2, AV.int .u64 n_16, AV.int .u64 n_30, AV.int .u64 n_23, AV.int .u64 n_27, AV.int .u64 (IntKind.wrap .u64 (n_25 + n_28)), AV.int .u64 0, AV.int .u64 0]] = some (AV.tup [AV.int .u64 n_34, AV.int .u64 n_35]) ∧ ∃ (n : Int), ∃ (n_36 : Int), TbE.s { f := 84, s := fun (vs : List AV) (x : AHeap) => sHalf vs, r := Rs.tup [i64, i64] } [AV.int .u64 a2, AV.int .u64 b2] [AObj.row 24 4 [AV.int .u64 a0, AV.int .u64 a1, AV.int .u64 a2, AV.int .u64 a3], AObj.row 24 4 [AV.int .u64 b0, AV.int .u64 b1, AV.int .u64 b2, AV.int .u64 b3], AObj.row 24 4 [AV.int .u64 0, AV.int .u64 0, AV.int .u64 0, AV.int .u64 0], AObj.row 24 4 [AV.int .u64 0, AV.int .u64 0, AV.int .u64 0, AV.int .u64 0], AObj.row 106 8 [AV.int .u64 n_2, AV.int .u64 n_16, AV.int .u64 n_30, AV.int .u64 n_34, AV.int .u64 n_27, AV.int .u64 (IntKind.wrap .u64 (n_25 + n_28)), AV.int .u64 0, AV.int .u64 0]] = some (AV.tup [AV.int .u64 n, AV.int .u64 n_36]) ∧ ∃ (n_37 : Int), ∃ (n_38 : Int), TbE.s { f := 85, s := fun (vs : List AV) (x : AHeap) => sPlus vs, r := Rs.tup [i64, i64] } [AV.int .u64 n_27, AV.int .u64 n_36, AV.int .u64 (IntKind.wrap .u64 (n_32 + n_35))] [AObj.row 24 4 [AV.int .u64 a0, AV.int .u64 a1, AV.int .u64 a2, AV.int .u64 a3], AObj.row 24 4 [AV.int .u64 b0, AV.int .u64 b1, AV.int .u64 b2, AV.int .u64 b3], AObj.row 24 4 [AV.int .u64 0, AV.int .u64 0, AV.int .u64 0, AV.int .u64 0], AObj.row 24 4 [AV.int .u64 0, AV.int .u64 0, AV.int .u64 0, AV.int .u64 0], AObj.row 106 8 [AV.int .u64 n_2, AV.int .u64 n_16, AV.int .u64 n_30, AV.int .u64 n_34, AV.int .u64 n_27, AV.int .u64 (IntKind.wrap .u64 (n_25 + n_28)), AV.int .u64 0, AV.int .u64 0]] = some (AV.tup [AV.int .u64 n_37, AV.int .u64 n_38]) ∧ ∃ (n_39 : Int), ∃ (n_40 : Int), TbE.s { f := 84, s := fun (vs : List AV) (x : AHeap) => sHalf vs, r := Rs.tup [i64, i64] } [AV.int .u64 a2, AV.int .u64 b3] [AObj.row 24 4 [AV.int .u64 a0, AV.int .u64 a1, AV.int .u64 a2, AV.int .u64 a3], AObj.row 24 4 [AV.int .u64 b0, AV.int .u64 b1, AV.int .u64 b2, AV.int .u64 b3], AObj.row 24 4 [AV.int .u64 0, AV.int .u64 0, AV.int .u64 0, AV.int .u64 0], AObj.row 24 4 [AV.int .u64 0, AV.int .u64 0, AV.int .u64 0, AV.int .u64 0], AObj.row 106 8 [AV.int .u64 n_2, AV.int .u64 n_16, AV.int .u64 n_30, AV.int .u64 n_34, AV.int .u64 n_37, AV.int .u64 (IntKind.wrap .u64 (n_25 + n_28)), AV.int .u64 0, AV.int .u64 0]] = some (AV.tup [AV.int .u64 n_39, AV.int .u64 n_40]) ∧ ∃ (n_41 : Int), ∃ (n_42 : Int), TbE.s { f := 85, s := fun (vs : List AV) (x : AHeap) => sPlus vs, r := Rs.tup [i64, i64] } [AV.int .u64 (IntKind.wrap .u64 (n_25 + n_28)), AV.int .u64 n_40, AV.int .u64 (IntKind.wrap .u64 (n + n_38))] [AObj.row 24 4 [AV.int .u64 a0, AV.int .u64 a1, AV.int .u64 a2, AV.int .u64 a3], AObj.row 24 4 [AV.int .u64 b0, AV.int .u64 b1, AV.int .u64 b2, AV.int .u64 b3], AObj.row 24 4 [AV.int .u64 0, AV.int .u64 0, AV.int .u64 0, AV.int .u64 0], AObj.row 24 4 [AV.int .u64 0, AV.int .u64 0, AV.int .u64 0, AV.int .u64 0], AObj.row 106 8 [AV.int .u64 n_2, AV.int .u64 n_16, AV.int .u64 n_30, AV.int .u64 n_34, AV.int .u64 n_37, AV.int .u64 (IntKind.wrap .u64 (n_25 + n_28)), AV.int .u64 0, AV.int .u64 0]] = some (AV.tup [AV.int .u64 n_41, AV.int .u64 n_42]) ∧ ∃ (n : Int), ∃ (n_43 : Int), TbE.s { f := 84, s := fun (vs : List AV) (x : AHeap) => sHalf vs, r := Rs.tup [i64, i64] } [AV.int .u64 a3, AV.int .u64 b0] [AObj.row 24 4 [AV.int .u64 a0, AV.int .u64 a1, AV.int .u64 a2, AV.int .u64 a3], AObj.row 24 4 [AV.int .u64 b0, AV.int .u64 b1, AV.int .u64 b2, AV.int .u64 b3], AObj.row 24 4 [AV.int .u64 0, AV.int .u64 0, AV.int .u64 0, AV.int .u64 0], AObj.row 24 4 [AV.int .u64 0, AV.int .u64 0, AV.int .u64 0, AV.int .u64 0], AObj.row 106 8 [AV.int .u64 n_2, AV.int .u64 n_16, AV.int .u64 n_30, AV.int .u64 n_34, AV.int .u64 n_37, AV.int .u64 n_41, AV.int .u64 (IntKind.wrap .u64 (n_39 + n_42)), AV.int .u64 0]] = some (AV.tup [AV.int .u64 n, AV.int .u64 n_43]) ∧ ∃ (n_44 : Int), ∃ (n_45 : Int), TbE.s { f := 85, s := fun (vs : List AV) (x : AHeap) => sPlus vs, r := Rs.tup [i64, i64] } [AV.int .u64 n_34, AV.int .u64 n_43, AV.int .u64 0] [AObj.row 24 4 [AV.int .u64 a0, AV.int .u64 a1, AV.int .u64 a2, AV.int .u64 a3], AObj.row 24 4 [AV.int .u64 b0, AV.int .u64 b1, AV.int .u64 b2, AV.int .u64 b3], AObj.row 24 4 [AV.int .u64 0, AV.int .u64 0, AV.int .u64 0, AV.int .u64 0], AObj.row 24 4 [AV.int .u64 0, AV.int .u64 0, AV.int .u64 0, AV.int .u64 0], AObj.row 106 8 [AV.int .u64 n_2, AV.int .u64 n_16, AV.int .u64 n_30, AV.int .u64 n_34, AV.int .u64 n_37, AV.int .u64 n_41, AV.int .u64 (IntKind.wrap .u64 (n_39 + n_42)), AV.int .u64 0]] = some (AV.tup [AV.int .u64 n_44, AV.int .u64 n_45]) ∧ ∃ (n_46 : Int), ∃ (n_47 : Int), TbE.s { f := 84, s := fun (vs : List AV) (x : AHeap) => sHalf vs, r := Rs.tup [i64, i64] } [AV.int .u64 a3, AV.int .u64 b1] [AObj.row 24 4 [AV.int .u64 a0, AV.int .u64 a1, AV.int .u64 a2, AV.int .u64 a3], AObj.row 24 4 [AV.int .u64 b0, AV.int .u64 b1, AV.int .u64 b2, AV.int .u64 b3], AObj.row 24 4 [AV.int .u64 0, AV.int .u64 0, AV.int .u64 0, AV.int .u64 0], AObj.row 24 4 [AV.int .u64 0, AV.int .u64 0, AV.int .u64 0, AV.int .u64 0], AObj.row 106 8 [AV.int .u64 n_2, AV.int .u64 n_16, AV.int .u64 n_30, AV.int .u64 n_44, AV.int .u64 n_37, AV.int .u64 n_41, AV.int .u64 (IntKind.wrap .u64 (n_39 + n_42)), AV.int .u64 0]] = some (AV.tup [AV.int .u64 n_46, AV.int .u64 n_47]) ∧ ∃ (n_48 : Int), ∃ (n_49 : Int), TbE.s { f := 85, s := fun (vs : List AV) (x : AHeap) => sPlus vs, r := Rs.tup [i64, i64] } [AV.int .u64 n_37, AV.int .u64 n_47, AV.int .u64 (IntKind.wrap .u64 (n + n_45))] [AObj.row 24 4 [AV.int .u64 a0, AV.int .u64 a1, AV.int .u64 a2, AV.int .u64 a3], AObj.row 24 4 [AV.int .u64 b0, AV.int .u64 b1, AV.int .u64 b2, AV.int .u64 b3], AObj.row 24 4 [AV.int .u64 0, AV.int .u64 0, AV.int .u64 0, AV.int .u64 0], AObj.row 24 4 [AV.int .u64 0, AV.int .u64 0, AV.int .u64 0, AV.int .u64 0], AObj.row 106 8 [AV.int .u64 n_2, AV.int .u64 n_16, AV.int .u64 n_30, AV.int .u64 n_44, AV.int .u64 n_37, AV.int .u64 n_41, AV.int .u64 (IntKind.wrap .u64 (n_39 + n_42)), AV.int .u64 0]] = some (AV.tup [AV.int .u64 n_48, AV.int .u64 n_49]) ∧ ∃ (n : Int), ∃ (n_50 : Int), TbE.s { f := 84, s := fun (vs : List AV) (x : AHeap) => sHalf vs, r := Rs.tup [i64, i64] } [AV.int .u64 a3, AV.int .u64 b2] [AObj.row 24 4 [AV.int .u64 a0, AV.int .u64 a1, AV.int .u64 a2, AV.int .u64 a3], AObj.row 24 4 [AV.int .u64 b0, AV.int .u64 b1, AV.int .u64 b2, AV.int .u64 b3], AObj.row 24 4 [AV.int .u64 0, AV.int .u64 0, AV.int .u64 0, AV.int .u64 0], AObj.row 24 4 [AV.int .u64 0, AV.int .u64 0, AV.int .u64 0, AV.int .u64 0], AObj.row 106 8 [AV.int .u64 n_2, AV.int .u64 n_16, AV.int .u64 n_30, AV.int .u64 n_44, AV.int .u64 n_48, AV.int .u64 n_41, AV.int .u64 (IntKind.wrap .u64 (n_39 + n_42)), AV.int .u64 0]] = some (AV.tup [AV.int .u64 n, AV.int .u64 n_50]) ∧ ∃ (n_51 : Int), ∃ (n_52 : Int), TbE.s { f := 85, s := fun (vs : List AV) (x : AHeap) => sPlus vs, r := Rs.tup [i64, i64] } [AV.int .u64 n_41, AV.int .u64 n_50, AV.int .u64 (IntKind.wrap .u64 (n_46 + n_49))] [AObj.row 24 4 [AV.int .u64 a0, AV.int .u64 a1, AV.int .u64 a2, AV.int .u64 a3], AObj.row 24 4 [AV.int .u64 b0, AV.int .u64 b1, AV.int .u64 b2, AV.int .u64 b3], AObj.row 24 4 [AV.int .u64 0, AV.int .u64 0, AV.int .u64 0, AV.int .u64 0], AObj.row 24 4 [AV.int .u64 0, AV.int .u64 0, AV.int .u64 0, AV.int .u64 0], AObj.row 106 8 [AV.int .u64 n_2, AV.int .u64 n_16, AV.int .u64 n_30, AV.int .u64 n_44, AV.int .u64 n_48, AV.int .u64 n_41, AV.int .u64 (IntKind.wrap .u64 (n_39 + n_42)), AV.int .u64 0]] = some (AV.tup [AV.int .u64 n_51, AV.int .u64 n_52]) ∧ ∃ (n_53 : Int), ∃ (n_54 : Int), TbE.s { f := 84, s := fun (vs : List AV) (x : AHeap) => sHalf vs, r := Rs.tup [i64, i64] } [AV.int .u64 a3, AV.int .u64 b3] [AObj.row 24 4 [AV.int .u64 a0, AV.int .u64 a1, AV.int .u64 a2, AV.int .u64 a3], AObj.row 24 4 [AV.int .u64 b0, AV.int .u64 b1, AV.int .u64 b2, AV.int .u64 b3], AObj.row 24 4 [AV.int .u64 0, AV.int .u64 0, AV.int .u64 0, AV.int .u64 0], AObj.row 24 4 [AV.int .u64 0, AV.int .u64 0, AV.int .u64 0, AV.int .u64 0], AObj.row 106 8 [AV.int .u64 n_2, AV.int .u64 n_16, AV.int .u64 n_30, AV.int .u64 n_44, AV.int .u64 n_48, AV.int .u64 n_51, AV.int .u64 (IntKind.wrap .u64 (n_39 + n_42)), AV.int .u64 0]] = some (AV.tup [AV.int .u64 n_53, AV.int .u64 n_54]) ∧ ∃ (n_55 : Int), ∃ (n_56 : Int), TbE.s { f := 85, s := fun (vs : List AV) (x : AHeap) => sPlus vs, r := Rs.tup [i64, i64] } [AV.int .u64 (IntKind.wrap .u64 (n_39 + n_42)), AV.int .u64 n_54, AV.int .u64 (IntKind.wrap .u64 (n + n_52))] [AObj.row 24 4 [AV.int .u64 a0, AV.int .u64 a1, AV.int .u64 a2, AV.int .u64 a3], AObj.row 24 4 [AV.int .u64 b0, AV.int .u64 b1, AV.int .u64 b2, AV.int .u64 b3], AObj.row 24 4 [AV.int .u64 0, AV.int .u64 0, AV.int .u64 0, AV.int .u64 0], AObj.row 24 4 [AV.int .u64 0, AV.int .u64 0, AV.int .u64 0, AV.int .u64 0], AObj.row 106 8 [AV.int .u64 n_2, AV.int .u64 n_16, AV.int .u64 n_30, AV.int .u64 n_44, AV.int .u64 n_48, AV.int .u64 n_51, AV.int .u64 (IntKind.wrap .u64 (n_39 + n_42)), AV.int .u64 0]] = some (AV.tup [AV.int .u64 n_55, AV.int .u64 n_56]) ∧ R (AV.tup [AV.agg [AV.int .u64 n_48, AV.int .u64 n_51, AV.int .u64 n_55, AV.int .u64 (IntKind.wrap .u64 (n_53 + n_56))], AV.agg [AV.int .u64 n_2, AV.int .u64 n_16, AV.int .u64 n_30, AV.int .u64 n_44]]) [AObj.row 24 4 [AV.int .u64 a0, AV.int .u64 a1, AV.int .u64 a2, AV.int .u64 a3], AObj.row 24 4 [AV.int .u64 b0, AV.int .u64 b1, AV.int .u64 b2, AV.int .u64 b3], AObj.row 24 4 [AV.int .u64 n_48, AV.int .u64 n_51, AV.int .u64 n_55, AV.int .u64 (IntKind.wrap .u64 (n_53 + n_56))], AObj.row 24 4 [AV.int .u64 n_2, AV.int .u64 n_16, AV.int .u64 n_30, AV.int .u64 n_44], AObj.row 106 8 [AV.int .u64 n_2, AV.int .u64 n_16, AV.int .u64 n_30, AV.int .u64 n_44, AV.int .u64 n_48, AV.int .u64 n_51, AV.int .u64 n_55, AV.int .u64 (IntKind.wrap .u64 (n_53 + n_56))]]) = (wpF Tryd.prog CL 400 p66 [(.agg [.int .u64 a0, .int .u64 a1, .int .u64 a2, .int .u64 a3]), (.agg [.int .u64 b0, .int .u64 b1, .int .u64 b2, .int .u64 b3])] [] R) := by kernel_rfl
theorem and32 {x : Int} (h0 : 0 ≤ x) (h1 : x < 18446744073709551616) : IntKind.wrap .u64 (↑(BitVec.toNat (BitVec.ofInt (IntKind.bits .u64) x &&& BitVec.ofInt (IntKind.bits .u64) 4294967295)) : Int) = x % 4294967296 := by
  obtain ⟨n, rfl⟩ : ∃ n : Nat, x = n := ⟨x.toNat, by omega⟩
  have hb : (BitVec.toNat (BitVec.ofInt (IntKind.bits .u64) (n : Int) &&& BitVec.ofInt (IntKind.bits .u64) 4294967295)) = n % 4294967296 := by
    rw [BitVec.toNat_and]
    have e1 : (BitVec.ofInt (IntKind.bits .u64) (n : Int)).toNat = n := by
      show (BitVec.ofInt 64 (n : Int)).toNat = n
      rw [BitVec.toNat_ofInt]; omega
    have e2 : (BitVec.ofInt (IntKind.bits .u64) 4294967295).toNat = 2 ^ 32 - 1 := by rfl
    rw [e1, e2, Nat.and_two_pow_sub_one_eq_mod]
  rw [hb, IntKind.wrap_u64]; omega
theorem or32 {x y : Int} (h0 : 0 ≤ x) (h1 : x < 4294967296) (h2 : 0 ≤ y) (h3 : y < 4294967296) : IntKind.wrap .u64 (↑(BitVec.toNat (BitVec.ofInt (IntKind.bits .u64) (x * 4294967296) ||| BitVec.ofInt (IntKind.bits .u64) y)) : Int) = x * 4294967296 + y := by
  obtain ⟨n, rfl⟩ : ∃ n : Nat, x = n := ⟨x.toNat, by omega⟩
  obtain ⟨m, rfl⟩ : ∃ m : Nat, y = m := ⟨y.toNat, by omega⟩
  have hb : (BitVec.toNat (BitVec.ofInt (IntKind.bits .u64) ((n : Int) * 4294967296) ||| BitVec.ofInt (IntKind.bits .u64) (m : Int))) = 2 ^ 32 * n + m := by
    rw [BitVec.toNat_or]
    have e1 : (BitVec.ofInt (IntKind.bits .u64) ((n : Int) * 4294967296)).toNat = 2 ^ 32 * n := by
      show (BitVec.ofInt 64 ((n : Int) * 4294967296)).toNat = 2 ^ 32 * n
      rw [BitVec.toNat_ofInt]; omega
    have e2 : (BitVec.ofInt (IntKind.bits .u64) (m : Int)).toNat = m := by
      show (BitVec.ofInt 64 (m : Int)).toNat = m
      rw [BitVec.toNat_ofInt]; omega
    rw [e1, e2, Nat.two_pow_add_eq_or_of_lt (by omega)]
  rw [hb, IntKind.wrap_u64]; omega
theorem half_ok : QuietOK Tryd.prog 84 fun vs _ => sHalf vs := quiet_plain ht77 fun args v h => by
  unfold sHalf at h
  split at h
  · rename_i a b
    split at h
    · rename_i hc
      cases h
      simp only [u64B, Bool.and_eq_true, decide_eq_true_eq] at hc
      obtain ⟨⟨ha, ha2⟩, hb, hb2⟩ := hc
      refine ⟨rfl, rfl, ?_⟩
      have hS : (tbS Q []).OK Tryd.prog := tbS_ok quietText (by simp)
      obtain ⟨u, h', rfl, hsem⟩ := sem_vc mixed (C := CL0) hS (tbS_q _ _) (tbW_ok rfl) ht77 c77 (no_parts rfl) (v77 a b fun u _ => u = .tup [.int .u64 (a * b / 18446744073709551616), .int .u64 (a * b % 18446744073709551616)]) (by
        simp only [fdiv32]
        rw [and32 ha ha2, and32 hb hb2]
        have hab : a * b = (a / 4294967296) * (b / 4294967296) * 18446744073709551616 + ((a / 4294967296) * (b % 4294967296) + (a % 4294967296) * (b / 4294967296)) * 4294967296 + (a % 4294967296) * (b % 4294967296) := by
          have hx : a = (a / 4294967296) * 4294967296 + a % 4294967296 := by omega
          have hy : b = (b / 4294967296) * 4294967296 + b % 4294967296 := by omega
          generalize a / 4294967296 = a1 at hx ⊢
          generalize a % 4294967296 = a0 at hx ⊢
          generalize b / 4294967296 = b1 at hy ⊢
          generalize b % 4294967296 = b0 at hy ⊢
          subst hx hy
          simp only [Int.add_mul, Int.mul_add]
          have q1 : a1 * 4294967296 * (b1 * 4294967296) = a1 * b1 * 18446744073709551616 := by
            rw [Int.mul_assoc, Int.mul_left_comm 4294967296 b1, ← Int.mul_assoc]; rfl
          have q2 : a0 * (b1 * 4294967296) = a0 * b1 * 4294967296 := by rw [← Int.mul_assoc]
          have q3 : a1 * 4294967296 * b0 = a1 * b0 * 4294967296 := by rw [Int.mul_assoc, Int.mul_comm 4294967296 b0, ← Int.mul_assoc]
          rw [q1, q2, q3]
          omega
        rw [hab]
        obtain ⟨p11, p11'⟩ := mul_bd (a := a / 4294967296) (b := b / 4294967296) (by omega) (by omega) (by omega) (by omega)
        obtain ⟨p10, p10'⟩ := mul_bd (a := a / 4294967296) (b := b % 4294967296) (by omega) (by omega) (by omega) (by omega)
        obtain ⟨p01, p01'⟩ := mul_bd (a := a % 4294967296) (b := b / 4294967296) (by omega) (by omega) (by omega) (by omega)
        obtain ⟨p00, p00'⟩ := mul_bd (a := a % 4294967296) (b := b % 4294967296) (by omega) (by omega) (by omega) (by omega)
        generalize (a / 4294967296) * (b / 4294967296) = P11 at p11 p11' ⊢
        generalize (a / 4294967296) * (b % 4294967296) = P10 at p10 p10' ⊢
        generalize (a % 4294967296) * (b / 4294967296) = P01 at p01 p01' ⊢
        generalize (a % 4294967296) * (b % 4294967296) = P00 at p00 p00' ⊢
        clear hab
        rw [wrap64 (x := P11) (by omega) (by omega), wrap64 (x := P10) (by omega) (by omega), wrap64 (x := P01) (by omega) (by omega), wrap64 (x := P00) (by omega) (by omega)]
        rw [wrap64 (x := P10 + P00 / 4294967296) (by omega) (by omega)]
        rw [and32 (x := P10 + P00 / 4294967296) (by omega) (by omega), and32 (x := P00) (by omega) (by omega)]
        rw [wrap64 (x := P01 + (P10 + P00 / 4294967296) % 4294967296) (by omega) (by omega)]
        generalize hM : P01 + (P10 + P00 / 4294967296) % 4294967296 = Mo
        have hM2 : 0 ≤ Mo ∧ Mo < 18446744073709551616 := by omega
        have e2 : (2 : Int) ^ min 32 (IntKind.bits .u64) = 4294967296 := rfl
        rw [e2]
        have hsh : IntKind.wrap .u64 (Mo * 4294967296) = (Mo % 4294967296) * 4294967296 := by rw [IntKind.wrap_u64]; omega
        rw [hsh, or32 (x := Mo % 4294967296) (y := P00 % 4294967296) (by omega) (by omega) (by omega) (by omega)]
        rw [wrap64 (x := P11 + (P10 + P00 / 4294967296) / 4294967296) (by omega) (by omega)]
        rw [wrap64 (x := P11 + (P10 + P00 / 4294967296) / 4294967296 + Mo / 4294967296) (by omega) (by omega)]
        have r1 : P11 + (P10 + P00 / 4294967296) / 4294967296 + Mo / 4294967296 = (P11 * 18446744073709551616 + (P10 + P01) * 4294967296 + P00) / 18446744073709551616 := by omega
        have r2 : Mo % 4294967296 * 4294967296 + P00 % 4294967296 = (P11 * 18446744073709551616 + (P10 + P01) * 4294967296 + P00) % 18446744073709551616 := by omega
        rw [r1, r2])
      exact ⟨h', hsem⟩
    · cases h
  · cases h
theorem plus_ok : QuietOK Tryd.prog 85 fun vs _ => sPlus vs := quiet_plain ht78 fun args v h => by
  unfold sPlus at h
  split at h
  · rename_i a b c
    split at h
    · rename_i hc
      cases h
      simp only [u64B, Bool.and_eq_true, decide_eq_true_eq] at hc
      obtain ⟨⟨⟨ha, ha2⟩, hb, hb2⟩, hd, hd2⟩ := hc
      refine ⟨rfl, rfl, ?_⟩
      have hS : (tbS Q []).OK Tryd.prog := tbS_ok quietText (by simp)
      obtain ⟨u, h', rfl, hsem⟩ := sem_vc mixed (C := CL0) hS (tbS_q _ _) (tbW_ok rfl) ht78 c78 (no_parts rfl) (v78 a b c fun u _ => u = .tup [.int .u64 ((a + b + c) % 18446744073709551616), .int .u64 ((a + b + c) / 18446744073709551616)]) (by
        simp only [IntKind.wrap_u64]
        refine askI (fun h1 => askI (fun h2 => ?_) fun h2 => ?_) fun h1 => askI (fun h2 => ?_) fun h2 => ?_
        all_goals
          simp only [decide_eq_true_eq, decide_eq_false_iff_not] at h1 h2
        · rw [show ((a + b) % 18446744073709551616 + c) % 18446744073709551616 = (a + b + c) % 18446744073709551616 by omega, show (2 : Int) = (a + b + c) / 18446744073709551616 by omega]
        · rw [show ((a + b) % 18446744073709551616 + c) % 18446744073709551616 = (a + b + c) % 18446744073709551616 by omega, show (1 : Int) = (a + b + c) / 18446744073709551616 by omega]
        · rw [show ((a + b) % 18446744073709551616 + c) % 18446744073709551616 = (a + b + c) % 18446744073709551616 by omega, show (1 : Int) = (a + b + c) / 18446744073709551616 by omega]
        · rw [show ((a + b) % 18446744073709551616 + c) % 18446744073709551616 = (a + b + c) % 18446744073709551616 by omega, show (0 : Int) = (a + b + c) / 18446744073709551616 by omega])
      exact ⟨h', hsem⟩
    · cases h
  · cases h
theorem from_ok : QuietOK Tryd.prog 63 fun vs _ => sFrom vs := quiet_plain ht67 fun args v h => by
  unfold sFrom at h
  split at h <;> cases h
  rename_i a
  refine ⟨rfl, rfl, ?_⟩
  have hS : (tbS Q []).OK Tryd.prog := tbS_ok quietText (by simp)
  obtain ⟨u, h', rfl, hsem⟩ := sem_vc mixed (C := CL0) hS (tbS_q _ _) (tbW_ok rfl) ht67 c67 (no_parts rfl) (v67 a fun u _ => u = .agg [.int .u64 a, .int .u64 0, .int .u64 0, .int .u64 0]) rfl
  exact ⟨h', hsem⟩
theorem plus_ex {a b c : Int} (ha : 0 ≤ a) (ha2 : a < 18446744073709551616) (hb : 0 ≤ b) (hb2 : b < 18446744073709551616) (hc : 0 ≤ c) (hc2 : c < 18446744073709551616) : ∃ t v, sPlus [.int .u64 a, .int .u64 b, .int .u64 c] = some (.tup [.int .u64 t, .int .u64 v]) ∧ t + 18446744073709551616 * v = a + b + c ∧ 0 ≤ t ∧ t < 18446744073709551616 ∧ 0 ≤ v ∧ v ≤ 2 :=
  ⟨_, _, if_pos (by simp only [u64B, Bool.and_eq_true, decide_eq_true_eq]; exact ⟨⟨⟨ha, ha2⟩, hb, hb2⟩, hc, hc2⟩), by omega, by omega, by omega, by omega, by omega⟩
theorem mul_bd64 {a b : Int} (ha : 0 ≤ a) (ha2 : a < 18446744073709551616) (hb : 0 ≤ b) (hb2 : b < 18446744073709551616) : 0 ≤ a * b ∧ a * b ≤ 340282366920938463426481119284349108225 := by
  refine ⟨Int.mul_nonneg ha hb, ?_⟩
  calc a * b ≤ 18446744073709551615 * 18446744073709551615 := Int.mul_le_mul (by omega) (by omega) hb (by decide)
    _ = 340282366920938463426481119284349108225 := by decide
theorem half_ex {a b : Int} (ha : 0 ≤ a) (ha2 : a < 18446744073709551616) (hb : 0 ≤ b) (hb2 : b < 18446744073709551616) : ∃ h l, sHalf [.int .u64 a, .int .u64 b] = some (.tup [.int .u64 h, .int .u64 l]) ∧ l + 18446744073709551616 * h = a * b ∧ 0 ≤ l ∧ l < 18446744073709551616 ∧ 0 ≤ h ∧ h < 18446744073709551616 := by
  obtain ⟨h1, h2⟩ := mul_bd64 ha ha2 hb hb2
  exact ⟨_, _, if_pos (by simp only [u64B, Bool.and_eq_true, decide_eq_true_eq]; exact ⟨⟨ha, ha2⟩, hb, hb2⟩), by omega, by omega, by omega, by omega, by omega⟩
theorem mac {l a b c : Int} (hl : 0 ≤ l) (hl2 : l < 18446744073709551616) (ha : 0 ≤ a) (ha2 : a < 18446744073709551616) (hb : 0 ≤ b) (hb2 : b < 18446744073709551616) (hc : 0 ≤ c) (hc2 : c < 18446744073709551616) :
    ∃ h o t v c', sHalf [.int .u64 a, .int .u64 b] = some (.tup [.int .u64 h, .int .u64 o]) ∧ sPlus [.int .u64 l, .int .u64 o, .int .u64 c] = some (.tup [.int .u64 t, .int .u64 v]) ∧ IntKind.wrap .u64 (h + v) = c' ∧ t + 18446744073709551616 * c' = l + a * b + c ∧ 0 ≤ t ∧ t < 18446744073709551616 ∧ 0 ≤ c' ∧ c' < 18446744073709551616 := by
  obtain ⟨p1, p2⟩ := mul_bd64 ha ha2 hb hb2
  obtain ⟨h, o, e1, e2, e3, e4, e5, e6⟩ := half_ex ha ha2 hb hb2
  obtain ⟨t, v, f1, f2, f3, f4, f5, f6⟩ := plus_ex hl hl2 e3 e4 hc hc2
  refine ⟨h, o, t, v, h + v, e1, f1, ?_, by omega, f3, f4, by omega, by omega⟩
  rw [IntKind.wrap_u64]; omega
theorem tbL_ok : (tbS Q tbL).OK Tryd.prog := tbS_ok quietText (by
  intro x hx
  simp only [tbL, List.mem_cons, List.not_mem_nil, or_false] at hx
  rcases hx with rfl | rfl
  · exact half_ok
  · exact plus_ok)
theorem num4_mul (a0 a1 a2 a3 b0 b1 b2 b3 : Int) : num4 a0 a1 a2 a3 * num4 b0 b1 b2 b3 =
    (a0 * b0 + 18446744073709551616 * (a0 * b1 + 18446744073709551616 * (a0 * b2 + 18446744073709551616 * (a0 * b3)))) + 18446744073709551616 * ((a1 * b0 + 18446744073709551616 * (a1 * b1 + 18446744073709551616 * (a1 * b2 + 18446744073709551616 * (a1 * b3)))) + 18446744073709551616 * ((a2 * b0 + 18446744073709551616 * (a2 * b1 + 18446744073709551616 * (a2 * b2 + 18446744073709551616 * (a2 * b3)))) + 18446744073709551616 * (a3 * b0 + 18446744073709551616 * (a3 * b1 + 18446744073709551616 * (a3 * b2 + 18446744073709551616 * (a3 * b3)))))) := by
  have d : ∀ a x y : Int, a * (x + 18446744073709551616 * y) = a * x + 18446744073709551616 * (a * y) := fun a x y => by rw [Int.mul_add, Int.mul_left_comm]
  have d2 : ∀ x y Y : Int, (x + 18446744073709551616 * y) * Y = x * Y + 18446744073709551616 * (y * Y) := fun x y Y => by rw [Int.add_mul, Int.mul_assoc]
  have row : ∀ a : Int, a * num4 b0 b1 b2 b3 = a * b0 + 18446744073709551616 * (a * b1 + 18446744073709551616 * (a * b2 + 18446744073709551616 * (a * b3))) := fun a => by
    unfold num4
    rw [d a, d a, d a]
  have : num4 a0 a1 a2 a3 * num4 b0 b1 b2 b3 = a0 * num4 b0 b1 b2 b3 + 18446744073709551616 * (a1 * num4 b0 b1 b2 b3 + 18446744073709551616 * (a2 * num4 b0 b1 b2 b3 + 18446744073709551616 * (a3 * num4 b0 b1 b2 b3))) := by
    generalize num4 b0 b1 b2 b3 = Y
    unfold num4
    rw [d2, d2, d2]
  rw [this, row, row, row, row]
theorem mul_vc {a0 a1 a2 a3 b0 b1 b2 b3 : Int} (p0 : 0 ≤ a0) (q0 : a0 < 18446744073709551616) (p1 : 0 ≤ a1) (q1 : a1 < 18446744073709551616) (p2 : 0 ≤ a2) (q2 : a2 < 18446744073709551616) (p3 : 0 ≤ a3) (q3 : a3 < 18446744073709551616) (r0 : 0 ≤ b0) (s0 : b0 < 18446744073709551616) (r1 : 0 ≤ b1) (s1 : b1 < 18446744073709551616) (r2 : 0 ≤ b2) (s2 : b2 < 18446744073709551616) (r3 : 0 ≤ b3) (s3 : b3 < 18446744073709551616) :
    ∃ h', CallSem Tryd.prog 62 [.agg [.int .u64 a0, .int .u64 a1, .int .u64 a2, .int .u64 a3], .agg [.int .u64 b0, .int .u64 b1, .int .u64 b2, .int .u64 b3]] [] (.tup [.agg (limbs (num4 a0 a1 a2 a3 * num4 b0 b1 b2 b3 / 115792089237316195423570985008687907853269984665640564039457584007913129639936)), .agg (limbs (num4 a0 a1 a2 a3 * num4 b0 b1 b2 b3))]) h' := by
  obtain ⟨u, h', rfl, hsem⟩ := sem_vc mixed (C := CL) tbL_ok (tbS_q _ _) (tbW_ok rfl) ht66 c66 (fun x _ => part_none (fun _ => rfl) (fun _ => rfl) x) (v66 a0 a1 a2 a3 b0 b1 b2 b3 fun u _ => u = .tup [.agg (limbs (num4 a0 a1 a2 a3 * num4 b0 b1 b2 b3 / 115792089237316195423570985008687907853269984665640564039457584007913129639936)), .agg (limbs (num4 a0 a1 a2 a3 * num4 b0 b1 b2 b3))]) (by
        obtain ⟨h00, o00, t00, v00, c00, e00, f00, w00, m00, x00, y00, z00, u00⟩ := mac (l := 0) (by omega) (by omega) p0 q0 r0 s0 (c := 0) (by omega) (by omega)
        obtain ⟨h01, o01, t01, v01, c01, e01, f01, w01, m01, x01, y01, z01, u01⟩ := mac (l := 0) (by omega) (by omega) p0 q0 r1 s1 (c := c00) z00 u00
        obtain ⟨h02, o02, t02, v02, c02, e02, f02, w02, m02, x02, y02, z02, u02⟩ := mac (l := 0) (by omega) (by omega) p0 q0 r2 s2 (c := c01) z01 u01
        obtain ⟨h03, o03, t03, v03, c03, e03, f03, w03, m03, x03, y03, z03, u03⟩ := mac (l := 0) (by omega) (by omega) p0 q0 r3 s3 (c := c02) z02 u02
        obtain ⟨h10, o10, t10, v10, c10, e10, f10, w10, m10, x10, y10, z10, u10⟩ := mac (l := t01) x01 y01 p1 q1 r0 s0 (c := 0) (by omega) (by omega)
        obtain ⟨h11, o11, t11, v11, c11, e11, f11, w11, m11, x11, y11, z11, u11⟩ := mac (l := t02) x02 y02 p1 q1 r1 s1 (c := c10) z10 u10
        obtain ⟨h12, o12, t12, v12, c12, e12, f12, w12, m12, x12, y12, z12, u12⟩ := mac (l := t03) x03 y03 p1 q1 r2 s2 (c := c11) z11 u11
        obtain ⟨h13, o13, t13, v13, c13, e13, f13, w13, m13, x13, y13, z13, u13⟩ := mac (l := c03) z03 u03 p1 q1 r3 s3 (c := c12) z12 u12
        obtain ⟨h20, o20, t20, v20, c20, e20, f20, w20, m20, x20, y20, z20, u20⟩ := mac (l := t11) x11 y11 p2 q2 r0 s0 (c := 0) (by omega) (by omega)
        obtain ⟨h21, o21, t21, v21, c21, e21, f21, w21, m21, x21, y21, z21, u21⟩ := mac (l := t12) x12 y12 p2 q2 r1 s1 (c := c20) z20 u20
        obtain ⟨h22, o22, t22, v22, c22, e22, f22, w22, m22, x22, y22, z22, u22⟩ := mac (l := t13) x13 y13 p2 q2 r2 s2 (c := c21) z21 u21
        obtain ⟨h23, o23, t23, v23, c23, e23, f23, w23, m23, x23, y23, z23, u23⟩ := mac (l := c13) z13 u13 p2 q2 r3 s3 (c := c22) z22 u22
        obtain ⟨h30, o30, t30, v30, c30, e30, f30, w30, m30, x30, y30, z30, u30⟩ := mac (l := t21) x21 y21 p3 q3 r0 s0 (c := 0) (by omega) (by omega)
        obtain ⟨h31, o31, t31, v31, c31, e31, f31, w31, m31, x31, y31, z31, u31⟩ := mac (l := t22) x22 y22 p3 q3 r1 s1 (c := c30) z30 u30
        obtain ⟨h32, o32, t32, v32, c32, e32, f32, w32, m32, x32, y32, z32, u32⟩ := mac (l := t23) x23 y23 p3 q3 r2 s2 (c := c31) z31 u31
        obtain ⟨h33, o33, t33, v33, c33, e33, f33, w33, m33, x33, y33, z33, u33⟩ := mac (l := c23) z23 u23 p3 q3 r3 s3 (c := c32) z32 u32
        refine ⟨h00, o00, e00, t00, v00, f00, ?_⟩
        rw [w00]
        refine ⟨h01, o01, e01, t01, v01, f01, ?_⟩
        rw [w01]
        refine ⟨h02, o02, e02, t02, v02, f02, ?_⟩
        rw [w02]
        refine ⟨h03, o03, e03, t03, v03, f03, ?_⟩
        rw [w03]
        refine ⟨h10, o10, e10, t10, v10, f10, ?_⟩
        rw [w10]
        refine ⟨h11, o11, e11, t11, v11, f11, ?_⟩
        rw [w11]
        refine ⟨h12, o12, e12, t12, v12, f12, ?_⟩
        rw [w12]
        refine ⟨h13, o13, e13, t13, v13, f13, ?_⟩
        rw [w13]
        refine ⟨h20, o20, e20, t20, v20, f20, ?_⟩
        rw [w20]
        refine ⟨h21, o21, e21, t21, v21, f21, ?_⟩
        rw [w21]
        refine ⟨h22, o22, e22, t22, v22, f22, ?_⟩
        rw [w22]
        refine ⟨h23, o23, e23, t23, v23, f23, ?_⟩
        rw [w23]
        refine ⟨h30, o30, e30, t30, v30, f30, ?_⟩
        rw [w30]
        refine ⟨h31, o31, e31, t31, v31, f31, ?_⟩
        rw [w31]
        refine ⟨h32, o32, e32, t32, v32, f32, ?_⟩
        rw [w32]
        refine ⟨h33, o33, e33, t33, v33, f33, ?_⟩
        rw [w33]
        have row0 : t00 + 18446744073709551616 * (t01 + 18446744073709551616 * (t02 + 18446744073709551616 * (t03 + 18446744073709551616 * c03))) = (0 + 18446744073709551616 * (0 + 18446744073709551616 * (0 + 18446744073709551616 * 0))) + (a0 * b0 + 18446744073709551616 * (a0 * b1 + 18446744073709551616 * (a0 * b2 + 18446744073709551616 * (a0 * b3)))) := by omega
        have row1 : t10 + 18446744073709551616 * (t11 + 18446744073709551616 * (t12 + 18446744073709551616 * (t13 + 18446744073709551616 * c13))) = (t01 + 18446744073709551616 * (t02 + 18446744073709551616 * (t03 + 18446744073709551616 * c03))) + (a1 * b0 + 18446744073709551616 * (a1 * b1 + 18446744073709551616 * (a1 * b2 + 18446744073709551616 * (a1 * b3)))) := by omega
        have row2 : t20 + 18446744073709551616 * (t21 + 18446744073709551616 * (t22 + 18446744073709551616 * (t23 + 18446744073709551616 * c23))) = (t11 + 18446744073709551616 * (t12 + 18446744073709551616 * (t13 + 18446744073709551616 * c13))) + (a2 * b0 + 18446744073709551616 * (a2 * b1 + 18446744073709551616 * (a2 * b2 + 18446744073709551616 * (a2 * b3)))) := by omega
        have row3 : t30 + 18446744073709551616 * (t31 + 18446744073709551616 * (t32 + 18446744073709551616 * (t33 + 18446744073709551616 * c33))) = (t21 + 18446744073709551616 * (t22 + 18446744073709551616 * (t23 + 18446744073709551616 * c23))) + (a3 * b0 + 18446744073709551616 * (a3 * b1 + 18446744073709551616 * (a3 * b2 + 18446744073709551616 * (a3 * b3)))) := by omega
        have hP : num4 a0 a1 a2 a3 * num4 b0 b1 b2 b3 = t00 + 18446744073709551616 * (t10 + 18446744073709551616 * (t20 + 18446744073709551616 * (t30 + 18446744073709551616 * (t31 + 18446744073709551616 * (t32 + 18446744073709551616 * (t33 + 18446744073709551616 * (c33 + 18446744073709551616 * 0))))))) := by
          rw [num4_mul]; omega
        have hD : num4 a0 a1 a2 a3 * num4 b0 b1 b2 b3 / 115792089237316195423570985008687907853269984665640564039457584007913129639936 = t31 + 18446744073709551616 * (t32 + 18446744073709551616 * (t33 + 18446744073709551616 * (c33 + 18446744073709551616 * 0))) := by
          rw [hP]; omega
        rw [hD, limbs_of x31 y31 x32 y32 x33 y33 z33 u33, hP, limbs_of x00 y00 x10 y10 x20 y20 x30 y30])
  exact ⟨h', hsem⟩
theorem mul_ok : QuietOK Tryd.prog 62 fun vs _ => sMul vs := quiet_plain ht66 fun args v h => by
  unfold sMul at h
  split at h
  · rename_i a0 a1 a2 a3 b0 b1 b2 b3
    split at h
    · rename_i hc
      cases h
      simp only [u64s, u64B, Bool.and_eq_true, decide_eq_true_eq] at hc
      obtain ⟨⟨⟨⟨⟨p0, q0⟩, p1, q1⟩, p2, q2⟩, p3, q3⟩, ⟨⟨⟨r0, s0⟩, r1, s1⟩, r2, s2⟩, r3, s3⟩ := hc
      exact ⟨rfl, rfl, mul_vc p0 q0 p1 q1 p2 q2 p3 q3 r0 s0 r1 s1 r2 s2 r3 s3⟩
    · cases h
  · cases h
def tbP53 : List TbE := [⟨63, fun vs _ => sFrom vs, .of ag4⟩, ⟨62, fun vs _ => sMul vs, .tup [ag4, ag4]⟩, ⟨64, fun vs _ => sAdd vs, .tup [ag4, .one .bool]⟩]
def g53a (s : List UInt8) (i : Int) : St := (envOf 73 [(0, .str s), (2, .ptr (some (0, 0))), (3, .int .i64 0), (27, .sl (some (1, 0)) s.length (.rel 0)), (28, .int .i64 s.length), (29, .int .i64 i)], [zr, .ro (bv s)])
def t53a : Tidy := ⟨dropT 73 [0, 2, 3, 27, 28, 29], .rows [0, 1]⟩
def e53a (s : List UInt8) : St := (envOf 73 [(0, .str s), (2, .ptr (some (0, 0))), (3, .int .i64 0)], [zr])
def b53 (e : Int) : St := (envOf 73 [(2, .ptr (some (0, 0))), (3, .int .i64 e)], [zr])
def g53b (s : List UInt8) (v : Int) (i : Int) : St := (envOf 73 [(2, .ptr (some (0, 0))), (3, .int .i64 0), (6, .ptr (some (1, 0))), (42, .sl (some (2, 0)) s.length (.rel 0)), (43, .int .i64 s.length), (44, .int .i64 i)], [zr, .row 24 4 (limbs v), .ro (bv s)])
def t53b : Tidy := ⟨dropT 73 [2, 3, 6, 42, 43, 44], .rows [0, 1, 2]⟩
def e53b (v : Int) : St := (envOf 73 [(2, .ptr (some (0, 0))), (3, .int .i64 0), (6, .ptr (some (1, 0)))], [zr, .row 24 4 (limbs v)])
def C53 (s : List UInt8) : Cfg := { tbC Q tbP53 (fun k => k == 1 || k == 2) kd53 with
  lw := fun id => if id = 4 then some fun st K => st = g53a s 0 ∧ askB (allD s) (K (.exit 0) (e53a s)) (K .ret (b53 10))
    else if id = 11 then some fun st K => st = g53b s 0 0 ∧ allD s = true ∧ askB (foldD 0 s).isSome (K (.exit 2) (e53b ((foldD 0 s).getD 0))) (K .ret (b53 7)) else none
  F := fun id => if id = 4 then t53a else if id = 11 then t53b else ⟨[], .all⟩ }
-- the document's Parse
theorem v53 (s : List UInt8) (R : AV → AHeap → Prop) : (askB (s == []) (R (AV.tup [AV.agg [AV.int .u64 0, AV.int .u64 0, AV.int .u64 0, AV.int .u64 0], AV.int .i64 10]) [AObj.row 24 4 [AV.int .u64 0, AV.int .u64 0, AV.int .u64 0, AV.int .u64 0]]) (chkW (decide (0 < List.length s)) (askB ((↑(UInt8.toNat (List.getD s 0 0)) : Int) == 48) (askB (decide ((↑(List.length s) : Int) > 1)) (R (AV.tup [AV.agg [AV.int .u64 0, AV.int .u64 0, AV.int .u64 0, AV.int .u64 0], AV.int .i64 10]) [AObj.row 24 4 [AV.int .u64 0, AV.int .u64 0, AV.int .u64 0, AV.int .u64 0]]) (chkW (objClosed (AObj.ro (List.map (fun (x : UInt8) => AV.int .u8 (↑(UInt8.toNat x) : Int)) s))) ((envOf 73 [(0, AV.str s), (2, AV.ptr (some (0, 0))), (3, AV.int .i64 0), (27, AV.sl (some (1, 0)) (List.length s) (ACap.rel 0)), (28, AV.int .i64 (↑(List.length s) : Int)), (29, AV.int .i64 0)], [AObj.row 24 4 [AV.int .u64 0, AV.int .u64 0, AV.int .u64 0, AV.int .u64 0], AObj.ro (List.map (fun (x : UInt8) => AV.int .u8 (↑(UInt8.toNat x) : Int)) s)]) = (envOf 73 [(0, AV.str s), (2, AV.ptr (some (0, 0))), (3, AV.int .i64 0), (27, AV.sl (some (1, 0)) (List.length s) (ACap.rel 0)), (28, AV.int .i64 (↑(List.length s) : Int)), (29, AV.int .i64 0)], [AObj.row 24 4 [AV.int .u64 0, AV.int .u64 0, AV.int .u64 0, AV.int .u64 0], AObj.ro (bv s)]) ∧ askB (allD s) (chkW (objClosed (AObj.ro (List.map (fun (x : UInt8) => AV.int .u8 (↑(UInt8.toNat x) : Int)) s))) ((envOf 73 [(2, AV.ptr (some (0, 0))), (3, AV.int .i64 0), (6, AV.ptr (some (1, 0))), (42, AV.sl (some (2, 0)) (List.length s) (ACap.rel 0)), (43, AV.int .i64 (↑(List.length s) : Int)), (44, AV.int .i64 0)], [AObj.row 24 4 [AV.int .u64 0, AV.int .u64 0, AV.int .u64 0, AV.int .u64 0], AObj.row 24 4 [AV.int .u64 0, AV.int .u64 0, AV.int .u64 0, AV.int .u64 0], AObj.ro (List.map (fun (x : UInt8) => AV.int .u8 (↑(UInt8.toNat x) : Int)) s)]) = (envOf 73 [(2, AV.ptr (some (0, 0))), (3, AV.int .i64 0), (6, AV.ptr (some (1, 0))), (42, AV.sl (some (2, 0)) (List.length s) (ACap.rel 0)), (43, AV.int .i64 (↑(List.length s) : Int)), (44, AV.int .i64 0)], [AObj.row 24 4 [AV.int .u64 0, AV.int .u64 0, AV.int .u64 0, AV.int .u64 0], AObj.row 24 4 [AV.int .u64 0, AV.int .u64 0, AV.int .u64 0, AV.int .u64 0], AObj.ro (bv s)]) ∧ allD s = true ∧ askB (Option.isSome (foldD 0 s)) (∃ (n : Int), ∃ (n_1 : Int), ∃ (n_2 : Int), ∃ (n_3 : Int), some (AV.agg [AV.int .u64 (Option.getD (foldD 0 s) 0 % 18446744073709551616), AV.int .u64 (Option.getD (foldD 0 s) 0 / 18446744073709551616 % 18446744073709551616), AV.int .u64 (Option.getD (foldD 0 s) 0 / 18446744073709551616 / 18446744073709551616 % 18446744073709551616), AV.int .u64 (Option.getD (foldD 0 s) 0 / 18446744073709551616 / 18446744073709551616 / 18446744073709551616 % 18446744073709551616)]) = some (AV.agg [AV.int .u64 n, AV.int .u64 n_1, AV.int .u64 n_2, AV.int .u64 n_3]) ∧ R (AV.tup [AV.agg [AV.int .u64 n, AV.int .u64 n_1, AV.int .u64 n_2, AV.int .u64 n_3], AV.int .i64 0]) [AObj.row 24 4 [AV.int .u64 n, AV.int .u64 n_1, AV.int .u64 n_2, AV.int .u64 n_3], AObj.row 24 4 [AV.int .u64 (Option.getD (foldD 0 s) 0 % 18446744073709551616), AV.int .u64 (Option.getD (foldD 0 s) 0 / 18446744073709551616 % 18446744073709551616), AV.int .u64 (Option.getD (foldD 0 s) 0 / 18446744073709551616 / 18446744073709551616 % 18446744073709551616), AV.int .u64 (Option.getD (foldD 0 s) 0 / 18446744073709551616 / 18446744073709551616 / 18446744073709551616 % 18446744073709551616)]]) (R (AV.tup [AV.agg [AV.int .u64 0, AV.int .u64 0, AV.int .u64 0, AV.int .u64 0], AV.int .i64 7]) [AObj.row 24 4 [AV.int .u64 0, AV.int .u64 0, AV.int .u64 0, AV.int .u64 0]]))) (R (AV.tup [AV.agg [AV.int .u64 0, AV.int .u64 0, AV.int .u64 0, AV.int .u64 0], AV.int .i64 10]) [AObj.row 24 4 [AV.int .u64 0, AV.int .u64 0, AV.int .u64 0, AV.int .u64 0]])))) (chkW (objClosed (AObj.ro (List.map (fun (x : UInt8) => AV.int .u8 (↑(UInt8.toNat x) : Int)) s))) ((envOf 73 [(0, AV.str s), (2, AV.ptr (some (0, 0))), (3, AV.int .i64 0), (27, AV.sl (some (1, 0)) (List.length s) (ACap.rel 0)), (28, AV.int .i64 (↑(List.length s) : Int)), (29, AV.int .i64 0)], [AObj.row 24 4 [AV.int .u64 0, AV.int .u64 0, AV.int .u64 0, AV.int .u64 0], AObj.ro (List.map (fun (x : UInt8) => AV.int .u8 (↑(UInt8.toNat x) : Int)) s)]) = (envOf 73 [(0, AV.str s), (2, AV.ptr (some (0, 0))), (3, AV.int .i64 0), (27, AV.sl (some (1, 0)) (List.length s) (ACap.rel 0)), (28, AV.int .i64 (↑(List.length s) : Int)), (29, AV.int .i64 0)], [AObj.row 24 4 [AV.int .u64 0, AV.int .u64 0, AV.int .u64 0, AV.int .u64 0], AObj.ro (bv s)]) ∧ askB (allD s) (chkW (objClosed (AObj.ro (List.map (fun (x : UInt8) => AV.int .u8 (↑(UInt8.toNat x) : Int)) s))) ((envOf 73 [(2, AV.ptr (some (0, 0))), (3, AV.int .i64 0), (6, AV.ptr (some (1, 0))), (42, AV.sl (some (2, 0)) (List.length s) (ACap.rel 0)), (43, AV.int .i64 (↑(List.length s) : Int)), (44, AV.int .i64 0)], [AObj.row 24 4 [AV.int .u64 0, AV.int .u64 0, AV.int .u64 0, AV.int .u64 0], AObj.row 24 4 [AV.int .u64 0, AV.int .u64 0, AV.int .u64 0, AV.int .u64 0], AObj.ro (List.map (fun (x : UInt8) => AV.int .u8 (↑(UInt8.toNat x) : Int)) s)]) = (envOf 73 [(2, AV.ptr (some (0, 0))), (3, AV.int .i64 0), (6, AV.ptr (some (1, 0))), (42, AV.sl (some (2, 0)) (List.length s) (ACap.rel 0)), (43, AV.int .i64 (↑(List.length s) : Int)), (44, AV.int .i64 0)], [AObj.row 24 4 [AV.int .u64 0, AV.int .u64 0, AV.int .u64 0, AV.int .u64 0], AObj.row 24 4 [AV.int .u64 0, AV.int .u64 0, AV.int .u64 0, AV.int .u64 0], AObj.ro (bv s)]) ∧ allD s = true ∧ askB (Option.isSome (foldD 0 s)) (∃ (n : Int), ∃ (n_1 : Int), ∃ (n_2 : Int), ∃ (n_3 : Int), some (AV.agg [AV.int .u64 (Option.getD (foldD 0 s) 0 % 18446744073709551616), AV.int .u64 (Option.getD (foldD 0 s) 0 / 18446744073709551616 % 18446744073709551616), AV.int .u64 (Option.getD (foldD 0 s) 0 / 18446744073709551616 / 18446744073709551616 % 18446744073709551616), AV.int .u64 (Option.getD (foldD 0 s) 0 / 18446744073709551616 / 18446744073709551616 / 18446744073709551616 % 18446744073709551616)]) = some (AV.agg [AV.int .u64 n, AV.int .u64 n_1, AV.int .u64 n_2, AV.int .u64 n_3]) ∧ R (AV.tup [AV.agg [AV.int .u64 n, AV.int .u64 n_1, AV.int .u64 n_2, AV.int .u64 n_3], AV.int .i64 0]) [AObj.row 24 4 [AV.int .u64 n, AV.int .u64 n_1, AV.int .u64 n_2, AV.int .u64 n_3], AObj.row 24 4 [AV.int .u64 (Option.getD (foldD 0 s) 0 % 18446744073709551616), AV.int .u64 (Option.getD (foldD 0 s) 0 / 18446744073709551616 % 18446744073709551616), AV.int .u64 (Option.getD (foldD 0 s) 0 / 18446744073709551616 / 18446744073709551616 % 18446744073709551616), AV.int .u64 (Option.getD (foldD 0 s) 0 / 18446744073709551616 / 18446744073709551616 / 18446744073709551616 % 18446744073709551616)]]) (R (AV.tup [AV.agg [AV.int .u64 0, AV.int .u64 0, AV.int .u64 0, AV.int .u64 0], AV.int .i64 7]) [AObj.row 24 4 [AV.int .u64 0, AV.int .u64 0, AV.int .u64 0, AV.int .u64 0]]))) (R (AV.tup [AV.agg [AV.int .u64 0, AV.int .u64 0, AV.int .u64 0, AV.int .u64 0], AV.int .i64 10]) [AObj.row 24 4 [AV.int .u64 0, AV.int .u64 0, AV.int .u64 0, AV.int .u64 0]])))))) = (wpF Tryd.prog (C53 s) 80 p53 [.str s] [] R) := by kernel_rfl
def sCut : List AV → Option AV
  | [.str s, .str [c]] => if s.length ≤ 1099511627776 then some (.tup [.str (cut1 s c).1, .str (cut1 s c).2.1, .bool (cut1 s c).2.2]) else none
  | _ => none
def tb51 : List TbE := [⟨58, fun vs _ => sCut vs, .tup [.one .str, .one .str, .one .bool]⟩]
theorem v51 (s : List UInt8) (c : UInt8) (R : AV → AHeap → Prop) : (∃ (s_1 : List UInt8), ∃ (s_2 : List UInt8), ∃ (b : Bool), TbE.s { f := 58, s := fun (vs : List AV) (x : AHeap) => sCut vs, r := Rs.tup [Rs1.one K1.str, Rs1.one K1.str, Rs1.one K1.bool] } [AV.str s, AV.str [c]] [] = some (AV.tup [AV.str s_1, AV.str s_2, AV.bool b]) ∧ askB b (R (AV.tup [AV.str s_1, AV.str s_2, AV.bool true]) []) (R (AV.tup [AV.str s_1, AV.str s_2, AV.bool false]) [])) = (wpF Tryd.prog (tbC Q tb51 (fun _ => false) kdI) 40 p51 [.str s, .str [c]] [] R) := by kernel_rfl
def sTen : List AV → Option AV
  | [.int .i64 n] => if 0 ≤ n ∧ n ≤ 77 then some (.tup [.agg (limbs (10 ^ n.toNat)), .bool true]) else none
  | _ => none
def nz4 (a b c d : Int) : Bool := !(a == 0 && (b == 0 && (c == 0 && (d == 0 && true))))
def sCheck : List AV → Option AV
  | [.agg [.bool neg, .int .u64 l0, .int .u64 l1, .int .u64 l2, .int .u64 l3, .int .i64 sc]] => some (.int .i64 (if decide (sc < 0) || decide (sc > 18) || (neg && !(nz4 l0 l1 l2 l3)) then 20 else 0))
  | _ => none
def ag8 : Rs1 := .agg [.int .u64, .int .u64, .int .u64, .int .u64, .int .u64, .int .u64, .int .u64, .int .u64]
def tb71 : List TbE := [⟨63, fun vs _ => sFrom vs, .of ag4⟩, ⟨62, fun vs _ => sMul vs, .tup [ag4, ag4]⟩]
def tn4 (v : Int) : AObj := .row 24 4 (limbs v)
def q71t (n : Int) (v i : Int) : St := (envOf 24 [(2, .ptr (some (0, 0))), (4, .ptr (some (1, 0))), (13, .int .i64 n), (14, .int .i64 i)], [tn4 0, tn4 v])
def t71t : Tidy := ⟨dropT 24 [2, 4, 13, 14], .rows [0, 1]⟩
def x71t : Tidy := ⟨dropT 24 [2, 4], .rows [0, 1]⟩
def C71t : Cfg := tbC Q tb71 (fun _ => false) kdI
def C71T (n : Nat) : Cfg := { C71t with
  lw := fun id => if id = 5 then some fun st K => st = q71t n 1 0 ∧ K (.exit 0) (envOf 24 [(2, .ptr (some (0, 0))), (4, .ptr (some (1, 0)))], [tn4 0, tn4 (10 ^ n)]) else none
  F := fun id => if id = 5 then t71t else ⟨[], .all⟩ }
def tb42 : List TbE := [⟨71, fun vs _ => sTen vs, .tup [ag4, .one .bool]⟩, ⟨62, fun vs _ => sMul vs, .tup [ag4, ag4]⟩]
theorem v71tb (n : Nat) (v : Int) (i : Nat) (K : AExit → St → Prop) : (askB (decide ((↑i : Int) < (↑n : Int))) (∃ (n_1 : Int), ∃ (n_2 : Int), ∃ (n_3 : Int), ∃ (n_4 : Int), some (AV.agg [AV.int .u64 10, AV.int .u64 0, AV.int .u64 0, AV.int .u64 0]) = some (AV.agg [AV.int .u64 n_1, AV.int .u64 n_2, AV.int .u64 n_3, AV.int .u64 n_4]) ∧ ∃ (n_5 : Int), ∃ (n_6 : Int), ∃ (n_7 : Int), ∃ (n_8 : Int), ∃ (n_9 : Int), ∃ (n_10 : Int), ∃ (n_11 : Int), ∃ (n_12 : Int), sMul [AV.agg [AV.int .u64 (v % 18446744073709551616), AV.int .u64 (v / 18446744073709551616 % 18446744073709551616), AV.int .u64 (v / 18446744073709551616 / 18446744073709551616 % 18446744073709551616), AV.int .u64 (v / 18446744073709551616 / 18446744073709551616 / 18446744073709551616 % 18446744073709551616)], AV.agg [AV.int .u64 n_1, AV.int .u64 n_2, AV.int .u64 n_3, AV.int .u64 n_4]] = some (AV.tup [AV.agg [AV.int .u64 n_5, AV.int .u64 n_6, AV.int .u64 n_7, AV.int .u64 n_8], AV.agg [AV.int .u64 n_9, AV.int .u64 n_10, AV.int .u64 n_11, AV.int .u64 n_12]]) ∧ K AExit.normal (envOf 24 [(2, AV.ptr (some (0, 0))), (4, AV.ptr (some (1, 0))), (13, AV.int .i64 (↑n : Int)), (14, AV.int .i64 (IntKind.wrap .i64 ((↑i : Int) + 1)))], [AObj.row 24 4 [AV.int .u64 0, AV.int .u64 0, AV.int .u64 0, AV.int .u64 0], AObj.row 24 4 [AV.int .u64 n_9, AV.int .u64 n_10, AV.int .u64 n_11, AV.int .u64 n_12]])) (K (AExit.exit 0) (envOf 24 [(2, AV.ptr (some (0, 0))), (4, AV.ptr (some (1, 0)))], [AObj.row 24 4 [AV.int .u64 0, AV.int .u64 0, AV.int .u64 0, AV.int .u64 0], AObj.row 24 4 [AV.int .u64 (v % 18446744073709551616), AV.int .u64 (v / 18446744073709551616 % 18446744073709551616), AV.int .u64 (v / 18446744073709551616 / 18446744073709551616 % 18446744073709551616), AV.int .u64 (v / 18446744073709551616 / 18446744073709551616 / 18446744073709551616 % 18446744073709551616)]]))) = (wpP Tryd.prog C71t 60 (.inl pz71_l0) (q71t n v i) (postX C71t t71t x71t x71t K)) := by kernel_rfl
theorem v71t (n : Nat) (R : AV → AHeap → Prop) : (askB (decide ((↑n : Int) > 77)) (R (AV.tup [AV.agg [AV.int .u64 0, AV.int .u64 0, AV.int .u64 0, AV.int .u64 0], AV.bool false]) [AObj.row 24 4 [AV.int .u64 0, AV.int .u64 0, AV.int .u64 0, AV.int .u64 0]]) (∃ (n_1 : Int), ∃ (n_2 : Int), ∃ (n_3 : Int), ∃ (n_4 : Int), some (AV.agg [AV.int .u64 1, AV.int .u64 0, AV.int .u64 0, AV.int .u64 0]) = some (AV.agg [AV.int .u64 n_1, AV.int .u64 n_2, AV.int .u64 n_3, AV.int .u64 n_4]) ∧ (envOf 24 [(2, AV.ptr (some (0, 0))), (4, AV.ptr (some (1, 0))), (13, AV.int .i64 (↑n : Int)), (14, AV.int .i64 0)], [AObj.row 24 4 [AV.int .u64 0, AV.int .u64 0, AV.int .u64 0, AV.int .u64 0], AObj.row 24 4 [AV.int .u64 n_1, AV.int .u64 n_2, AV.int .u64 n_3, AV.int .u64 n_4]]) = (envOf 24 [(2, AV.ptr (some (0, 0))), (4, AV.ptr (some (1, 0))), (13, AV.int .i64 (↑n : Int)), (14, AV.int .i64 0)], [AObj.row 24 4 [AV.int .u64 0, AV.int .u64 0, AV.int .u64 0, AV.int .u64 0], AObj.row 24 4 [AV.int .u64 1, AV.int .u64 0, AV.int .u64 0, AV.int .u64 0]]) ∧ R (AV.tup [AV.agg [AV.int .u64 (10 ^ n % 18446744073709551616), AV.int .u64 (10 ^ n / 18446744073709551616 % 18446744073709551616), AV.int .u64 (10 ^ n / 18446744073709551616 / 18446744073709551616 % 18446744073709551616), AV.int .u64 (10 ^ n / 18446744073709551616 / 18446744073709551616 / 18446744073709551616 % 18446744073709551616)], AV.bool true]) [AObj.row 24 4 [AV.int .u64 (10 ^ n % 18446744073709551616), AV.int .u64 (10 ^ n / 18446744073709551616 % 18446744073709551616), AV.int .u64 (10 ^ n / 18446744073709551616 / 18446744073709551616 % 18446744073709551616), AV.int .u64 (10 ^ n / 18446744073709551616 / 18446744073709551616 / 18446744073709551616 % 18446744073709551616)], AObj.row 24 4 [AV.int .u64 (10 ^ n % 18446744073709551616), AV.int .u64 (10 ^ n / 18446744073709551616 % 18446744073709551616), AV.int .u64 (10 ^ n / 18446744073709551616 / 18446744073709551616 % 18446744073709551616), AV.int .u64 (10 ^ n / 18446744073709551616 / 18446744073709551616 / 18446744073709551616 % 18446744073709551616)]])) = (wpF Tryd.prog (C71T n) 60 pz71 [.int .i64 n] [] R) := by kernel_rfl
theorem v42t (a0 a1 a2 a3 : Int) (n : Int) (R : AV → AHeap → Prop) : (∃ (n_1 : Int), ∃ (n_2 : Int), ∃ (n_3 : Int), ∃ (n_4 : Int), ∃ (b : Bool), sTen [AV.int .i64 n] = some (AV.tup [AV.agg [AV.int .u64 n_1, AV.int .u64 n_2, AV.int .u64 n_3, AV.int .u64 n_4], AV.bool b]) ∧ askB b (∃ (n : Int), ∃ (n_5 : Int), ∃ (n_6 : Int), ∃ (n_7 : Int), ∃ (n_8 : Int), ∃ (n_9 : Int), ∃ (n_10 : Int), ∃ (n_11 : Int), sMul [AV.agg [AV.int .u64 a0, AV.int .u64 a1, AV.int .u64 a2, AV.int .u64 a3], AV.agg [AV.int .u64 n_1, AV.int .u64 n_2, AV.int .u64 n_3, AV.int .u64 n_4]] = some (AV.tup [AV.agg [AV.int .u64 n, AV.int .u64 n_5, AV.int .u64 n_6, AV.int .u64 n_7], AV.agg [AV.int .u64 n_8, AV.int .u64 n_9, AV.int .u64 n_10, AV.int .u64 n_11]]) ∧ R (AV.agg [AV.int .u64 n, AV.int .u64 n_5, AV.int .u64 n_6, AV.int .u64 n_7, AV.int .u64 n_8, AV.int .u64 n_9, AV.int .u64 n_10, AV.int .u64 n_11]) [AObj.row 24 4 [AV.int .u64 a0, AV.int .u64 a1, AV.int .u64 a2, AV.int .u64 a3], AObj.row 62 8 [AV.int .u64 n, AV.int .u64 n_5, AV.int .u64 n_6, AV.int .u64 n_7, AV.int .u64 n_8, AV.int .u64 n_9, AV.int .u64 n_10, AV.int .u64 n_11], AObj.row 24 4 [AV.int .u64 n_1, AV.int .u64 n_2, AV.int .u64 n_3, AV.int .u64 n_4], AObj.row 24 4 [AV.int .u64 n, AV.int .u64 n_5, AV.int .u64 n_6, AV.int .u64 n_7], AObj.row 24 4 [AV.int .u64 n_8, AV.int .u64 n_9, AV.int .u64 n_10, AV.int .u64 n_11]]) (∃ (n : Int), ∃ (n_5 : Int), ∃ (n_6 : Int), ∃ (n_7 : Int), ∃ (n_8 : Int), ∃ (n_9 : Int), ∃ (n_10 : Int), ∃ (n_11 : Int), sMul [AV.agg [AV.int .u64 a0, AV.int .u64 a1, AV.int .u64 a2, AV.int .u64 a3], AV.agg [AV.int .u64 n_1, AV.int .u64 n_2, AV.int .u64 n_3, AV.int .u64 n_4]] = some (AV.tup [AV.agg [AV.int .u64 n, AV.int .u64 n_5, AV.int .u64 n_6, AV.int .u64 n_7], AV.agg [AV.int .u64 n_8, AV.int .u64 n_9, AV.int .u64 n_10, AV.int .u64 n_11]]) ∧ R (AV.agg [AV.int .u64 n, AV.int .u64 n_5, AV.int .u64 n_6, AV.int .u64 n_7, AV.int .u64 n_8, AV.int .u64 n_9, AV.int .u64 n_10, AV.int .u64 n_11]) [AObj.row 24 4 [AV.int .u64 a0, AV.int .u64 a1, AV.int .u64 a2, AV.int .u64 a3], AObj.row 62 8 [AV.int .u64 n, AV.int .u64 n_5, AV.int .u64 n_6, AV.int .u64 n_7, AV.int .u64 n_8, AV.int .u64 n_9, AV.int .u64 n_10, AV.int .u64 n_11], AObj.row 24 4 [AV.int .u64 n_1, AV.int .u64 n_2, AV.int .u64 n_3, AV.int .u64 n_4], AObj.row 24 4 [AV.int .u64 n, AV.int .u64 n_5, AV.int .u64 n_6, AV.int .u64 n_7], AObj.row 24 4 [AV.int .u64 n_8, AV.int .u64 n_9, AV.int .u64 n_10, AV.int .u64 n_11]])) = (wpF Tryd.prog (tbC Q tb42 (fun _ => false) kdI) 60 pz42 [.agg [.int .u64 a0, .int .u64 a1, .int .u64 a2, .int .u64 a3], .int .i64 n] [] R) := by kernel_rfl
theorem v21t (neg : Bool) (a0 a1 a2 a3 : Int) (sc : Int) (R : AV → AHeap → Prop) : (askB (decide (sc < 0)) (R (AV.int .i64 20) [AObj.row 26 6 [AV.bool neg, AV.int .u64 a0, AV.int .u64 a1, AV.int .u64 a2, AV.int .u64 a3, AV.int .i64 sc]]) (askB (decide (sc > 18)) (R (AV.int .i64 20) [AObj.row 26 6 [AV.bool neg, AV.int .u64 a0, AV.int .u64 a1, AV.int .u64 a2, AV.int .u64 a3, AV.int .i64 sc]]) (askB neg (askB (a0 == 0 && (a1 == 0 && (a2 == 0 && (a3 == 0 && true)))) (R (AV.int .i64 20) [AObj.row 26 6 [AV.bool neg, AV.int .u64 a0, AV.int .u64 a1, AV.int .u64 a2, AV.int .u64 a3, AV.int .i64 sc]]) (R (AV.int .i64 0) [AObj.row 26 6 [AV.bool neg, AV.int .u64 a0, AV.int .u64 a1, AV.int .u64 a2, AV.int .u64 a3, AV.int .i64 sc]])) (R (AV.int .i64 0) [AObj.row 26 6 [AV.bool neg, AV.int .u64 a0, AV.int .u64 a1, AV.int .u64 a2, AV.int .u64 a3, AV.int .i64 sc]])))) = (wpF Tryd.prog (tbC Q [] (fun _ => false) kdI) 60 pz21 [.agg [.bool neg, .int .u64 a0, .int .u64 a1, .int .u64 a2, .int .u64 a3, .int .i64 sc]] [] R) := by kernel_rfl
theorem pow_ten (i : Nat) (h : i ≤ 77) : 0 ≤ (10 : Int) ^ i ∧ (10 : Int) ^ i < 115792089237316195423570985008687907853269984665640564039457584007913129639936 := by
  have : ∀ j : Fin 78, 0 ≤ (10 : Int) ^ j.1 ∧ (10 : Int) ^ j.1 < 115792089237316195423570985008687907853269984665640564039457584007913129639936 := by decide +kernel
  exact this ⟨i, by omega⟩
theorem loop71t (n : Nat) (hn : n ≤ 77) : W Tryd.prog (tbS Q tb71) 0 (.inl (.loop pz71_l0)) (q71t n 1 0) (fun e st => e = .exit 0 ∧ st = (envOf 24 [(2, .ptr (some (0, 0))), (4, .ptr (some (1, 0)))], [tn4 0, tn4 (10 ^ n)])) := by
  have hcw : CwOK (tbS Q tb71) (tbW Q tb71) := tbW_ok rfl
  have main := W_roundsG (P := Tryd.prog) (S := tbS Q tb71) (b0 := 0) (a := pz71_l0) (fun i : Nat => q71t n (10 ^ i) i)
    (fun i => i ≤ n) (fun i => n - i) (fun _ e st => e = .exit 0 ∧ st = (envOf 24 [(2, .ptr (some (0, 0))), (4, .ptr (some (1, 0)))], [tn4 0, tn4 (10 ^ n)])) ?_ 0 (Nat.zero_le _)
  · exact main
  · rintro i h1
    refine W_wpX (C := C71t) hcw (by intro x hx; cases hx) (n := 60) (tn := t71t) (tx := x71t) (tr := x71t) ((v71tb n (10 ^ i) i _).mp ?_)
    rcases Nat.lt_or_ge i n with hi | hi
    · have w1 : IntKind.wrap .i64 ((i : Int) + 1) = ((i + 1 : Nat) : Int) := by rw [IntKind.wrap_i64]; omega
      obtain ⟨p1, p2⟩ := pow_ten i (by omega)
      have hnext : (10 : Int) ^ (i + 1) = 10 ^ i * 10 := Int.pow_succ ..
      rw [w1]
      generalize (10 : Int) ^ i = v at p1 p2 hnext ⊢
      refine askT (decide_eq_true (by omega)) ⟨10, 0, 0, 0, rfl, _, _, _, _, _, _, _, _, mul_ten p1 p2, i + 1, ?_, hi, by show n - (i + 1) < n - i; omega, fun _ _ h => h⟩
      show _ = q71t n (10 ^ (i + 1)) ((i + 1 : Nat) : Int)
      rw [hnext]
      rfl
    · have : i = n := by omega
      subst this
      exact askF (decide_eq_false (by omega)) ⟨rfl, rfl⟩
theorem ten71_ok : QuietOK Tryd.prog 71 fun vs _ => sTen vs := quiet_plain htz71 fun args v h => by
  unfold sTen at h
  split at h
  · rename_i z
    split at h
    · rename_i hs
      cases h
      refine ⟨rfl, rfl, ?_⟩
      have hS : (tbS Q tb71).OK Tryd.prog := tbS_ok quietText (by
        intro x hx
        simp only [tb71, List.mem_cons, List.not_mem_nil, or_false] at hx
        rcases hx with rfl | rfl
        · exact from_ok
        · exact mul_ok)
      obtain ⟨n, rfl⟩ : ∃ n : Nat, z = n := ⟨z.toNat, by omega⟩
      obtain ⟨u, h', rfl, hsem⟩ := sem_vc mixed (C := C71T n) hS (tbS_q _ _) (tbW_ok rfl) htz71 cz71 (one_part rfl (part_loop (id := 5) rfl rfl fun st K hT => by
        obtain ⟨rfl, hk⟩ := hT
        refine W_mono (loop71t n (by omega)) fun e st he => ?_
        obtain ⟨rfl, rfl⟩ := he
        exact hk)) (v71t n fun u _ => u = .tup [.agg (limbs (10 ^ (n : Int).toNat)), .bool true]) (by
        refine askF (decide_eq_false (by omega)) ⟨1, 0, 0, 0, rfl, rfl, rfl⟩)
      exact ⟨h', hsem⟩
    · cases h
  · cases h
theorem limbs_num {a0 a1 a2 a3 : Int} (h : u64s a0 a1 a2 a3 = true) : ([.int .u64 a0, .int .u64 a1, .int .u64 a2, .int .u64 a3] : List AV) = limbs (num4 a0 a1 a2 a3) ∧ 0 ≤ num4 a0 a1 a2 a3 ∧ num4 a0 a1 a2 a3 < 115792089237316195423570985008687907853269984665640564039457584007913129639936 := by
  simp only [u64s, u64B, Bool.and_eq_true, decide_eq_true_eq] at h
  obtain ⟨⟨⟨⟨h0, g0⟩, h1, g1⟩, h2, g2⟩, h3, g3⟩ := h
  have e : num4 a0 a1 a2 a3 = a0 + 18446744073709551616 * (a1 + 18446744073709551616 * (a2 + 18446744073709551616 * a3)) := rfl
  refine ⟨?_, by omega, by omega⟩
  have e0 : num4 a0 a1 a2 a3 % 18446744073709551616 = a0 := by omega
  have e1 : num4 a0 a1 a2 a3 / 18446744073709551616 % 18446744073709551616 = a1 := by omega
  have e2 : num4 a0 a1 a2 a3 / 18446744073709551616 / 18446744073709551616 % 18446744073709551616 = a2 := by omega
  have e3 : num4 a0 a1 a2 a3 / 18446744073709551616 / 18446744073709551616 / 18446744073709551616 % 18446744073709551616 = a3 := by omega
  unfold limbs
  rw [e0, e1, e2, e3]
theorem mul_limbs {v w : Int} (h0 : 0 ≤ v) (h1 : v < 115792089237316195423570985008687907853269984665640564039457584007913129639936) (g0 : 0 ≤ w) (g1 : w < 115792089237316195423570985008687907853269984665640564039457584007913129639936) : sMul [.agg (limbs v), .agg (limbs w)] = some (.tup [.agg (limbs (v * w / 115792089237316195423570985008687907853269984665640564039457584007913129639936)), .agg (limbs (v * w))]) := by
  unfold limbs sMul
  have hu : (u64s (v % 18446744073709551616) (v / 18446744073709551616 % 18446744073709551616) (v / 18446744073709551616 / 18446744073709551616 % 18446744073709551616) (v / 18446744073709551616 / 18446744073709551616 / 18446744073709551616 % 18446744073709551616) && u64s (w % 18446744073709551616) (w / 18446744073709551616 % 18446744073709551616) (w / 18446744073709551616 / 18446744073709551616 % 18446744073709551616) (w / 18446744073709551616 / 18446744073709551616 / 18446744073709551616 % 18446744073709551616)) = true := by
    simp only [u64s, u64B, Bool.and_eq_true, decide_eq_true_eq]; omega
  simp only [hu, if_true]
  have hn : num4 (v % 18446744073709551616) (v / 18446744073709551616 % 18446744073709551616) (v / 18446744073709551616 / 18446744073709551616 % 18446744073709551616) (v / 18446744073709551616 / 18446744073709551616 / 18446744073709551616 % 18446744073709551616) = v := by unfold num4; omega
  have hm : num4 (w % 18446744073709551616) (w / 18446744073709551616 % 18446744073709551616) (w / 18446744073709551616 / 18446744073709551616 % 18446744073709551616) (w / 18446744073709551616 / 18446744073709551616 / 18446744073709551616 % 18446744073709551616) = w := by unfold num4; omega
  rw [hn, hm]
  rfl
theorem check_ok : QuietOK Tryd.prog 21 fun vs _ => sCheck vs := quiet_plain htz21 fun args v h => by
  unfold sCheck at h
  split at h
  · rename_i neg l0 l1 l2 l3 sc
    cases h
    · skip
      refine ⟨rfl, rfl, ?_⟩
      have hS : (tbS Q []).OK Tryd.prog := tbS_ok quietText (by simp)
      obtain ⟨u, h', rfl, hsem⟩ := sem_vc mixed (C := tbC Q [] (fun _ => false) kdI) hS (tbS_q _ _) (tbW_ok rfl) htz21 cz21 (no_parts rfl) (v21t neg l0 l1 l2 l3 sc fun u _ => u = .int .i64 (if decide (sc < 0) || decide (sc > 18) || (neg && !(nz4 l0 l1 l2 l3)) then 20 else 0)) (by
        refine askI (fun g1 => ?_) fun g1 => askI (fun g2 => ?_) fun g2 => askI (fun g3 => askI (fun g4 => ?_) fun g4 => ?_) fun g3 => ?_
        · rw [g1]; rfl
        · rw [g1, g2]; rfl
        · have e : nz4 l0 l1 l2 l3 = false := by unfold nz4; rw [g4]; rfl
          rw [g1, g2, g3, e]; rfl
        · have e : nz4 l0 l1 l2 l3 = true := by unfold nz4; rw [g4]; rfl
          rw [g1, g2, g3, e]; rfl
        · rw [g1, g2, g3]; rfl)
      exact ⟨h', hsem⟩
  · cases h
def sTimesN : List AV → Option AV
  | [.agg [.int .u64 a0, .int .u64 a1, .int .u64 a2, .int .u64 a3], .int .i64 n] => if u64s a0 a1 a2 a3 = true ∧ 0 ≤ n ∧ n ≤ 77 then some (.agg (limbs (num4 a0 a1 a2 a3 * 10 ^ n.toNat / 115792089237316195423570985008687907853269984665640564039457584007913129639936) ++ limbs (num4 a0 a1 a2 a3 * 10 ^ n.toNat))) else none
  | _ => none
theorem nz_limbs {x : Int} (h0 : 0 ≤ x) (h1 : x < 115792089237316195423570985008687907853269984665640564039457584007913129639936) : nz4 (x % 18446744073709551616) (x / 18446744073709551616 % 18446744073709551616) (x / 18446744073709551616 / 18446744073709551616 % 18446744073709551616) (x / 18446744073709551616 / 18446744073709551616 / 18446744073709551616 % 18446744073709551616) = decide (x ≠ 0) := by
  unfold nz4
  by_cases h : x = 0
  · subst h; rfl
  · rw [decide_eq_true h]
    cases hc : (x % 18446744073709551616 == 0 && (x / 18446744073709551616 % 18446744073709551616 == 0 && (x / 18446744073709551616 / 18446744073709551616 % 18446744073709551616 == 0 && (x / 18446744073709551616 / 18446744073709551616 / 18446744073709551616 % 18446744073709551616 == 0 && true)))) with
    | false => rfl
    | true =>
      simp only [Bool.and_eq_true, beq_iff_eq] at hc
      obtain ⟨a, b, c, d, -⟩ := hc
      exact absurd (by omega) h
theorem u64_limbs (x : Int) : u64s (x % 18446744073709551616) (x / 18446744073709551616 % 18446744073709551616) (x / 18446744073709551616 / 18446744073709551616 % 18446744073709551616) (x / 18446744073709551616 / 18446744073709551616 / 18446744073709551616 % 18446744073709551616) = true := by
  simp only [u64s, u64B, Bool.and_eq_true, decide_eq_true_eq]; omega
theorem num_limbs {x : Int} (h0 : 0 ≤ x) (h1 : x < 115792089237316195423570985008687907853269984665640564039457584007913129639936) : num4 (x % 18446744073709551616) (x / 18446744073709551616 % 18446744073709551616) (x / 18446744073709551616 / 18446744073709551616 % 18446744073709551616) (x / 18446744073709551616 / 18446744073709551616 / 18446744073709551616 % 18446744073709551616) = x := by unfold num4; omega
theorem pow_bd {v : Int} {k : Nat} (h0 : 0 ≤ v) (h1 : v < 115792089237316195423570985008687907853269984665640564039457584007913129639936) (hk : k ≤ 77) : 0 ≤ v * 10 ^ k ∧ v * 10 ^ k / 115792089237316195423570985008687907853269984665640564039457584007913129639936 < 115792089237316195423570985008687907853269984665640564039457584007913129639936 := by
  obtain ⟨p1, p2⟩ := pow_ten k hk
  generalize (10 : Int) ^ k = p at p1 p2 ⊢
  refine ⟨Int.mul_nonneg h0 p1, ?_⟩
  have : v * p ≤ 115792089237316195423570985008687907853269984665640564039457584007913129639936 * p := Int.mul_le_mul_of_nonneg_right (by omega) p1
  omega
theorem times_at {v n : Int} (h0 : 0 ≤ v) (h1 : v < 115792089237316195423570985008687907853269984665640564039457584007913129639936) (hn : 0 ≤ n ∧ n ≤ 77) : sTimesN [.agg (limbs v), .int .i64 n] = some (.agg (limbs (v * 10 ^ n.toNat / 115792089237316195423570985008687907853269984665640564039457584007913129639936) ++ limbs (v * 10 ^ n.toNat))) := by
  unfold limbs sTimesN
  simp only [u64_limbs, num_limbs h0 h1, true_and, if_pos hn]
  rfl
theorem times_ok : QuietOK Tryd.prog 42 fun vs _ => sTimesN vs := quiet_plain htz42 fun args v h => by
  unfold sTimesN at h
  split at h
  · rename_i a0 a1 a2 a3 n
    split at h
    · rename_i hs
      cases h
      refine ⟨rfl, rfl, ?_⟩
      have hS : (tbS Q tb42).OK Tryd.prog := tbS_ok quietText (by
        intro x hx
        simp only [tb42, List.mem_cons, List.not_mem_nil, or_false] at hx
        rcases hx with rfl | rfl
        · exact ten71_ok
        · exact mul_ok)
      obtain ⟨u, h', rfl, hsem⟩ := sem_vc mixed (C := tbC Q tb42 (fun _ => false) kdI) hS (tbS_q _ _) (tbW_ok rfl) htz42 cz42 (no_parts rfl) (v42t a0 a1 a2 a3 n fun u _ => u = .agg (limbs (num4 a0 a1 a2 a3 * 10 ^ n.toNat / 115792089237316195423570985008687907853269984665640564039457584007913129639936) ++ limbs (num4 a0 a1 a2 a3 * 10 ^ n.toNat))) (by
        obtain ⟨hl, b0, b1⟩ := limbs_num hs.1
        obtain ⟨p1, p2⟩ := pow_ten n.toNat (by omega)
        have hM := mul_limbs b0 b1 p1 p2
        rw [← hl] at hM
        have hT : sTen [.int .i64 n] = some (.tup [.agg (limbs (10 ^ n.toNat)), .bool true]) := if_pos hs.2
        generalize (10 : Int) ^ n.toNat = p at p1 p2 hM hT ⊢
        generalize num4 a0 a1 a2 a3 = v at hM ⊢
        exact ⟨_, _, _, _, true, hT, askT rfl ⟨_, _, _, _, _, _, _, _, hM, rfl⟩⟩)
      exact ⟨h', hsem⟩
    · cases h
  · cases h
def Hd (acc : List UInt8) : Prop := acc = [] ∨ ∃ c l, acc = c :: l ∧ (c == 48) = false

end Go.Proofs.YtddalcnajejibaaDoor
