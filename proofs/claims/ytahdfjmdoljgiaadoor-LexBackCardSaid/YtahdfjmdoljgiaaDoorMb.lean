/- Written by merging: Lma Lmb Lmc Lmd Lme Lmf Lmj Lmk Lml Lmm. -/
import Derived.Test.YtahdfjmdoljgiaaDoorMa
namespace Go.Proofs.YtahdfjmdoljgiaaDoor
open Go Go.Am
set_option maxRecDepth 100000
set_option linter.unusedVariables false
set_option linter.unusedSimpArgs false

def u64B (a : Int) : Bool := decide (0 ≤ a) && decide (a < 18446744073709551616)
def sHalf : List AV → Option AV
  | [.int .u64 a, .int .u64 b] => if u64B a && u64B b then some (.tup [.int .u64 (a * b / 18446744073709551616), .int .u64 (a * b % 18446744073709551616)]) else none
  | _ => none
def sPlus : List AV → Option AV
  | [.int .u64 a, .int .u64 b, .int .u64 c] => if u64B a && u64B b && u64B c then some (.tup [.int .u64 ((a + b + c) % 18446744073709551616), .int .u64 ((a + b + c) / 18446744073709551616)]) else none
  | _ => none
def sFrom : List AV → Option AV
  | [.int .u64 a] => some (.agg [.int .u64 a, .int .u64 0, .int .u64 0, .int .u64 0])
  | _ => none
/-- A number's limbs. -/
def limbs (n : Int) : List AV := [.int .u64 (n % 18446744073709551616), .int .u64 (n / 18446744073709551616 % 18446744073709551616), .int .u64 (n / 18446744073709551616 / 18446744073709551616 % 18446744073709551616), .int .u64 (n / 18446744073709551616 / 18446744073709551616 / 18446744073709551616 % 18446744073709551616)]
def num4 (a b c d : Int) : Int := a + 18446744073709551616 * (b + 18446744073709551616 * (c + 18446744073709551616 * d))
def u64s (a b c d : Int) : Bool := u64B a && u64B b && u64B c && u64B d
def sAdd : List AV → Option AV
  | [.agg [.int .u64 a0, .int .u64 a1, .int .u64 a2, .int .u64 a3], .agg [.int .u64 b0, .int .u64 b1, .int .u64 b2, .int .u64 b3]] => if u64s a0 a1 a2 a3 && u64s b0 b1 b2 b3 then
      some (.tup [.agg (limbs (num4 a0 a1 a2 a3 + num4 b0 b1 b2 b3)), .bool (decide (num4 a0 a1 a2 a3 + num4 b0 b1 b2 b3 ≥ 115792089237316195423570985008687907853269984665640564039457584007913129639936))]) else none
  | _ => none
def sMul : List AV → Option AV
  | [.agg [.int .u64 a0, .int .u64 a1, .int .u64 a2, .int .u64 a3], .agg [.int .u64 b0, .int .u64 b1, .int .u64 b2, .int .u64 b3]] => if u64s a0 a1 a2 a3 && u64s b0 b1 b2 b3 then
      some (.tup [.agg (limbs (num4 a0 a1 a2 a3 * num4 b0 b1 b2 b3 / 115792089237316195423570985008687907853269984665640564039457584007913129639936)), .agg (limbs (num4 a0 a1 a2 a3 * num4 b0 b1 b2 b3))]) else none
  | _ => none
def i64 : Rs1 := .one (.int .u64)
def ag4 : Rs1 := .agg [.int .u64, .int .u64, .int .u64, .int .u64]
def tbL : List TbE := [⟨77, fun vs _ => sHalf vs, .tup [i64, i64]⟩, ⟨78, fun vs _ => sPlus vs, .tup [i64, i64]⟩]
def kdU (_ : Nat) : Kd := .one (.int .u64)
def CL0 : Cfg := tbC Q [] (fun _ => false) kdU
def CL : Cfg := tbC Q tbL (fun _ => false) kdU
theorem v77 (a b : Int) (R : AV → AHeap → Prop) : (R (AV.tup [AV.int .u64 (IntKind.wrap .u64 (IntKind.wrap .u64 (IntKind.wrap .u64 (Int.fdiv a (2 ^ min 32 (IntKind.bits .u64)) * Int.fdiv b (2 ^ min 32 (IntKind.bits .u64))) + Int.fdiv (IntKind.wrap .u64 (IntKind.wrap .u64 (Int.fdiv a (2 ^ min 32 (IntKind.bits .u64)) * IntKind.wrap .u64 (↑(BitVec.toNat (BitVec.ofInt (IntKind.bits .u64) b &&& BitVec.ofInt (IntKind.bits .u64) 4294967295)) : Int)) + Int.fdiv (IntKind.wrap .u64 (IntKind.wrap .u64 (↑(BitVec.toNat (BitVec.ofInt (IntKind.bits .u64) a &&& BitVec.ofInt (IntKind.bits .u64) 4294967295)) : Int) * IntKind.wrap .u64 (↑(BitVec.toNat (BitVec.ofInt (IntKind.bits .u64) b &&& BitVec.ofInt (IntKind.bits .u64) 4294967295)) : Int))) (2 ^ min 32 (IntKind.bits .u64)))) (2 ^ min 32 (IntKind.bits .u64))) + Int.fdiv (IntKind.wrap .u64 (IntKind.wrap .u64 (IntKind.wrap .u64 (↑(BitVec.toNat (BitVec.ofInt (IntKind.bits .u64) a &&& BitVec.ofInt (IntKind.bits .u64) 4294967295)) : Int) * Int.fdiv b (2 ^ min 32 (IntKind.bits .u64))) + IntKind.wrap .u64 (↑(BitVec.toNat (BitVec.ofInt (IntKind.bits .u64) (IntKind.wrap .u64 (IntKind.wrap .u64 (Int.fdiv a (2 ^ min 32 (IntKind.bits .u64)) * IntKind.wrap .u64 (↑(BitVec.toNat (BitVec.ofInt (IntKind.bits .u64) b &&& BitVec.ofInt (IntKind.bits .u64) 4294967295)) : Int)) + Int.fdiv (IntKind.wrap .u64 (IntKind.wrap .u64 (↑(BitVec.toNat (BitVec.ofInt (IntKind.bits .u64) a &&& BitVec.ofInt (IntKind.bits .u64) 4294967295)) : Int) * IntKind.wrap .u64 (↑(BitVec.toNat (BitVec.ofInt (IntKind.bits .u64) b &&& BitVec.ofInt (IntKind.bits .u64) 4294967295)) : Int))) (2 ^ min 32 (IntKind.bits .u64)))) &&& BitVec.ofInt (IntKind.bits .u64) 4294967295)) : Int))) (2 ^ min 32 (IntKind.bits .u64)))), AV.int .u64 (IntKind.wrap .u64 (↑(BitVec.toNat (BitVec.ofInt (IntKind.bits .u64) (IntKind.wrap .u64 (IntKind.wrap .u64 (IntKind.wrap .u64 (IntKind.wrap .u64 (↑(BitVec.toNat (BitVec.ofInt (IntKind.bits .u64) a &&& BitVec.ofInt (IntKind.bits .u64) 4294967295)) : Int) * Int.fdiv b (2 ^ min 32 (IntKind.bits .u64))) + IntKind.wrap .u64 (↑(BitVec.toNat (BitVec.ofInt (IntKind.bits .u64) (IntKind.wrap .u64 (IntKind.wrap .u64 (Int.fdiv a (2 ^ min 32 (IntKind.bits .u64)) * IntKind.wrap .u64 (↑(BitVec.toNat (BitVec.ofInt (IntKind.bits .u64) b &&& BitVec.ofInt (IntKind.bits .u64) 4294967295)) : Int)) + Int.fdiv (IntKind.wrap .u64 (IntKind.wrap .u64 (↑(BitVec.toNat (BitVec.ofInt (IntKind.bits .u64) a &&& BitVec.ofInt (IntKind.bits .u64) 4294967295)) : Int) * IntKind.wrap .u64 (↑(BitVec.toNat (BitVec.ofInt (IntKind.bits .u64) b &&& BitVec.ofInt (IntKind.bits .u64) 4294967295)) : Int))) (2 ^ min 32 (IntKind.bits .u64)))) &&& BitVec.ofInt (IntKind.bits .u64) 4294967295)) : Int)) * 2 ^ min 32 (IntKind.bits .u64))) ||| BitVec.ofInt (IntKind.bits .u64) (IntKind.wrap .u64 (↑(BitVec.toNat (BitVec.ofInt (IntKind.bits .u64) (IntKind.wrap .u64 (IntKind.wrap .u64 (↑(BitVec.toNat (BitVec.ofInt (IntKind.bits .u64) a &&& BitVec.ofInt (IntKind.bits .u64) 4294967295)) : Int) * IntKind.wrap .u64 (↑(BitVec.toNat (BitVec.ofInt (IntKind.bits .u64) b &&& BitVec.ofInt (IntKind.bits .u64) 4294967295)) : Int))) &&& BitVec.ofInt (IntKind.bits .u64) 4294967295)) : Int)))) : Int))]) []) = (wpF Tryd.prog CL0 60 p77 [.int .u64 a, .int .u64 b] [] R) := by kernel_rfl
theorem v78 (a b c : Int) (R : AV → AHeap → Prop) : (askB (decide (IntKind.wrap .u64 (a + b) < a)) (askB (decide (IntKind.wrap .u64 (IntKind.wrap .u64 (a + b) + c) < IntKind.wrap .u64 (a + b))) (R (AV.tup [AV.int .u64 (IntKind.wrap .u64 (IntKind.wrap .u64 (a + b) + c)), AV.int .u64 2]) []) (R (AV.tup [AV.int .u64 (IntKind.wrap .u64 (IntKind.wrap .u64 (a + b) + c)), AV.int .u64 1]) [])) (askB (decide (IntKind.wrap .u64 (IntKind.wrap .u64 (a + b) + c) < IntKind.wrap .u64 (a + b))) (R (AV.tup [AV.int .u64 (IntKind.wrap .u64 (IntKind.wrap .u64 (a + b) + c)), AV.int .u64 1]) []) (R (AV.tup [AV.int .u64 (IntKind.wrap .u64 (IntKind.wrap .u64 (a + b) + c)), AV.int .u64 0]) []))) = (wpF Tryd.prog CL0 60 p78 [.int .u64 a, .int .u64 b, .int .u64 c] [] R) := by kernel_rfl
theorem v67 (a : Int) (R : AV → AHeap → Prop) : (R (AV.agg [AV.int .u64 a, AV.int .u64 0, AV.int .u64 0, AV.int .u64 0]) [AObj.row 35 4 [AV.int .u64 a, AV.int .u64 0, AV.int .u64 0, AV.int .u64 0]]) = (wpF Tryd.prog CL0 60 p67 [.int .u64 a] [] R) := by kernel_rfl
theorem v68 (a0 a1 a2 a3 b0 b1 b2 b3 : Int) (R : AV → AHeap → Prop) : (∃ (n : Int), ∃ (n_1 : Int), sPlus [AV.int .u64 a0, AV.int .u64 b0, AV.int .u64 0] = some (AV.tup [AV.int .u64 n, AV.int .u64 n_1]) ∧ ∃ (n_2 : Int), ∃ (n_3 : Int), sPlus [AV.int .u64 a1, AV.int .u64 b1, AV.int .u64 n_1] = some (AV.tup [AV.int .u64 n_2, AV.int .u64 n_3]) ∧ ∃ (n_4 : Int), ∃ (n_5 : Int), sPlus [AV.int .u64 a2, AV.int .u64 b2, AV.int .u64 n_3] = some (AV.tup [AV.int .u64 n_4, AV.int .u64 n_5]) ∧ ∃ (n_6 : Int), ∃ (n_7 : Int), sPlus [AV.int .u64 a3, AV.int .u64 b3, AV.int .u64 n_5] = some (AV.tup [AV.int .u64 n_6, AV.int .u64 n_7]) ∧ askB (decide (n_7 > 0)) (R (AV.tup [AV.agg [AV.int .u64 n, AV.int .u64 n_2, AV.int .u64 n_4, AV.int .u64 n_6], AV.bool true]) [AObj.row 35 4 [AV.int .u64 a0, AV.int .u64 a1, AV.int .u64 a2, AV.int .u64 a3], AObj.row 35 4 [AV.int .u64 b0, AV.int .u64 b1, AV.int .u64 b2, AV.int .u64 b3], AObj.row 35 4 [AV.int .u64 n, AV.int .u64 n_2, AV.int .u64 n_4, AV.int .u64 n_6], AObj.row 35 4 [AV.int .u64 n, AV.int .u64 n_2, AV.int .u64 n_4, AV.int .u64 n_6]]) (R (AV.tup [AV.agg [AV.int .u64 n, AV.int .u64 n_2, AV.int .u64 n_4, AV.int .u64 n_6], AV.bool false]) [AObj.row 35 4 [AV.int .u64 a0, AV.int .u64 a1, AV.int .u64 a2, AV.int .u64 a3], AObj.row 35 4 [AV.int .u64 b0, AV.int .u64 b1, AV.int .u64 b2, AV.int .u64 b3], AObj.row 35 4 [AV.int .u64 n, AV.int .u64 n_2, AV.int .u64 n_4, AV.int .u64 n_6], AObj.row 35 4 [AV.int .u64 n, AV.int .u64 n_2, AV.int .u64 n_4, AV.int .u64 n_6]])) = (wpF Tryd.prog CL 200 p68 [(.agg [.int .u64 a0, .int .u64 a1, .int .u64 a2, .int .u64 a3]), (.agg [.int .u64 b0, .int .u64 b1, .int .u64 b2, .int .u64 b3])] [] R) := by kernel_rfl
theorem v66 (a0 a1 a2 a3 b0 b1 b2 b3 : Int) (R : AV → AHeap → Prop) : (∃ (n : Int), ∃ (n_1 : Int), sHalf [AV.int .u64 a0, AV.int .u64 b0] = some (AV.tup [AV.int .u64 n, AV.int .u64 n_1]) ∧ ∃ (n_2 : Int), ∃ (n_3 : Int), sPlus [AV.int .u64 0, AV.int .u64 n_1, AV.int .u64 0] = some (AV.tup [AV.int .u64 n_2, AV.int .u64 n_3]) ∧ ∃ (n_4 : Int), ∃ (n_5 : Int), sHalf [AV.int .u64 a0, AV.int .u64 b1] = some (AV.tup [AV.int .u64 n_4, AV.int .u64 n_5]) ∧ ∃ (n_6 : Int), ∃ (n_7 : Int), sPlus [AV.int .u64 0, AV.int .u64 n_5, AV.int .u64 (IntKind.wrap .u64 (n + n_3))] = some (AV.tup [AV.int .u64 n_6, AV.int .u64 n_7]) ∧ ∃ (n : Int), ∃ (n_8 : Int), sHalf [AV.int .u64 a0, AV.int .u64 b2] = some (AV.tup [AV.int .u64 n, AV.int .u64 n_8]) ∧ ∃ (n_9 : Int), ∃ (n_10 : Int), sPlus [AV.int .u64 0, AV.int .u64 n_8, AV.int .u64 (IntKind.wrap .u64 (n_4 + n_7))] = some (AV.tup [AV.int .u64 n_9, AV.int .u64 n_10]) ∧ ∃ (n_11 : Int), ∃ (n_12 : Int), sHalf [AV.int .u64 a0, AV.int .u64 b3] = some (AV.tup [AV.int .u64 n_11, AV.int .u64 n_12]) ∧ ∃ (n_13 : Int), ∃ (n_14 : Int), sPlus [AV.int .u64 0, AV.int .u64 n_12, AV.int .u64 (IntKind.wrap .u64 (n + n_10))] = some (AV.tup [AV.int .u64 n_13, AV.int .u64 n_14]) ∧ ∃ (n : Int), ∃ (n_15 : Int), sHalf [AV.int .u64 a1, AV.int .u64 b0] = some (AV.tup [AV.int .u64 n, AV.int .u64 n_15]) ∧ ∃ (n_16 : Int), ∃ (n_17 : Int), sPlus [AV.int .u64 n_6, AV.int .u64 n_15, AV.int .u64 0] = some (AV.tup [AV.int .u64 n_16, AV.int .u64 n_17]) ∧ ∃ (n_18 : Int), ∃ (n_19 : Int), sHalf [AV.int .u64 a1, AV.int .u64 b1] = some (AV.tup [AV.int .u64 n_18, AV.int .u64 n_19]) ∧ ∃ (n_20 : Int), ∃ (n_21 : Int), sPlus [AV.int .u64 n_9, AV.int .u64 n_19, AV.int .u64 (IntKind.wrap .u64 (n + n_17))] = some (AV.tup [AV.int .u64 n_20, AV.int .u64 n_21]) ∧ ∃ (n : Int), ∃ (n_22 : Int), sHalf [AV.int .u64 a1, AV.int .u64 b2] = some (AV.tup [AV.int .u64 n, AV.int .u64 n_22]) ∧ ∃ (n_23 : Int), ∃ (n_24 : Int), sPlus [AV.int .u64 n_13, AV.int .u64 n_22, AV.int .u64 (IntKind.wrap .u64 (n_18 + n_21))] = some (AV.tup [AV.int .u64 n_23, AV.int .u64 n_24]) ∧ ∃ (n_25 : Int), ∃ (n_26 : Int), sHalf [AV.int .u64 a1, AV.int .u64 b3] = some (AV.tup [AV.int .u64 n_25, AV.int .u64 n_26]) ∧ ∃ (n_27 : Int), ∃ (n_28 : Int), sPlus [AV.int .u64 (IntKind.wrap .u64 (n_11 + n_14)), AV.int .u64 n_26, AV.int .u64 (IntKind.wrap .u64 (n + n_24))] = some (AV.tup [AV.int .u64 n_27, AV.int .u64 n_28]) ∧ ∃ (n : Int), ∃ (n_29 : Int), sHalf [AV.int .u64 a2, AV.int .u64 b0] = some (AV.tup [AV.int .u64 n, AV.int .u64 n_29]) ∧ ∃ (n_30 : Int), ∃ (n_31 : Int), sPlus [AV.int .u64 n_20, AV.int .u64 n_29, AV.int .u64 0] = some (AV.tup [AV.int .u64 n_30, AV.int .u64 n_31]) ∧ ∃ (n_32 : Int), ∃ (n_33 : Int), sHalf [AV.int .u64 a2, AV.int .u64 b1] = some (AV.tup [AV.int .u64 n_32, AV.int .u64 n_33]) ∧ ∃ (n_34 : Int), ∃ (n_35 : Int), sPlus [AV.int .u64 n_23, AV.int .u64 n_33, AV.int .u64 (IntKind.wrap .u64 (n + n_31))] = some (AV.tup [AV.int .u64 n_34, AV.int .u64 n_35]) ∧ ∃ (n : Int), ∃ (n_36 : Int), sHalf [AV.int .u64 a2, AV.int .u64 b2] = some (AV.tup [AV.int .u64 n, AV.int .u64 n_36]) ∧ ∃ (n_37 : Int), ∃ (n_38 : Int), sPlus [AV.int .u64 n_27, AV.int .u64 n_36, AV.int .u64 (IntKind.wrap .u64 (n_32 + n_35))] = some (AV.tup [AV.int .u64 n_37, AV.int .u64 n_38]) ∧ ∃ (n_39 : Int), ∃ (n_40 : Int), sHalf [AV.int .u64 a2, AV.int .u64 b3] = some (AV.tup [AV.int .u64 n_39, AV.int .u64 n_40]) ∧ ∃ (n_41 : Int), ∃ (n_42 : Int), sPlus [AV.int .u64 (IntKind.wrap .u64 (n_25 + n_28)), AV.int .u64 n_40, AV.int .u64 (IntKind.wrap .u64 (n + n_38))] = some (AV.tup [AV.int .u64 n_41, AV.int .u64 n_42]) ∧ ∃ (n : Int), ∃ (n_43 : Int), sHalf [AV.int .u64 a3, AV.int .u64 b0] = some (AV.tup [AV.int .u64 n, AV.int .u64 n_43]) ∧ ∃ (n_44 : Int), ∃ (n_45 : Int), sPlus [AV.int .u64 n_34, AV.int .u64 n_43, AV.int .u64 0] = some (AV.tup [AV.int .u64 n_44, AV.int .u64 n_45]) ∧ ∃ (n_46 : Int), ∃ (n_47 : Int), sHalf [AV.int .u64 a3, AV.int .u64 b1] = some (AV.tup [AV.int .u64 n_46, AV.int .u64 n_47]) ∧ ∃ (n_48 : Int), ∃ (n_49 : Int), sPlus [AV.int .u64 n_37, AV.int .u64 n_47, AV.int .u64 (IntKind.wrap .u64 (n + n_45))] = some (AV.tup [AV.int .u64 n_48, AV.int .u64 n_49]) ∧ ∃ (n : Int), ∃ (n_50 : Int), sHalf [AV.int .u64 a3, AV.int .u64 b2] = some (AV.tup [AV.int .u64 n, AV.int .u64 n_50]) ∧ ∃ (n_51 : Int), ∃ (n_52 : Int), sPlus [AV.int .u64 n_41, AV.int .u64 n_50, AV.int .u64 (IntKind.wrap .u64 (n_46 + n_49))] = some (AV.tup [AV.int .u64 n_51, AV.int .u64 n_52]) ∧ ∃ (n_53 : Int), ∃ (n_54 : Int), sHalf [AV.int .u64 a3, AV.int .u64 b3] = some (AV.tup [AV.int .u64 n_53, AV.int .u64 n_54]) ∧ ∃ (n_55 : Int), ∃ (n_56 : Int), sPlus [AV.int .u64 (IntKind.wrap .u64 (n_39 + n_42)), AV.int .u64 n_54, AV.int .u64 (IntKind.wrap .u64 (n + n_52))] = some (AV.tup [AV.int .u64 n_55, AV.int .u64 n_56]) ∧ R (AV.tup [AV.agg [AV.int .u64 n_48, AV.int .u64 n_51, AV.int .u64 n_55, AV.int .u64 (IntKind.wrap .u64 (n_53 + n_56))], AV.agg [AV.int .u64 n_2, AV.int .u64 n_16, AV.int .u64 n_30, AV.int .u64 n_44]]) [AObj.row 35 4 [AV.int .u64 a0, AV.int .u64 a1, AV.int .u64 a2, AV.int .u64 a3], AObj.row 35 4 [AV.int .u64 b0, AV.int .u64 b1, AV.int .u64 b2, AV.int .u64 b3], AObj.row 35 4 [AV.int .u64 n_48, AV.int .u64 n_51, AV.int .u64 n_55, AV.int .u64 (IntKind.wrap .u64 (n_53 + n_56))], AObj.row 35 4 [AV.int .u64 n_2, AV.int .u64 n_16, AV.int .u64 n_30, AV.int .u64 n_44], AObj.row 95 8 [AV.int .u64 n_2, AV.int .u64 n_16, AV.int .u64 n_30, AV.int .u64 n_44, AV.int .u64 n_48, AV.int .u64 n_51, AV.int .u64 n_55, AV.int .u64 (IntKind.wrap .u64 (n_53 + n_56))]]) = (wpF Tryd.prog CL 400 p66 [(.agg [.int .u64 a0, .int .u64 a1, .int .u64 a2, .int .u64 a3]), (.agg [.int .u64 b0, .int .u64 b1, .int .u64 b2, .int .u64 b3])] [] R) := by kernel_rfl
theorem fdiv32 (x : Int) : Int.fdiv x (2 ^ min 32 (IntKind.bits .u64)) = x / 4294967296 := by
  show Int.fdiv x (2 ^ 32) = _
  rw [Int.fdiv_eq_ediv_of_nonneg _ (by decide)]
  rfl
theorem and32 {x : Int} (h0 : 0 ≤ x) (h1 : x < 18446744073709551616) : IntKind.wrap .u64 (↑(BitVec.toNat (BitVec.ofInt (IntKind.bits .u64) x &&& BitVec.ofInt (IntKind.bits .u64) 4294967295)) : Int) = x % 4294967296 := by
  obtain ⟨n, rfl⟩ : ∃ n : Nat, x = n := ⟨x.toNat, by omega⟩
  have hb : (BitVec.toNat (BitVec.ofInt (IntKind.bits .u64) (n : Int) &&& BitVec.ofInt (IntKind.bits .u64) 4294967295)) = n % 4294967296 := by
    rw [BitVec.toNat_and]
    have e1 : (BitVec.ofInt (IntKind.bits .u64) (n : Int)).toNat = n := by
      show (BitVec.ofInt 64 (n : Int)).toNat = n
      rw [BitVec.toNat_ofInt]; omega
    have e2 : (BitVec.ofInt (IntKind.bits .u64) 4294967295).toNat = 2 ^ 32 - 1 := by rfl
    rw [e1, e2, Nat.and_two_pow_sub_one_eq_mod]
  rw [hb, IntKind.wrap_u64]; omega
theorem or32 {x y : Int} (h0 : 0 ≤ x) (h1 : x < 4294967296) (h2 : 0 ≤ y) (h3 : y < 4294967296) : IntKind.wrap .u64 (↑(BitVec.toNat (BitVec.ofInt (IntKind.bits .u64) (x * 4294967296) ||| BitVec.ofInt (IntKind.bits .u64) y)) : Int) = x * 4294967296 + y := by
  obtain ⟨n, rfl⟩ : ∃ n : Nat, x = n := ⟨x.toNat, by omega⟩
  obtain ⟨m, rfl⟩ : ∃ m : Nat, y = m := ⟨y.toNat, by omega⟩
  have hb : (BitVec.toNat (BitVec.ofInt (IntKind.bits .u64) ((n : Int) * 4294967296) ||| BitVec.ofInt (IntKind.bits .u64) (m : Int))) = 2 ^ 32 * n + m := by
    rw [BitVec.toNat_or]
    have e1 : (BitVec.ofInt (IntKind.bits .u64) ((n : Int) * 4294967296)).toNat = 2 ^ 32 * n := by
      show (BitVec.ofInt 64 ((n : Int) * 4294967296)).toNat = 2 ^ 32 * n
      rw [BitVec.toNat_ofInt]; omega
    have e2 : (BitVec.ofInt (IntKind.bits .u64) (m : Int)).toNat = m := by
      show (BitVec.ofInt 64 (m : Int)).toNat = m
      rw [BitVec.toNat_ofInt]; omega
    rw [e1, e2, Nat.two_pow_add_eq_or_of_lt (by omega)]
  rw [hb, IntKind.wrap_u64]; omega
theorem mul_bd {a b : Int} (ha : 0 ≤ a) (ha2 : a < 4294967296) (hb : 0 ≤ b) (hb2 : b < 4294967296) : 0 ≤ a * b ∧ a * b ≤ 18446744065119617025 := by
  refine ⟨Int.mul_nonneg ha hb, ?_⟩
  calc a * b ≤ 4294967295 * 4294967295 := Int.mul_le_mul (by omega) (by omega) hb (by decide)
    _ = 18446744065119617025 := by decide
theorem wrap64 {x : Int} (h0 : 0 ≤ x) (h1 : x < 18446744073709551616) : IntKind.wrap .u64 x = x := by rw [IntKind.wrap_u64]; omega
theorem half_ok : QuietOK Tryd.prog 77 fun vs _ => sHalf vs := quiet_plain ht77 fun args v h => by
  unfold sHalf at h
  split at h
  · rename_i a b
    split at h
    · rename_i hc
      cases h
      simp only [u64B, Bool.and_eq_true, decide_eq_true_eq] at hc
      obtain ⟨⟨ha, ha2⟩, hb, hb2⟩ := hc
      refine ⟨rfl, rfl, ?_⟩
      have hS : (tbS Q []).OK Tryd.prog := tbS_ok quietText (by simp)
      obtain ⟨u, h', rfl, hsem⟩ := sem_vc mixed (C := CL0) hS (tbS_q _ _) (tbW_ok rfl) ht77 c77 (no_parts rfl) (v77 a b fun u _ => u = .tup [.int .u64 (a * b / 18446744073709551616), .int .u64 (a * b % 18446744073709551616)]) (by
        simp only [fdiv32]
        rw [and32 ha ha2, and32 hb hb2]
        have hab : a * b = (a / 4294967296) * (b / 4294967296) * 18446744073709551616 + ((a / 4294967296) * (b % 4294967296) + (a % 4294967296) * (b / 4294967296)) * 4294967296 + (a % 4294967296) * (b % 4294967296) := by
          have hx : a = (a / 4294967296) * 4294967296 + a % 4294967296 := by omega
          have hy : b = (b / 4294967296) * 4294967296 + b % 4294967296 := by omega
          generalize a / 4294967296 = a1 at hx ⊢
          generalize a % 4294967296 = a0 at hx ⊢
          generalize b / 4294967296 = b1 at hy ⊢
          generalize b % 4294967296 = b0 at hy ⊢
          subst hx hy
          simp only [Int.add_mul, Int.mul_add]
          have q1 : a1 * 4294967296 * (b1 * 4294967296) = a1 * b1 * 18446744073709551616 := by
            rw [Int.mul_assoc, Int.mul_left_comm 4294967296 b1, ← Int.mul_assoc]; rfl
          have q2 : a0 * (b1 * 4294967296) = a0 * b1 * 4294967296 := by rw [← Int.mul_assoc]
          have q3 : a1 * 4294967296 * b0 = a1 * b0 * 4294967296 := by rw [Int.mul_assoc, Int.mul_comm 4294967296 b0, ← Int.mul_assoc]
          rw [q1, q2, q3]
          omega
        rw [hab]
        obtain ⟨p11, p11'⟩ := mul_bd (a := a / 4294967296) (b := b / 4294967296) (by omega) (by omega) (by omega) (by omega)
        obtain ⟨p10, p10'⟩ := mul_bd (a := a / 4294967296) (b := b % 4294967296) (by omega) (by omega) (by omega) (by omega)
        obtain ⟨p01, p01'⟩ := mul_bd (a := a % 4294967296) (b := b / 4294967296) (by omega) (by omega) (by omega) (by omega)
        obtain ⟨p00, p00'⟩ := mul_bd (a := a % 4294967296) (b := b % 4294967296) (by omega) (by omega) (by omega) (by omega)
        generalize (a / 4294967296) * (b / 4294967296) = P11 at p11 p11' ⊢
        generalize (a / 4294967296) * (b % 4294967296) = P10 at p10 p10' ⊢
        generalize (a % 4294967296) * (b / 4294967296) = P01 at p01 p01' ⊢
        generalize (a % 4294967296) * (b % 4294967296) = P00 at p00 p00' ⊢
        clear hab
        rw [wrap64 (x := P11) (by omega) (by omega), wrap64 (x := P10) (by omega) (by omega), wrap64 (x := P01) (by omega) (by omega), wrap64 (x := P00) (by omega) (by omega)]
        rw [wrap64 (x := P10 + P00 / 4294967296) (by omega) (by omega)]
        rw [and32 (x := P10 + P00 / 4294967296) (by omega) (by omega), and32 (x := P00) (by omega) (by omega)]
        rw [wrap64 (x := P01 + (P10 + P00 / 4294967296) % 4294967296) (by omega) (by omega)]
        generalize hM : P01 + (P10 + P00 / 4294967296) % 4294967296 = Mo
        have hM2 : 0 ≤ Mo ∧ Mo < 18446744073709551616 := by omega
        have e2 : (2 : Int) ^ min 32 (IntKind.bits .u64) = 4294967296 := rfl
        rw [e2]
        have hsh : IntKind.wrap .u64 (Mo * 4294967296) = (Mo % 4294967296) * 4294967296 := by rw [IntKind.wrap_u64]; omega
        rw [hsh, or32 (x := Mo % 4294967296) (y := P00 % 4294967296) (by omega) (by omega) (by omega) (by omega)]
        rw [wrap64 (x := P11 + (P10 + P00 / 4294967296) / 4294967296) (by omega) (by omega)]
        rw [wrap64 (x := P11 + (P10 + P00 / 4294967296) / 4294967296 + Mo / 4294967296) (by omega) (by omega)]
        have r1 : P11 + (P10 + P00 / 4294967296) / 4294967296 + Mo / 4294967296 = (P11 * 18446744073709551616 + (P10 + P01) * 4294967296 + P00) / 18446744073709551616 := by omega
        have r2 : Mo % 4294967296 * 4294967296 + P00 % 4294967296 = (P11 * 18446744073709551616 + (P10 + P01) * 4294967296 + P00) % 18446744073709551616 := by omega
        rw [r1, r2])
      exact ⟨h', hsem⟩
    · cases h
  · cases h
theorem plus_ok : QuietOK Tryd.prog 78 fun vs _ => sPlus vs := quiet_plain ht78 fun args v h => by
  unfold sPlus at h
  split at h
  · rename_i a b c
    split at h
    · rename_i hc
      cases h
      simp only [u64B, Bool.and_eq_true, decide_eq_true_eq] at hc
      obtain ⟨⟨⟨ha, ha2⟩, hb, hb2⟩, hd, hd2⟩ := hc
      refine ⟨rfl, rfl, ?_⟩
      have hS : (tbS Q []).OK Tryd.prog := tbS_ok quietText (by simp)
      obtain ⟨u, h', rfl, hsem⟩ := sem_vc mixed (C := CL0) hS (tbS_q _ _) (tbW_ok rfl) ht78 c78 (no_parts rfl) (v78 a b c fun u _ => u = .tup [.int .u64 ((a + b + c) % 18446744073709551616), .int .u64 ((a + b + c) / 18446744073709551616)]) (by
        simp only [IntKind.wrap_u64]
        refine askI (fun h1 => askI (fun h2 => ?_) fun h2 => ?_) fun h1 => askI (fun h2 => ?_) fun h2 => ?_
        all_goals
          simp only [decide_eq_true_eq, decide_eq_false_iff_not] at h1 h2
        · rw [show ((a + b) % 18446744073709551616 + c) % 18446744073709551616 = (a + b + c) % 18446744073709551616 by omega, show (2 : Int) = (a + b + c) / 18446744073709551616 by omega]
        · rw [show ((a + b) % 18446744073709551616 + c) % 18446744073709551616 = (a + b + c) % 18446744073709551616 by omega, show (1 : Int) = (a + b + c) / 18446744073709551616 by omega]
        · rw [show ((a + b) % 18446744073709551616 + c) % 18446744073709551616 = (a + b + c) % 18446744073709551616 by omega, show (1 : Int) = (a + b + c) / 18446744073709551616 by omega]
        · rw [show ((a + b) % 18446744073709551616 + c) % 18446744073709551616 = (a + b + c) % 18446744073709551616 by omega, show (0 : Int) = (a + b + c) / 18446744073709551616 by omega])
      exact ⟨h', hsem⟩
    · cases h
  · cases h
theorem from_ok : QuietOK Tryd.prog 67 fun vs _ => sFrom vs := quiet_plain ht67 fun args v h => by
  unfold sFrom at h
  split at h <;> cases h
  rename_i a
  refine ⟨rfl, rfl, ?_⟩
  have hS : (tbS Q []).OK Tryd.prog := tbS_ok quietText (by simp)
  obtain ⟨u, h', rfl, hsem⟩ := sem_vc mixed (C := CL0) hS (tbS_q _ _) (tbW_ok rfl) ht67 c67 (no_parts rfl) (v67 a fun u _ => u = .agg [.int .u64 a, .int .u64 0, .int .u64 0, .int .u64 0]) rfl
  exact ⟨h', hsem⟩
theorem plus_ex {a b c : Int} (ha : 0 ≤ a) (ha2 : a < 18446744073709551616) (hb : 0 ≤ b) (hb2 : b < 18446744073709551616) (hc : 0 ≤ c) (hc2 : c < 18446744073709551616) : ∃ t v, sPlus [.int .u64 a, .int .u64 b, .int .u64 c] = some (.tup [.int .u64 t, .int .u64 v]) ∧ t + 18446744073709551616 * v = a + b + c ∧ 0 ≤ t ∧ t < 18446744073709551616 ∧ 0 ≤ v ∧ v ≤ 2 :=
  ⟨_, _, if_pos (by simp only [u64B, Bool.and_eq_true, decide_eq_true_eq]; exact ⟨⟨⟨ha, ha2⟩, hb, hb2⟩, hc, hc2⟩), by omega, by omega, by omega, by omega, by omega⟩
theorem mul_bd64 {a b : Int} (ha : 0 ≤ a) (ha2 : a < 18446744073709551616) (hb : 0 ≤ b) (hb2 : b < 18446744073709551616) : 0 ≤ a * b ∧ a * b ≤ 340282366920938463426481119284349108225 := by
  refine ⟨Int.mul_nonneg ha hb, ?_⟩
  calc a * b ≤ 18446744073709551615 * 18446744073709551615 := Int.mul_le_mul (by omega) (by omega) hb (by decide)
    _ = 340282366920938463426481119284349108225 := by decide
theorem half_ex {a b : Int} (ha : 0 ≤ a) (ha2 : a < 18446744073709551616) (hb : 0 ≤ b) (hb2 : b < 18446744073709551616) : ∃ h l, sHalf [.int .u64 a, .int .u64 b] = some (.tup [.int .u64 h, .int .u64 l]) ∧ l + 18446744073709551616 * h = a * b ∧ 0 ≤ l ∧ l < 18446744073709551616 ∧ 0 ≤ h ∧ h < 18446744073709551616 := by
  obtain ⟨h1, h2⟩ := mul_bd64 ha ha2 hb hb2
  exact ⟨_, _, if_pos (by simp only [u64B, Bool.and_eq_true, decide_eq_true_eq]; exact ⟨⟨ha, ha2⟩, hb, hb2⟩), by omega, by omega, by omega, by omega, by omega⟩
theorem mac {l a b c : Int} (hl : 0 ≤ l) (hl2 : l < 18446744073709551616) (ha : 0 ≤ a) (ha2 : a < 18446744073709551616) (hb : 0 ≤ b) (hb2 : b < 18446744073709551616) (hc : 0 ≤ c) (hc2 : c < 18446744073709551616) :
    ∃ h o t v c', sHalf [.int .u64 a, .int .u64 b] = some (.tup [.int .u64 h, .int .u64 o]) ∧ sPlus [.int .u64 l, .int .u64 o, .int .u64 c] = some (.tup [.int .u64 t, .int .u64 v]) ∧ IntKind.wrap .u64 (h + v) = c' ∧ t + 18446744073709551616 * c' = l + a * b + c ∧ 0 ≤ t ∧ t < 18446744073709551616 ∧ 0 ≤ c' ∧ c' < 18446744073709551616 := by
  obtain ⟨p1, p2⟩ := mul_bd64 ha ha2 hb hb2
  obtain ⟨h, o, e1, e2, e3, e4, e5, e6⟩ := half_ex ha ha2 hb hb2
  obtain ⟨t, v, f1, f2, f3, f4, f5, f6⟩ := plus_ex hl hl2 e3 e4 hc hc2
  refine ⟨h, o, t, v, h + v, e1, f1, ?_, by omega, f3, f4, by omega, by omega⟩
  rw [IntKind.wrap_u64]; omega
theorem limbs_of {l0 l1 l2 l3 c : Int} (h0 : 0 ≤ l0) (g0 : l0 < 18446744073709551616) (h1 : 0 ≤ l1) (g1 : l1 < 18446744073709551616) (h2 : 0 ≤ l2) (g2 : l2 < 18446744073709551616) (h3 : 0 ≤ l3) (g3 : l3 < 18446744073709551616) : limbs (l0 + 18446744073709551616 * (l1 + 18446744073709551616 * (l2 + 18446744073709551616 * (l3 + 18446744073709551616 * c)))) = [.int .u64 l0, .int .u64 l1, .int .u64 l2, .int .u64 l3] := by
  unfold limbs
  have d1 : (l0 + 18446744073709551616 * (l1 + 18446744073709551616 * (l2 + 18446744073709551616 * (l3 + 18446744073709551616 * c)))) / 18446744073709551616 = l1 + 18446744073709551616 * (l2 + 18446744073709551616 * (l3 + 18446744073709551616 * c)) := by omega
  have d2 : (l1 + 18446744073709551616 * (l2 + 18446744073709551616 * (l3 + 18446744073709551616 * c))) / 18446744073709551616 = l2 + 18446744073709551616 * (l3 + 18446744073709551616 * c) := by omega
  have d3 : (l2 + 18446744073709551616 * (l3 + 18446744073709551616 * c)) / 18446744073709551616 = l3 + 18446744073709551616 * c := by omega
  rw [d1, d2, d3]
  have m0 : (l0 + 18446744073709551616 * (l1 + 18446744073709551616 * (l2 + 18446744073709551616 * (l3 + 18446744073709551616 * c)))) % 18446744073709551616 = l0 := by omega
  have m1 : (l1 + 18446744073709551616 * (l2 + 18446744073709551616 * (l3 + 18446744073709551616 * c))) % 18446744073709551616 = l1 := by omega
  have m2 : (l2 + 18446744073709551616 * (l3 + 18446744073709551616 * c)) % 18446744073709551616 = l2 := by omega
  have m3 : (l3 + 18446744073709551616 * c) % 18446744073709551616 = l3 := by omega
  rw [m0, m1, m2, m3]
theorem tbL_ok : (tbS Q tbL).OK Tryd.prog := tbS_ok quietText (by
  intro x hx
  simp only [tbL, List.mem_cons, List.not_mem_nil, or_false] at hx
  rcases hx with rfl | rfl
  · exact half_ok
  · exact plus_ok)
theorem add_ok : QuietOK Tryd.prog 68 fun vs _ => sAdd vs := quiet_plain ht68 fun args v h => by
  unfold sAdd at h
  split at h
  · rename_i a0 a1 a2 a3 b0 b1 b2 b3
    split at h
    · rename_i hc
      cases h
      simp only [u64s, u64B, Bool.and_eq_true, decide_eq_true_eq] at hc
      obtain ⟨⟨⟨⟨⟨p0, q0⟩, p1, q1⟩, p2, q2⟩, p3, q3⟩, ⟨⟨⟨r0, s0⟩, r1, s1⟩, r2, s2⟩, r3, s3⟩ := hc
      refine ⟨rfl, rfl, ?_⟩
      obtain ⟨u, h', rfl, hsem⟩ := sem_vc mixed (C := CL) tbL_ok (tbS_q _ _) (tbW_ok rfl) ht68 c68 (one_part rfl (by intro T st K hT; cases hT)) (v68 a0 a1 a2 a3 b0 b1 b2 b3 fun u _ => u = .tup [.agg (limbs (num4 a0 a1 a2 a3 + num4 b0 b1 b2 b3)), .bool (decide (num4 a0 a1 a2 a3 + num4 b0 b1 b2 b3 ≥ 115792089237316195423570985008687907853269984665640564039457584007913129639936))]) (by
        obtain ⟨t0, v0, e0, f0, g0, i0, j0, k0⟩ := plus_ex p0 q0 r0 s0 (c := 0) (by omega) (by omega)
        obtain ⟨t1, v1, e1, f1, g1, i1, j1, k1⟩ := plus_ex p1 q1 r1 s1 (c := v0) (by omega) (by omega)
        obtain ⟨t2, v2, e2, f2, g2, i2, j2, k2⟩ := plus_ex p2 q2 r2 s2 (c := v1) (by omega) (by omega)
        obtain ⟨t3, v3, e3, f3, g3, i3, j3, k3⟩ := plus_ex p3 q3 r3 s3 (c := v2) (by omega) (by omega)
        have hS : num4 a0 a1 a2 a3 + num4 b0 b1 b2 b3 = t0 + 18446744073709551616 * (t1 + 18446744073709551616 * (t2 + 18446744073709551616 * (t3 + 18446744073709551616 * v3))) := by unfold num4; omega
        refine ⟨t0, v0, e0, t1, v1, e1, t2, v2, e2, t3, v3, e3, askI (fun h => ?_) fun h => ?_⟩
        · rw [hS, limbs_of g0 i0 g1 i1 g2 i2 g3 i3, decide_eq_true (by simp only [decide_eq_true_eq] at h; omega)]
        · rw [hS, limbs_of g0 i0 g1 i1 g2 i2 g3 i3, decide_eq_false (by simp only [decide_eq_false_iff_not] at h; omega)])
      exact ⟨h', hsem⟩
    · cases h
  · cases h
theorem num4_mul (a0 a1 a2 a3 b0 b1 b2 b3 : Int) : num4 a0 a1 a2 a3 * num4 b0 b1 b2 b3 =
    (a0 * b0 + 18446744073709551616 * (a0 * b1 + 18446744073709551616 * (a0 * b2 + 18446744073709551616 * (a0 * b3)))) + 18446744073709551616 * ((a1 * b0 + 18446744073709551616 * (a1 * b1 + 18446744073709551616 * (a1 * b2 + 18446744073709551616 * (a1 * b3)))) + 18446744073709551616 * ((a2 * b0 + 18446744073709551616 * (a2 * b1 + 18446744073709551616 * (a2 * b2 + 18446744073709551616 * (a2 * b3)))) + 18446744073709551616 * (a3 * b0 + 18446744073709551616 * (a3 * b1 + 18446744073709551616 * (a3 * b2 + 18446744073709551616 * (a3 * b3)))))) := by
  have d : ∀ a x y : Int, a * (x + 18446744073709551616 * y) = a * x + 18446744073709551616 * (a * y) := fun a x y => by rw [Int.mul_add, Int.mul_left_comm]
  have d2 : ∀ x y Y : Int, (x + 18446744073709551616 * y) * Y = x * Y + 18446744073709551616 * (y * Y) := fun x y Y => by rw [Int.add_mul, Int.mul_assoc]
  have row : ∀ a : Int, a * num4 b0 b1 b2 b3 = a * b0 + 18446744073709551616 * (a * b1 + 18446744073709551616 * (a * b2 + 18446744073709551616 * (a * b3))) := fun a => by
    unfold num4
    rw [d a, d a, d a]
  have : num4 a0 a1 a2 a3 * num4 b0 b1 b2 b3 = a0 * num4 b0 b1 b2 b3 + 18446744073709551616 * (a1 * num4 b0 b1 b2 b3 + 18446744073709551616 * (a2 * num4 b0 b1 b2 b3 + 18446744073709551616 * (a3 * num4 b0 b1 b2 b3))) := by
    generalize num4 b0 b1 b2 b3 = Y
    unfold num4
    rw [d2, d2, d2]
  rw [this, row, row, row, row]
theorem mul_vc {a0 a1 a2 a3 b0 b1 b2 b3 : Int} (p0 : 0 ≤ a0) (q0 : a0 < 18446744073709551616) (p1 : 0 ≤ a1) (q1 : a1 < 18446744073709551616) (p2 : 0 ≤ a2) (q2 : a2 < 18446744073709551616) (p3 : 0 ≤ a3) (q3 : a3 < 18446744073709551616) (r0 : 0 ≤ b0) (s0 : b0 < 18446744073709551616) (r1 : 0 ≤ b1) (s1 : b1 < 18446744073709551616) (r2 : 0 ≤ b2) (s2 : b2 < 18446744073709551616) (r3 : 0 ≤ b3) (s3 : b3 < 18446744073709551616) :
    ∃ h', CallSem Tryd.prog 66 [.agg [.int .u64 a0, .int .u64 a1, .int .u64 a2, .int .u64 a3], .agg [.int .u64 b0, .int .u64 b1, .int .u64 b2, .int .u64 b3]] [] (.tup [.agg (limbs (num4 a0 a1 a2 a3 * num4 b0 b1 b2 b3 / 115792089237316195423570985008687907853269984665640564039457584007913129639936)), .agg (limbs (num4 a0 a1 a2 a3 * num4 b0 b1 b2 b3))]) h' := by
  obtain ⟨u, h', rfl, hsem⟩ := sem_vc mixed (C := CL) tbL_ok (tbS_q _ _) (tbW_ok rfl) ht66 c66 (fun x _ => part_none (fun _ => rfl) (fun _ => rfl) x) (v66 a0 a1 a2 a3 b0 b1 b2 b3 fun u _ => u = .tup [.agg (limbs (num4 a0 a1 a2 a3 * num4 b0 b1 b2 b3 / 115792089237316195423570985008687907853269984665640564039457584007913129639936)), .agg (limbs (num4 a0 a1 a2 a3 * num4 b0 b1 b2 b3))]) (by
        obtain ⟨h00, o00, t00, v00, c00, e00, f00, w00, m00, x00, y00, z00, u00⟩ := mac (l := 0) (by omega) (by omega) p0 q0 r0 s0 (c := 0) (by omega) (by omega)
        obtain ⟨h01, o01, t01, v01, c01, e01, f01, w01, m01, x01, y01, z01, u01⟩ := mac (l := 0) (by omega) (by omega) p0 q0 r1 s1 (c := c00) z00 u00
        obtain ⟨h02, o02, t02, v02, c02, e02, f02, w02, m02, x02, y02, z02, u02⟩ := mac (l := 0) (by omega) (by omega) p0 q0 r2 s2 (c := c01) z01 u01
        obtain ⟨h03, o03, t03, v03, c03, e03, f03, w03, m03, x03, y03, z03, u03⟩ := mac (l := 0) (by omega) (by omega) p0 q0 r3 s3 (c := c02) z02 u02
        obtain ⟨h10, o10, t10, v10, c10, e10, f10, w10, m10, x10, y10, z10, u10⟩ := mac (l := t01) x01 y01 p1 q1 r0 s0 (c := 0) (by omega) (by omega)
        obtain ⟨h11, o11, t11, v11, c11, e11, f11, w11, m11, x11, y11, z11, u11⟩ := mac (l := t02) x02 y02 p1 q1 r1 s1 (c := c10) z10 u10
        obtain ⟨h12, o12, t12, v12, c12, e12, f12, w12, m12, x12, y12, z12, u12⟩ := mac (l := t03) x03 y03 p1 q1 r2 s2 (c := c11) z11 u11
        obtain ⟨h13, o13, t13, v13, c13, e13, f13, w13, m13, x13, y13, z13, u13⟩ := mac (l := c03) z03 u03 p1 q1 r3 s3 (c := c12) z12 u12
        obtain ⟨h20, o20, t20, v20, c20, e20, f20, w20, m20, x20, y20, z20, u20⟩ := mac (l := t11) x11 y11 p2 q2 r0 s0 (c := 0) (by omega) (by omega)
        obtain ⟨h21, o21, t21, v21, c21, e21, f21, w21, m21, x21, y21, z21, u21⟩ := mac (l := t12) x12 y12 p2 q2 r1 s1 (c := c20) z20 u20
        obtain ⟨h22, o22, t22, v22, c22, e22, f22, w22, m22, x22, y22, z22, u22⟩ := mac (l := t13) x13 y13 p2 q2 r2 s2 (c := c21) z21 u21
        obtain ⟨h23, o23, t23, v23, c23, e23, f23, w23, m23, x23, y23, z23, u23⟩ := mac (l := c13) z13 u13 p2 q2 r3 s3 (c := c22) z22 u22
        obtain ⟨h30, o30, t30, v30, c30, e30, f30, w30, m30, x30, y30, z30, u30⟩ := mac (l := t21) x21 y21 p3 q3 r0 s0 (c := 0) (by omega) (by omega)
        obtain ⟨h31, o31, t31, v31, c31, e31, f31, w31, m31, x31, y31, z31, u31⟩ := mac (l := t22) x22 y22 p3 q3 r1 s1 (c := c30) z30 u30
        obtain ⟨h32, o32, t32, v32, c32, e32, f32, w32, m32, x32, y32, z32, u32⟩ := mac (l := t23) x23 y23 p3 q3 r2 s2 (c := c31) z31 u31
        obtain ⟨h33, o33, t33, v33, c33, e33, f33, w33, m33, x33, y33, z33, u33⟩ := mac (l := c23) z23 u23 p3 q3 r3 s3 (c := c32) z32 u32
        refine ⟨h00, o00, e00, t00, v00, f00, ?_⟩
        rw [w00]
        refine ⟨h01, o01, e01, t01, v01, f01, ?_⟩
        rw [w01]
        refine ⟨h02, o02, e02, t02, v02, f02, ?_⟩
        rw [w02]
        refine ⟨h03, o03, e03, t03, v03, f03, ?_⟩
        rw [w03]
        refine ⟨h10, o10, e10, t10, v10, f10, ?_⟩
        rw [w10]
        refine ⟨h11, o11, e11, t11, v11, f11, ?_⟩
        rw [w11]
        refine ⟨h12, o12, e12, t12, v12, f12, ?_⟩
        rw [w12]
        refine ⟨h13, o13, e13, t13, v13, f13, ?_⟩
        rw [w13]
        refine ⟨h20, o20, e20, t20, v20, f20, ?_⟩
        rw [w20]
        refine ⟨h21, o21, e21, t21, v21, f21, ?_⟩
        rw [w21]
        refine ⟨h22, o22, e22, t22, v22, f22, ?_⟩
        rw [w22]
        refine ⟨h23, o23, e23, t23, v23, f23, ?_⟩
        rw [w23]
        refine ⟨h30, o30, e30, t30, v30, f30, ?_⟩
        rw [w30]
        refine ⟨h31, o31, e31, t31, v31, f31, ?_⟩
        rw [w31]
        refine ⟨h32, o32, e32, t32, v32, f32, ?_⟩
        rw [w32]
        refine ⟨h33, o33, e33, t33, v33, f33, ?_⟩
        rw [w33]
        have row0 : t00 + 18446744073709551616 * (t01 + 18446744073709551616 * (t02 + 18446744073709551616 * (t03 + 18446744073709551616 * c03))) = (0 + 18446744073709551616 * (0 + 18446744073709551616 * (0 + 18446744073709551616 * 0))) + (a0 * b0 + 18446744073709551616 * (a0 * b1 + 18446744073709551616 * (a0 * b2 + 18446744073709551616 * (a0 * b3)))) := by omega
        have row1 : t10 + 18446744073709551616 * (t11 + 18446744073709551616 * (t12 + 18446744073709551616 * (t13 + 18446744073709551616 * c13))) = (t01 + 18446744073709551616 * (t02 + 18446744073709551616 * (t03 + 18446744073709551616 * c03))) + (a1 * b0 + 18446744073709551616 * (a1 * b1 + 18446744073709551616 * (a1 * b2 + 18446744073709551616 * (a1 * b3)))) := by omega
        have row2 : t20 + 18446744073709551616 * (t21 + 18446744073709551616 * (t22 + 18446744073709551616 * (t23 + 18446744073709551616 * c23))) = (t11 + 18446744073709551616 * (t12 + 18446744073709551616 * (t13 + 18446744073709551616 * c13))) + (a2 * b0 + 18446744073709551616 * (a2 * b1 + 18446744073709551616 * (a2 * b2 + 18446744073709551616 * (a2 * b3)))) := by omega
        have row3 : t30 + 18446744073709551616 * (t31 + 18446744073709551616 * (t32 + 18446744073709551616 * (t33 + 18446744073709551616 * c33))) = (t21 + 18446744073709551616 * (t22 + 18446744073709551616 * (t23 + 18446744073709551616 * c23))) + (a3 * b0 + 18446744073709551616 * (a3 * b1 + 18446744073709551616 * (a3 * b2 + 18446744073709551616 * (a3 * b3)))) := by omega
        have hP : num4 a0 a1 a2 a3 * num4 b0 b1 b2 b3 = t00 + 18446744073709551616 * (t10 + 18446744073709551616 * (t20 + 18446744073709551616 * (t30 + 18446744073709551616 * (t31 + 18446744073709551616 * (t32 + 18446744073709551616 * (t33 + 18446744073709551616 * (c33 + 18446744073709551616 * 0))))))) := by
          rw [num4_mul]; omega
        have hD : num4 a0 a1 a2 a3 * num4 b0 b1 b2 b3 / 115792089237316195423570985008687907853269984665640564039457584007913129639936 = t31 + 18446744073709551616 * (t32 + 18446744073709551616 * (t33 + 18446744073709551616 * (c33 + 18446744073709551616 * 0))) := by
          rw [hP]; omega
        rw [hD, limbs_of x31 y31 x32 y32 x33 y33 z33 u33, hP, limbs_of x00 y00 x10 y10 x20 y20 x30 y30])
  exact ⟨h', hsem⟩
theorem mul_ok : QuietOK Tryd.prog 66 fun vs _ => sMul vs := quiet_plain ht66 fun args v h => by
  unfold sMul at h
  split at h
  · rename_i a0 a1 a2 a3 b0 b1 b2 b3
    split at h
    · rename_i hc
      cases h
      simp only [u64s, u64B, Bool.and_eq_true, decide_eq_true_eq] at hc
      obtain ⟨⟨⟨⟨⟨p0, q0⟩, p1, q1⟩, p2, q2⟩, p3, q3⟩, ⟨⟨⟨r0, s0⟩, r1, s1⟩, r2, s2⟩, r3, s3⟩ := hc
      exact ⟨rfl, rfl, mul_vc p0 q0 p1 q1 p2 q2 p3 q3 r0 s0 r1 s1 r2 s2 r3 s3⟩
    · cases h
  · cases h
def z4 : AObj := .row 35 4 [.int .u64 0, .int .u64 0, .int .u64 0, .int .u64 0]
/-- Digits to the base 2^32. -/
def val : List Int → Int
  | [] => 0
  | x :: l => x + 4294967296 * val l
theorem v70 (a : Int) (R : AV → AHeap → Prop) : (R (AV.agg [AV.int .u64 a, AV.int .u64 0, AV.int .u64 0, AV.int .u64 0]) [AObj.row 35 4 [AV.int .u64 a, AV.int .u64 0, AV.int .u64 0, AV.int .u64 0]]) = (wpF Tryd.prog CL0 60 p70 [.int .u64 a] [] R) := by kernel_rfl
def isD (c : UInt8) : Bool := decide (48 ≤ c.toNat) && decide (c.toNat ≤ 57)
def allD (s : List UInt8) : Bool := s.all isD
def foldD : Int → List UInt8 → Option Int
  | v, [] => some v
  | v, c :: l => if v * 10 + ((c.toNat : Int) - 48) ≥ 115792089237316195423570985008687907853269984665640564039457584007913129639936 then none else foldD (v * 10 + ((c.toNat : Int) - 48)) l
def parseN (s : List UInt8) : Int × Int :=
  if s.isEmpty then (0, 10) else if s.getD 0 0 == 48 && decide (1 < s.length) then (0, 10) else if allD s then (match foldD 0 s with
    | some v => (v, 0)
    | none => (0, 7)) else (0, 10)
def sParseN : List AV → Option AV
  | [.str s] => if s.length ≤ 1099511627776 then some (.tup [.agg (limbs (parseN s).1), .int .i64 (parseN s).2]) else none
  | _ => none
def kd53 (t : Nat) : Kd := if t = 32 ∨ t = 47 then .one (.int .u8) else if t = 72 then .agg [.int .u64, .int .u64, .int .u64, .int .u64] else .one (.int .u64)
def zr : AObj := .row 35 4 [.int .u64 0, .int .u64 0, .int .u64 0, .int .u64 0]
-- limb.Parse
def tbP : List TbE := [⟨67, fun vs _ => sFrom vs, .of ag4⟩, ⟨66, fun vs _ => sMul vs, .tup [ag4, ag4]⟩, ⟨68, fun vs _ => sAdd vs, .tup [ag4, .one .bool]⟩]
def g53a (s : List UInt8) (i : Int) : St := (envOf 73 [(0, .str s), (2, .ptr (some (0, 0))), (3, .int .i64 0), (27, .sl (some (1, 0)) s.length (.rel 0)), (28, .int .i64 s.length), (29, .int .i64 i)], [zr, .ro (bv s)])
def t53a : Tidy := ⟨dropT 73 [0, 2, 3, 27, 28, 29], .rows [0, 1]⟩
def x53a : Tidy := ⟨dropT 73 [0, 2, 3], .rows [0]⟩
def r53 : Tidy := ⟨dropT 73 [2, 3], .rows [0]⟩
def e53a (s : List UInt8) : St := (envOf 73 [(0, .str s), (2, .ptr (some (0, 0))), (3, .int .i64 0)], [zr])
def b53 (e : Int) : St := (envOf 73 [(2, .ptr (some (0, 0))), (3, .int .i64 e)], [zr])
def g53b (s : List UInt8) (v : Int) (i : Int) : St := (envOf 73 [(2, .ptr (some (0, 0))), (3, .int .i64 0), (6, .ptr (some (1, 0))), (42, .sl (some (2, 0)) s.length (.rel 0)), (43, .int .i64 s.length), (44, .int .i64 i)], [zr, .row 35 4 (limbs v), .ro (bv s)])
def t53b : Tidy := ⟨dropT 73 [2, 3, 6, 42, 43, 44], .rows [0, 1, 2]⟩
def x53b : Tidy := ⟨dropT 73 [2, 3, 6], .rows [0, 1]⟩
def e53b (v : Int) : St := (envOf 73 [(2, .ptr (some (0, 0))), (3, .int .i64 0), (6, .ptr (some (1, 0)))], [zr, .row 35 4 (limbs v)])
def C53a : Cfg := tbC Q tbP (fun k => k == 1) kd53
def C53b : Cfg := tbC Q tbP (fun k => k == 2) kd53
def C53 (s : List UInt8) : Cfg := { tbC Q tbP (fun k => k == 1 || k == 2) kd53 with
  lw := fun id => if id = 4 then some fun st K => st = g53a s 0 ∧ askB (allD s) (K (.exit 0) (e53a s)) (K .ret (b53 10))
    else if id = 11 then some fun st K => st = g53b s 0 0 ∧ allD s = true ∧ askB (foldD 0 s).isSome (K (.exit 2) (e53b ((foldD 0 s).getD 0))) (K .ret (b53 7)) else none
  F := fun id => if id = 4 then t53a else if id = 11 then t53b else ⟨[], .all⟩ }
-- the document's Parse
theorem v53a (s : List UInt8) (i : Nat) (K : AExit → St → Prop) : (askB (decide ((↑i : Int) < (↑(List.length s) : Int))) (chkW (decide ((↑i : Int) < (↑(List.length s) : Int))) (∃ (n : Int), (Option.bind (cellsAt [AObj.row 35 4 [AV.int .u64 0, AV.int .u64 0, AV.int .u64 0, AV.int .u64 0], AObj.ro (bv s)] 1) fun (x : List AV) => partR none x (0 + i * 1)) = some (AV.int .u8 n) ∧ askB (decide (n < 48)) (chkW (objClosed (AObj.ro (bv s))) (K AExit.ret (envOf 73 [(2, AV.ptr (some (0, 0))), (3, AV.int .i64 10)], [AObj.row 35 4 [AV.int .u64 0, AV.int .u64 0, AV.int .u64 0, AV.int .u64 0]]))) (askB (decide (n > 57)) (chkW (objClosed (AObj.ro (bv s))) (K AExit.ret (envOf 73 [(2, AV.ptr (some (0, 0))), (3, AV.int .i64 10)], [AObj.row 35 4 [AV.int .u64 0, AV.int .u64 0, AV.int .u64 0, AV.int .u64 0]]))) (chkW (objClosed (AObj.ro (bv s))) (K AExit.normal (envOf 73 [(0, AV.str s), (2, AV.ptr (some (0, 0))), (3, AV.int .i64 0), (27, AV.sl (some (1, 0)) (List.length s) (ACap.rel 0)), (28, AV.int .i64 (↑(List.length s) : Int)), (29, AV.int .i64 (IntKind.wrap .i64 ((↑i : Int) + 1)))], [AObj.row 35 4 [AV.int .u64 0, AV.int .u64 0, AV.int .u64 0, AV.int .u64 0], AObj.ro (bv s)])))))) (chkW (objClosed (AObj.ro (bv s))) (K (AExit.exit 0) (envOf 73 [(0, AV.str s), (2, AV.ptr (some (0, 0))), (3, AV.int .i64 0)], [AObj.row 35 4 [AV.int .u64 0, AV.int .u64 0, AV.int .u64 0, AV.int .u64 0]])))) = (wpP Tryd.prog C53a 60 (.inl p53_l1) (g53a s i) (postX C53a t53a x53a r53 K)) := by kernel_rfl
theorem v53b (s : List UInt8) (v : Int) (i : Nat) (K : AExit → St → Prop) : (askB (decide ((↑i : Int) < (↑(List.length s) : Int))) (chkW (decide ((↑i : Int) < (↑(List.length s) : Int))) (∃ (n : Int), (Option.bind (cellsAt [AObj.row 35 4 [AV.int .u64 0, AV.int .u64 0, AV.int .u64 0, AV.int .u64 0], AObj.row 35 4 [AV.int .u64 (v % 18446744073709551616), AV.int .u64 (v / 18446744073709551616 % 18446744073709551616), AV.int .u64 (v / 18446744073709551616 / 18446744073709551616 % 18446744073709551616), AV.int .u64 (v / 18446744073709551616 / 18446744073709551616 / 18446744073709551616 % 18446744073709551616)], AObj.ro (bv s)] 2) fun (x : List AV) => partR none x (0 + i * 1)) = some (AV.int .u8 n) ∧ ∃ (n_1 : Int), ∃ (n_2 : Int), ∃ (n_3 : Int), ∃ (n_4 : Int), some (AV.agg [AV.int .u64 10, AV.int .u64 0, AV.int .u64 0, AV.int .u64 0]) = some (AV.agg [AV.int .u64 n_1, AV.int .u64 n_2, AV.int .u64 n_3, AV.int .u64 n_4]) ∧ ∃ (n_5 : Int), ∃ (n_6 : Int), ∃ (n_7 : Int), ∃ (n_8 : Int), ∃ (n_9 : Int), ∃ (n_10 : Int), ∃ (n_11 : Int), ∃ (n_12 : Int), sMul [AV.agg [AV.int .u64 (v % 18446744073709551616), AV.int .u64 (v / 18446744073709551616 % 18446744073709551616), AV.int .u64 (v / 18446744073709551616 / 18446744073709551616 % 18446744073709551616), AV.int .u64 (v / 18446744073709551616 / 18446744073709551616 / 18446744073709551616 % 18446744073709551616)], AV.agg [AV.int .u64 n_1, AV.int .u64 n_2, AV.int .u64 n_3, AV.int .u64 n_4]] = some (AV.tup [AV.agg [AV.int .u64 n_5, AV.int .u64 n_6, AV.int .u64 n_7, AV.int .u64 n_8], AV.agg [AV.int .u64 n_9, AV.int .u64 n_10, AV.int .u64 n_11, AV.int .u64 n_12]]) ∧ ∃ (n_13 : Int), ∃ (n_14 : Int), ∃ (n_15 : Int), ∃ (n_16 : Int), some (AV.agg [AV.int .u64 (IntKind.wrap .u64 (IntKind.wrap .u8 (n - 48))), AV.int .u64 0, AV.int .u64 0, AV.int .u64 0]) = some (AV.agg [AV.int .u64 n_13, AV.int .u64 n_14, AV.int .u64 n_15, AV.int .u64 n_16]) ∧ ∃ (n : Int), ∃ (n_17 : Int), ∃ (n_18 : Int), ∃ (n_19 : Int), ∃ (b : Bool), sAdd [AV.agg [AV.int .u64 n_9, AV.int .u64 n_10, AV.int .u64 n_11, AV.int .u64 n_12], AV.agg [AV.int .u64 n_13, AV.int .u64 n_14, AV.int .u64 n_15, AV.int .u64 n_16]] = some (AV.tup [AV.agg [AV.int .u64 n, AV.int .u64 n_17, AV.int .u64 n_18, AV.int .u64 n_19], AV.bool b]) ∧ askB b (chkW (objClosed (AObj.ro (bv s))) (K AExit.ret (envOf 73 [(2, AV.ptr (some (0, 0))), (3, AV.int .i64 7)], [AObj.row 35 4 [AV.int .u64 0, AV.int .u64 0, AV.int .u64 0, AV.int .u64 0]]))) (askB (!(n_5 == 0 && (n_6 == 0 && (n_7 == 0 && (n_8 == 0 && true))))) (chkW (objClosed (AObj.ro (bv s))) (K AExit.ret (envOf 73 [(2, AV.ptr (some (0, 0))), (3, AV.int .i64 7)], [AObj.row 35 4 [AV.int .u64 0, AV.int .u64 0, AV.int .u64 0, AV.int .u64 0]]))) (chkW (objClosed (AObj.ro (bv s))) (K AExit.normal (envOf 73 [(2, AV.ptr (some (0, 0))), (3, AV.int .i64 0), (6, AV.ptr (some (1, 0))), (42, AV.sl (some (2, 0)) (List.length s) (ACap.rel 0)), (43, AV.int .i64 (↑(List.length s) : Int)), (44, AV.int .i64 (IntKind.wrap .i64 ((↑i : Int) + 1)))], [AObj.row 35 4 [AV.int .u64 0, AV.int .u64 0, AV.int .u64 0, AV.int .u64 0], AObj.row 35 4 [AV.int .u64 n, AV.int .u64 n_17, AV.int .u64 n_18, AV.int .u64 n_19], AObj.ro (bv s)])))))) (chkW (objClosed (AObj.ro (bv s))) (K (AExit.exit 2) (envOf 73 [(2, AV.ptr (some (0, 0))), (3, AV.int .i64 0), (6, AV.ptr (some (1, 0)))], [AObj.row 35 4 [AV.int .u64 0, AV.int .u64 0, AV.int .u64 0, AV.int .u64 0], AObj.row 35 4 [AV.int .u64 (v % 18446744073709551616), AV.int .u64 (v / 18446744073709551616 % 18446744073709551616), AV.int .u64 (v / 18446744073709551616 / 18446744073709551616 % 18446744073709551616), AV.int .u64 (v / 18446744073709551616 / 18446744073709551616 / 18446744073709551616 % 18446744073709551616)]])))) = (wpP Tryd.prog C53b 80 (.inl p53_l0) (g53b s v i) (postX C53b t53b x53b r53 K)) := by kernel_rfl
theorem v53 (s : List UInt8) (R : AV → AHeap → Prop) : (askB (s == []) (R (AV.tup [AV.agg [AV.int .u64 0, AV.int .u64 0, AV.int .u64 0, AV.int .u64 0], AV.int .i64 10]) [AObj.row 35 4 [AV.int .u64 0, AV.int .u64 0, AV.int .u64 0, AV.int .u64 0]]) (chkW (decide (0 < List.length s)) (askB ((↑(UInt8.toNat (List.getD s 0 0)) : Int) == 48) (askB (decide ((↑(List.length s) : Int) > 1)) (R (AV.tup [AV.agg [AV.int .u64 0, AV.int .u64 0, AV.int .u64 0, AV.int .u64 0], AV.int .i64 10]) [AObj.row 35 4 [AV.int .u64 0, AV.int .u64 0, AV.int .u64 0, AV.int .u64 0]]) (chkW (objClosed (AObj.ro (List.map (fun (x : UInt8) => AV.int .u8 (↑(UInt8.toNat x) : Int)) s))) ((envOf 73 [(0, AV.str s), (2, AV.ptr (some (0, 0))), (3, AV.int .i64 0), (27, AV.sl (some (1, 0)) (List.length s) (ACap.rel 0)), (28, AV.int .i64 (↑(List.length s) : Int)), (29, AV.int .i64 0)], [AObj.row 35 4 [AV.int .u64 0, AV.int .u64 0, AV.int .u64 0, AV.int .u64 0], AObj.ro (List.map (fun (x : UInt8) => AV.int .u8 (↑(UInt8.toNat x) : Int)) s)]) = (envOf 73 [(0, AV.str s), (2, AV.ptr (some (0, 0))), (3, AV.int .i64 0), (27, AV.sl (some (1, 0)) (List.length s) (ACap.rel 0)), (28, AV.int .i64 (↑(List.length s) : Int)), (29, AV.int .i64 0)], [AObj.row 35 4 [AV.int .u64 0, AV.int .u64 0, AV.int .u64 0, AV.int .u64 0], AObj.ro (bv s)]) ∧ askB (allD s) (chkW (objClosed (AObj.ro (List.map (fun (x : UInt8) => AV.int .u8 (↑(UInt8.toNat x) : Int)) s))) ((envOf 73 [(2, AV.ptr (some (0, 0))), (3, AV.int .i64 0), (6, AV.ptr (some (1, 0))), (42, AV.sl (some (2, 0)) (List.length s) (ACap.rel 0)), (43, AV.int .i64 (↑(List.length s) : Int)), (44, AV.int .i64 0)], [AObj.row 35 4 [AV.int .u64 0, AV.int .u64 0, AV.int .u64 0, AV.int .u64 0], AObj.row 35 4 [AV.int .u64 0, AV.int .u64 0, AV.int .u64 0, AV.int .u64 0], AObj.ro (List.map (fun (x : UInt8) => AV.int .u8 (↑(UInt8.toNat x) : Int)) s)]) = (envOf 73 [(2, AV.ptr (some (0, 0))), (3, AV.int .i64 0), (6, AV.ptr (some (1, 0))), (42, AV.sl (some (2, 0)) (List.length s) (ACap.rel 0)), (43, AV.int .i64 (↑(List.length s) : Int)), (44, AV.int .i64 0)], [AObj.row 35 4 [AV.int .u64 0, AV.int .u64 0, AV.int .u64 0, AV.int .u64 0], AObj.row 35 4 [AV.int .u64 0, AV.int .u64 0, AV.int .u64 0, AV.int .u64 0], AObj.ro (bv s)]) ∧ allD s = true ∧ askB (Option.isSome (foldD 0 s)) (∃ (n : Int), ∃ (n_1 : Int), ∃ (n_2 : Int), ∃ (n_3 : Int), some (AV.agg [AV.int .u64 (Option.getD (foldD 0 s) 0 % 18446744073709551616), AV.int .u64 (Option.getD (foldD 0 s) 0 / 18446744073709551616 % 18446744073709551616), AV.int .u64 (Option.getD (foldD 0 s) 0 / 18446744073709551616 / 18446744073709551616 % 18446744073709551616), AV.int .u64 (Option.getD (foldD 0 s) 0 / 18446744073709551616 / 18446744073709551616 / 18446744073709551616 % 18446744073709551616)]) = some (AV.agg [AV.int .u64 n, AV.int .u64 n_1, AV.int .u64 n_2, AV.int .u64 n_3]) ∧ R (AV.tup [AV.agg [AV.int .u64 n, AV.int .u64 n_1, AV.int .u64 n_2, AV.int .u64 n_3], AV.int .i64 0]) [AObj.row 35 4 [AV.int .u64 n, AV.int .u64 n_1, AV.int .u64 n_2, AV.int .u64 n_3], AObj.row 35 4 [AV.int .u64 (Option.getD (foldD 0 s) 0 % 18446744073709551616), AV.int .u64 (Option.getD (foldD 0 s) 0 / 18446744073709551616 % 18446744073709551616), AV.int .u64 (Option.getD (foldD 0 s) 0 / 18446744073709551616 / 18446744073709551616 % 18446744073709551616), AV.int .u64 (Option.getD (foldD 0 s) 0 / 18446744073709551616 / 18446744073709551616 / 18446744073709551616 % 18446744073709551616)]]) (R (AV.tup [AV.agg [AV.int .u64 0, AV.int .u64 0, AV.int .u64 0, AV.int .u64 0], AV.int .i64 7]) [AObj.row 35 4 [AV.int .u64 0, AV.int .u64 0, AV.int .u64 0, AV.int .u64 0]]))) (R (AV.tup [AV.agg [AV.int .u64 0, AV.int .u64 0, AV.int .u64 0, AV.int .u64 0], AV.int .i64 10]) [AObj.row 35 4 [AV.int .u64 0, AV.int .u64 0, AV.int .u64 0, AV.int .u64 0]])))) (chkW (objClosed (AObj.ro (List.map (fun (x : UInt8) => AV.int .u8 (↑(UInt8.toNat x) : Int)) s))) ((envOf 73 [(0, AV.str s), (2, AV.ptr (some (0, 0))), (3, AV.int .i64 0), (27, AV.sl (some (1, 0)) (List.length s) (ACap.rel 0)), (28, AV.int .i64 (↑(List.length s) : Int)), (29, AV.int .i64 0)], [AObj.row 35 4 [AV.int .u64 0, AV.int .u64 0, AV.int .u64 0, AV.int .u64 0], AObj.ro (List.map (fun (x : UInt8) => AV.int .u8 (↑(UInt8.toNat x) : Int)) s)]) = (envOf 73 [(0, AV.str s), (2, AV.ptr (some (0, 0))), (3, AV.int .i64 0), (27, AV.sl (some (1, 0)) (List.length s) (ACap.rel 0)), (28, AV.int .i64 (↑(List.length s) : Int)), (29, AV.int .i64 0)], [AObj.row 35 4 [AV.int .u64 0, AV.int .u64 0, AV.int .u64 0, AV.int .u64 0], AObj.ro (bv s)]) ∧ askB (allD s) (chkW (objClosed (AObj.ro (List.map (fun (x : UInt8) => AV.int .u8 (↑(UInt8.toNat x) : Int)) s))) ((envOf 73 [(2, AV.ptr (some (0, 0))), (3, AV.int .i64 0), (6, AV.ptr (some (1, 0))), (42, AV.sl (some (2, 0)) (List.length s) (ACap.rel 0)), (43, AV.int .i64 (↑(List.length s) : Int)), (44, AV.int .i64 0)], [AObj.row 35 4 [AV.int .u64 0, AV.int .u64 0, AV.int .u64 0, AV.int .u64 0], AObj.row 35 4 [AV.int .u64 0, AV.int .u64 0, AV.int .u64 0, AV.int .u64 0], AObj.ro (List.map (fun (x : UInt8) => AV.int .u8 (↑(UInt8.toNat x) : Int)) s)]) = (envOf 73 [(2, AV.ptr (some (0, 0))), (3, AV.int .i64 0), (6, AV.ptr (some (1, 0))), (42, AV.sl (some (2, 0)) (List.length s) (ACap.rel 0)), (43, AV.int .i64 (↑(List.length s) : Int)), (44, AV.int .i64 0)], [AObj.row 35 4 [AV.int .u64 0, AV.int .u64 0, AV.int .u64 0, AV.int .u64 0], AObj.row 35 4 [AV.int .u64 0, AV.int .u64 0, AV.int .u64 0, AV.int .u64 0], AObj.ro (bv s)]) ∧ allD s = true ∧ askB (Option.isSome (foldD 0 s)) (∃ (n : Int), ∃ (n_1 : Int), ∃ (n_2 : Int), ∃ (n_3 : Int), some (AV.agg [AV.int .u64 (Option.getD (foldD 0 s) 0 % 18446744073709551616), AV.int .u64 (Option.getD (foldD 0 s) 0 / 18446744073709551616 % 18446744073709551616), AV.int .u64 (Option.getD (foldD 0 s) 0 / 18446744073709551616 / 18446744073709551616 % 18446744073709551616), AV.int .u64 (Option.getD (foldD 0 s) 0 / 18446744073709551616 / 18446744073709551616 / 18446744073709551616 % 18446744073709551616)]) = some (AV.agg [AV.int .u64 n, AV.int .u64 n_1, AV.int .u64 n_2, AV.int .u64 n_3]) ∧ R (AV.tup [AV.agg [AV.int .u64 n, AV.int .u64 n_1, AV.int .u64 n_2, AV.int .u64 n_3], AV.int .i64 0]) [AObj.row 35 4 [AV.int .u64 n, AV.int .u64 n_1, AV.int .u64 n_2, AV.int .u64 n_3], AObj.row 35 4 [AV.int .u64 (Option.getD (foldD 0 s) 0 % 18446744073709551616), AV.int .u64 (Option.getD (foldD 0 s) 0 / 18446744073709551616 % 18446744073709551616), AV.int .u64 (Option.getD (foldD 0 s) 0 / 18446744073709551616 / 18446744073709551616 % 18446744073709551616), AV.int .u64 (Option.getD (foldD 0 s) 0 / 18446744073709551616 / 18446744073709551616 / 18446744073709551616 % 18446744073709551616)]]) (R (AV.tup [AV.agg [AV.int .u64 0, AV.int .u64 0, AV.int .u64 0, AV.int .u64 0], AV.int .i64 7]) [AObj.row 35 4 [AV.int .u64 0, AV.int .u64 0, AV.int .u64 0, AV.int .u64 0]]))) (R (AV.tup [AV.agg [AV.int .u64 0, AV.int .u64 0, AV.int .u64 0, AV.int .u64 0], AV.int .i64 10]) [AObj.row 35 4 [AV.int .u64 0, AV.int .u64 0, AV.int .u64 0, AV.int .u64 0]])))))) = (wpF Tryd.prog (C53 s) 80 p53 [.str s] [] R) := by kernel_rfl
theorem bv_at {s : List UInt8} {i : Nat} (h : i < s.length) : (bv s)[i]? = some (.int .u8 (s.getD i 0).toNat) := by
  simp [bv, List.getElem?_eq_getElem h]
theorem ro_ocl (l : List UInt8) : objClosed (.ro (bv l)) = true := bv_closed l
theorem allD_at {s : List UInt8} (h : allD s = true) {i : Nat} (hi : i < s.length) : isD (s.getD i 0) = true := by
  unfold allD at h
  rw [List.all_eq_true] at h
  rw [List.getD_eq_getElem?_getD, List.getElem?_eq_getElem hi]
  exact h _ (List.getElem_mem hi)
theorem allD_of {s : List UInt8} (h : ∀ i, i < s.length → isD (s.getD i 0) = true) : allD s = true := by
  unfold allD
  rw [List.all_eq_true]
  intro c hc
  obtain ⟨i, hi, rfl⟩ := List.getElem_of_mem hc
  have := h i hi
  rwa [List.getD_eq_getElem?_getD, List.getElem?_eq_getElem hi] at this
theorem mul_ten {v : Int} (h0 : 0 ≤ v) (h1 : v < 115792089237316195423570985008687907853269984665640564039457584007913129639936) : sMul [.agg (limbs v), .agg [.int .u64 10, .int .u64 0, .int .u64 0, .int .u64 0]] = some (.tup [.agg (limbs (v * 10 / 115792089237316195423570985008687907853269984665640564039457584007913129639936)), .agg (limbs (v * 10))]) := by
  unfold limbs sMul
  have hu : (u64s (v % 18446744073709551616) (v / 18446744073709551616 % 18446744073709551616) (v / 18446744073709551616 / 18446744073709551616 % 18446744073709551616) (v / 18446744073709551616 / 18446744073709551616 / 18446744073709551616 % 18446744073709551616) && u64s 10 0 0 0) = true := by
    simp only [u64s, u64B, Bool.and_eq_true, decide_eq_true_eq]; omega
  simp only [hu, if_true]
  have hn : num4 (v % 18446744073709551616) (v / 18446744073709551616 % 18446744073709551616) (v / 18446744073709551616 / 18446744073709551616 % 18446744073709551616) (v / 18446744073709551616 / 18446744073709551616 / 18446744073709551616 % 18446744073709551616) = v := by unfold num4; omega
  have ht : num4 10 0 0 0 = 10 := by unfold num4; omega
  rw [hn, ht]
  rfl
theorem add_dig {w d : Int} (h0 : 0 ≤ w) (hd : 0 ≤ d) (hd2 : d < 10) : sAdd [.agg (limbs w), .agg [.int .u64 d, .int .u64 0, .int .u64 0, .int .u64 0]] = some (.tup [.agg (limbs (w % 115792089237316195423570985008687907853269984665640564039457584007913129639936 + d)), .bool (decide (w % 115792089237316195423570985008687907853269984665640564039457584007913129639936 + d ≥ 115792089237316195423570985008687907853269984665640564039457584007913129639936))]) := by
  unfold limbs sAdd
  have hu : (u64s (w % 18446744073709551616) (w / 18446744073709551616 % 18446744073709551616) (w / 18446744073709551616 / 18446744073709551616 % 18446744073709551616) (w / 18446744073709551616 / 18446744073709551616 / 18446744073709551616 % 18446744073709551616) && u64s d 0 0 0) = true := by
    simp only [u64s, u64B, Bool.and_eq_true, decide_eq_true_eq]; omega
  simp only [hu, if_true]
  have hn : num4 (w % 18446744073709551616) (w / 18446744073709551616 % 18446744073709551616) (w / 18446744073709551616 / 18446744073709551616 % 18446744073709551616) (w / 18446744073709551616 / 18446744073709551616 / 18446744073709551616 % 18446744073709551616) = w % 115792089237316195423570985008687907853269984665640564039457584007913129639936 := by unfold num4; omega
  have ht : num4 d 0 0 0 = d := by unfold num4; omega
  rw [hn, ht]
  rfl
theorem high0 {h : Int} (h0 : 0 ≤ h) (h1 : h < 10) : (!(h % 18446744073709551616 == 0 && (h / 18446744073709551616 % 18446744073709551616 == 0 && (h / 18446744073709551616 / 18446744073709551616 % 18446744073709551616 == 0 && (h / 18446744073709551616 / 18446744073709551616 / 18446744073709551616 % 18446744073709551616 == 0 && true))))) = decide (h ≠ 0) := by
  have e1 : h % 18446744073709551616 = h := by omega
  have e2 : h / 18446744073709551616 = 0 := by omega
  rw [e1, e2]
  by_cases hz : h = 0
  · subst hz; rfl
  · have : (h == 0) = false := by simpa using hz
    rw [this, decide_eq_true hz]; rfl
theorem drop_cons {s : List UInt8} {i : Nat} (h : i < s.length) : s.drop i = s.getD i 0 :: s.drop (i + 1) := by
  rw [List.drop_eq_getElem_cons h, List.getD_eq_getElem?_getD, List.getElem?_eq_getElem h]; rfl
theorem fold_step {v : Int} {s : List UInt8} {i : Nat} (h : i < s.length) : foldD v (s.drop i) = if v * 10 + (((s.getD i 0).toNat : Int) - 48) ≥ 115792089237316195423570985008687907853269984665640564039457584007913129639936 then none else foldD (v * 10 + (((s.getD i 0).toNat : Int) - 48)) (s.drop (i + 1)) := by
  rw [drop_cons h]; rfl
theorem fold_end {v : Int} {s : List UInt8} {i : Nat} (h : s.length ≤ i) : foldD v (s.drop i) = some v := by
  rw [List.drop_eq_nil_of_le h]; rfl
theorem loop53a (s : List UInt8) (hs : s.length ≤ 1099511627776) : W Tryd.prog (tbS Q tbP) 0 (.inl (.loop p53_l1)) (g53a s 0) (fun e st => if allD s = true then e = .exit 0 ∧ st = e53a s else e = .ret ∧ st = b53 10) := by
  have hcw : CwOK (tbS Q tbP) (tbW Q tbP) := tbW_ok rfl
  have main := W_roundsG (P := Tryd.prog) (S := tbS Q tbP) (b0 := 0) (a := p53_l1) (fun i : Nat => g53a s i) (fun i => i ≤ s.length ∧ ∀ j, j < i → isD (s.getD j 0) = true) (fun i => s.length - i)
    (fun _ e st => if allD s = true then e = .exit 0 ∧ st = e53a s else e = .ret ∧ st = b53 10) ?_ 0 ⟨by omega, fun j hj => by omega⟩
  · exact main
  · rintro i ⟨h1, h2⟩
    refine W_wpX (C := C53a) hcw (by intro x hx; cases hx) (n := 60) (tn := t53a) (tx := x53a) (tr := r53) ((v53a s i _).mp ?_)
    rcases Nat.lt_or_ge i s.length with hi | hi
    · have hbad : isD (s.getD i 0) = false → (if allD s = true then AExit.ret = .exit 0 ∧ b53 10 = e53a s else AExit.ret = .ret ∧ b53 10 = b53 10) := fun h => by
        rw [if_neg (fun ha => by rw [allD_at ha hi] at h; cases h)]; exact ⟨rfl, rfl⟩
      have hi1 : IntKind.wrap .i64 ((i : Int) + 1) = ((i + 1 : Nat) : Int) := by rw [IntKind.wrap_i64]; omega
      rw [show (0 + i * 1 : Nat) = i by omega]
      refine askT (decide_eq_true (by omega)) (chkI (decide_eq_true (by omega)) ⟨_, bv_at hi, askI (fun g1 => chkI (ro_ocl s) (hbad ?_)) fun g1 => askI (fun g2 => chkI (ro_ocl s) (hbad ?_)) fun g2 => chkI (ro_ocl s) ⟨i + 1, by rw [hi1]; rfl, ⟨by omega, fun j hj => ?_⟩, by omega, fun e st h => h⟩⟩)
      · simp only [decide_eq_true_eq] at g1
        unfold isD; rw [decide_eq_false (by omega)]; rfl
      · simp only [decide_eq_true_eq] at g2
        unfold isD; rw [decide_eq_false (p := (s.getD i 0).toNat ≤ 57) (by omega), Bool.and_false]
      · simp only [decide_eq_false_iff_not] at g1 g2
        rcases Nat.lt_or_ge j i with q | q
        · exact h2 j q
        · obtain rfl : j = i := by omega
          unfold isD; rw [decide_eq_true (by omega), decide_eq_true (p := (s.getD j 0).toNat ≤ 57) (by omega)]; rfl
    · refine askF (decide_eq_false (by omega)) (chkI (ro_ocl s) ?_)
      show if allD s = true then _ else _
      rw [if_pos (allD_of fun j hj => h2 j (by omega))]
      exact ⟨rfl, rfl⟩
theorem loop53b (s : List UInt8) (hs : s.length ≤ 1099511627776) (hD : allD s = true) : W Tryd.prog (tbS Q tbP) 0 (.inl (.loop p53_l0)) (g53b s 0 0) (fun e st => if (foldD 0 s).isSome = true then e = .exit 2 ∧ st = e53b ((foldD 0 s).getD 0) else e = .ret ∧ st = b53 7) := by
  have hcw : CwOK (tbS Q tbP) (tbW Q tbP) := tbW_ok rfl
  have main := W_roundsG (P := Tryd.prog) (S := tbS Q tbP) (b0 := 0) (a := p53_l0) (fun p : Nat × Int => g53b s p.2 p.1) (fun p => p.1 ≤ s.length ∧ 0 ≤ p.2 ∧ p.2 < 115792089237316195423570985008687907853269984665640564039457584007913129639936 ∧ foldD 0 s = foldD p.2 (s.drop p.1)) (fun p => s.length - p.1)
    (fun _ e st => if (foldD 0 s).isSome = true then e = .exit 2 ∧ st = e53b ((foldD 0 s).getD 0) else e = .ret ∧ st = b53 7) ?_ (0, 0) ⟨by show 0 ≤ s.length; omega, by show (0 : Int) ≤ 0; omega, by show (0 : Int) < 115792089237316195423570985008687907853269984665640564039457584007913129639936; omega, rfl⟩
  · exact main
  · rintro ⟨i, v⟩ ⟨h1, h2, h3, h4⟩
    simp only at h1 h2 h3 h4
    refine W_wpX (C := C53b) hcw (by intro x hx; cases hx) (n := 80) (tn := t53b) (tx := x53b) (tr := r53) ((v53b s v i _).mp ?_)
    rcases Nat.lt_or_ge i s.length with hi | hi
    · have hd := allD_at hD hi
      simp only [isD, Bool.and_eq_true, decide_eq_true_eq] at hd
      have hst := fold_step (v := v) hi
      obtain ⟨d, hdd⟩ : ∃ d : Int, d = ((s.getD i 0).toNat : Int) - 48 := ⟨_, rfl⟩
      have hw : IntKind.wrap .u64 (IntKind.wrap .u8 (((s.getD i 0).toNat : Int) - 48)) = d := by rw [IntKind.wrap_u8, IntKind.wrap_u64]; omega
      rw [← hdd, ← h4] at hst
      have hi1 : IntKind.wrap .i64 ((i : Int) + 1) = ((i + 1 : Nat) : Int) := by rw [IntKind.wrap_i64]; omega
      have hbad : v * 10 + d ≥ 115792089237316195423570985008687907853269984665640564039457584007913129639936 → (if (foldD 0 s).isSome = true then AExit.ret = .exit 2 ∧ b53 7 = e53b ((foldD 0 s).getD 0) else AExit.ret = .ret ∧ b53 7 = b53 7) := fun h => by
        rw [hst, if_pos h]; exact ⟨rfl, rfl⟩
      rw [show (0 + i * 1 : Nat) = i by omega]
      refine askT (decide_eq_true (by omega)) (chkI (decide_eq_true (by omega)) ⟨_, bv_at hi, 10, 0, 0, 0, rfl, _, _, _, _, _, _, _, _, mul_ten h2 h3, _, _, _, _, rfl, ?_⟩)
      rw [hw]
      refine ⟨_, _, _, _, _, add_dig (w := v * 10) (by omega) (by omega) (by omega), askI (fun g1 => chkI (ro_ocl s) (hbad ?_)) fun g1 => ?_⟩
      · simp only [decide_eq_true_eq] at g1; omega
      rw [high0 (by omega) (by omega)]
      refine askI (fun g2 => chkI (ro_ocl s) (hbad ?_)) fun g2 => chkI (ro_ocl s) ?_
      · simp only [decide_eq_true_eq] at g2; omega
      simp only [decide_eq_false_iff_not] at g1 g2
      have hm : v * 10 % 115792089237316195423570985008687907853269984665640564039457584007913129639936 = v * 10 := by omega
      refine ⟨(i + 1, v * 10 + d), ?_, ⟨by show i + 1 ≤ s.length; omega, by show 0 ≤ v * 10 + d; omega, by show v * 10 + d < 115792089237316195423570985008687907853269984665640564039457584007913129639936; omega, ?_⟩, by show s.length - (i + 1) < s.length - i; omega, fun e st h => h⟩
      · rw [hm, hi1]; rfl
      · show foldD 0 s = foldD (v * 10 + d) (s.drop (i + 1))
        rw [hst, if_neg (by omega)]
    · have hf := fold_end (v := v) hi
      rw [← h4] at hf
      refine askF (decide_eq_false (by omega)) ?_
      refine chkI (ro_ocl s) ?_
      show if (foldD 0 s).isSome = true then _ else _
      rw [hf]
      exact ⟨rfl, rfl⟩
theorem eq48 (c : UInt8) : (((c.toNat : Nat) : Int) == 48) = (c == 48) := by
  have h := ne_u8 c 48
  rw [bne, bne] at h
  exact Bool.not_inj h
theorem pn_zero {s : List UInt8} (h : s ≠ []) (hz : (s.getD 0 0 == 48) = true) (hl : 1 < s.length) : parseN s = (0, 10) := by
  unfold parseN
  have he : s.isEmpty = false := by cases s with | nil => exact absurd rfl h | cons _ _ => rfl
  rw [if_neg (by rw [he]; decide), if_pos (by rw [hz, decide_eq_true hl]; rfl)]
theorem pn_rest {s : List UInt8} (h : s ≠ []) (hz : (s.getD 0 0 == 48) = false ∨ ¬ 1 < s.length) : parseN s = if allD s = true then (match foldD 0 s with
    | some v => ((v, 0) : Int × Int)
    | none => (0, 7)) else (0, 10) := by
  have he : s.isEmpty = false := by cases s with | nil => exact absurd rfl h | cons _ _ => rfl
  have h2 : ¬ ((s.getD 0 0 == 48 && decide (1 < s.length)) = true) := by
    rcases hz with hz | hz
    · rw [hz]; simp
    · rw [decide_eq_false hz]; simp
  unfold parseN
  rw [if_neg (by rw [he]; decide), if_neg h2]
  all_goals
    by_cases hA : allD s = true
    · rw [if_pos hA, if_pos hA]
      try (cases foldD 0 s <;> rfl)
    · rw [if_neg hA, if_neg hA]
theorem parse_ok : QuietOK Tryd.prog 53 fun vs _ => sParseN vs := quiet_plain ht53 fun args v h => by
  unfold sParseN at h
  split at h
  · rename_i s
    split at h
    · rename_i hs
      cases h
      refine ⟨rfl, rfl, ?_⟩
      have hS : (tbS Q tbP).OK Tryd.prog := tbS_ok quietText (by
        intro x hx
        simp only [tbP, List.mem_cons, List.not_mem_nil, or_false] at hx
        rcases hx with rfl | rfl | rfl
        · exact from_ok
        · exact mul_ok
        · exact add_ok)
      by_cases hD : allD s = true ∨ allD s = false
      · obtain ⟨u, h', rfl, hsem⟩ := sem_vc mixed (C := C53 s) hS (tbS_q _ _) (tbW_ok rfl) ht53 c53 (fun x hx => by
          have e : partsIn p53.body = [.loop p53_l1, .loop p53_l0] := rfl
          rw [e] at hx
          simp only [List.mem_cons, List.not_mem_nil, or_false] at hx
          rcases hx with rfl | rfl
          · exact part_loop (id := 4) rfl rfl fun st K hT => by
              obtain ⟨rfl, hk⟩ := hT
              refine W_mono (loop53a s hs) fun e st he => ?_
              rcases askD hk with ⟨h1, h2⟩ | ⟨h1, h2⟩
              · rw [if_pos h1] at he; obtain ⟨rfl, rfl⟩ := he; exact h2
              · rw [if_neg (by rw [h1]; decide)] at he; obtain ⟨rfl, rfl⟩ := he; exact h2
          · by_cases hA : allD s = true
            · exact part_loop (id := 11) rfl rfl fun st K hT => by
                obtain ⟨rfl, _, hk⟩ := hT
                refine W_mono (loop53b s hs hA) fun e st he => ?_
                rcases askD hk with ⟨h1, h2⟩ | ⟨h1, h2⟩
                · rw [if_pos h1] at he; obtain ⟨rfl, rfl⟩ := he; exact h2
                · rw [if_neg (by rw [h1]; decide)] at he; obtain ⟨rfl, rfl⟩ := he; exact h2
            · exact part_loop (id := 11) rfl rfl fun st K hT => (hA hT.2.1).elim) (v53 s fun u _ => u = .tup [.agg (limbs (parseN s).1), .int .i64 (parseN s).2]) (by
        refine askI (fun h0 => ?_) fun h0 => ?_
        · have : s = [] := by simpa using h0
          subst this; rfl
        have hne : s ≠ [] := by simpa using h0
        have hpos : 0 < s.length := by cases s with | nil => exact absurd rfl hne | cons _ _ => simp
        refine chkI (decide_eq_true hpos) (askI (fun h1 => askI (fun h2 => ?_) fun h2 => ?_) fun h1 => ?_)
        · have hz : s.getD 0 0 == 48 := by rw [← eq48]; exact h1
          simp only [decide_eq_true_eq] at h2
          rw [pn_zero hne hz (by omega)]; rfl
        · simp only [decide_eq_false_iff_not] at h2
          have hp := pn_rest hne (.inr (show ¬ 1 < s.length by omega))
          have hz : (s.getD 0 0 == 48) = false ∨ s.length ≤ 1 := .inr (by omega)
          refine chkI (ro_ocl s) ⟨rfl, askI (fun hA => chkI (ro_ocl s) ⟨rfl, hA, askI (fun hF => ?_) fun hF => ?_⟩) fun hA => ?_⟩
          · refine ⟨_, _, _, _, rfl, ?_⟩
            obtain ⟨v, hv⟩ := Option.isSome_iff_exists.1 hF
            rw [hp, if_pos hA, hv]
            rfl
          · have hn : foldD 0 s = none := by
              cases hx : foldD 0 s with
              | none => rfl
              | some v => rw [hx] at hF; cases hF
            rw [hp, if_pos hA, hn]
            rfl
          · rw [hp, if_neg (by rw [hA]; decide)]
            rfl
        · have hz0 : (s.getD 0 0 == 48) = false := by rw [← eq48]; exact h1
          have hp := pn_rest hne (.inl hz0)
          have hz : (s.getD 0 0 == 48) = false ∨ s.length ≤ 1 := .inl hz0
          refine chkI (ro_ocl s) ⟨rfl, askI (fun hA => chkI (ro_ocl s) ⟨rfl, hA, askI (fun hF => ?_) fun hF => ?_⟩) fun hA => ?_⟩
          · refine ⟨_, _, _, _, rfl, ?_⟩
            obtain ⟨v, hv⟩ := Option.isSome_iff_exists.1 hF
            rw [hp, if_pos hA, hv]
            rfl
          · have hn : foldD 0 s = none := by
              cases hx : foldD 0 s with
              | none => rfl
              | some v => rw [hx] at hF; cases hF
            rw [hp, if_pos hA, hn]
            rfl
          · rw [hp, if_neg (by rw [hA]; decide)]
            rfl
        )
        exact ⟨h', hsem⟩
      · cases h : allD s <;> simp [h] at hD
    · cases h
  · cases h

end Go.Proofs.YtahdfjmdoljgiaaDoor
