/- Written by merging: Rk Rl Rm Rn Rp Rq Rr Rs. -/
import Derived.Test.YtddalcnajejibaaDoorNa
namespace Go.Proofs.YtddalcnajejibaaDoor
open Go Go.Am Go.RowKit
set_option maxRecDepth 100000
set_option maxHeartbeats 1000000
set_option linter.unusedVariables false
set_option linter.unusedSimpArgs false
def sTrimLeft : List AV → Option AV
  | [.str s, .str [c]] => if c.toNat < 128 then some (.str (Lib.trimLeftB s c)) else none
  | _ => none
theorem trimLeft_ok : QuietOK Tryd.prog 30 fun vs _ => sTrimLeft vs := quiet_plain ht52 fun args v h => by
  unfold sTrimLeft at h
  split at h
  · split at h <;> cases h
    rename_i hc
    exact ⟨rfl, rfl, _, sem_below rfl fun ρ w => (Tryd.strings_TrimLeft_one _ _ hc w).mono fun e w' ⟨h1, h2⟩ => ⟨h1, h2 ▸ Below.refl _ _⟩⟩
  · cases h
theorem ix_lt : ∀ (l : List UInt8) (c : UInt8), Lib.indexByte l c < l.length ∧ -1 ≤ Lib.indexByte l c
  | [], c => by simp [Lib.indexByte]
  | b :: l, c => by
    have := ix_lt l c
    unfold Lib.indexByte
    simp only [List.length_cons]
    split
    · omega
    · split
      · omega
      · omega
def sHalf : List AV → Option AV
  | [.int .u64 a, .int .u64 b] => if u64B a && u64B b then some (.tup [.int .u64 (a * b / 18446744073709551616), .int .u64 (a * b % 18446744073709551616)]) else none
  | _ => none
def sPlus : List AV → Option AV
  | [.int .u64 a, .int .u64 b, .int .u64 c] => if u64B a && u64B b && u64B c then some (.tup [.int .u64 ((a + b + c) % 18446744073709551616), .int .u64 ((a + b + c) / 18446744073709551616)]) else none
  | _ => none
def tbL : List TbE := [⟨84, fun vs _ => sHalf vs, .tup [i64, i64]⟩, ⟨85, fun vs _ => sPlus vs, .tup [i64, i64]⟩]
def CL : Cfg := tbC Q tbL (fun _ => false) kdU
theorem v77 (a b : Int) (R : AV → AHeap → Prop) : (R (AV.tup [AV.int .u64 (IntKind.wrap .u64 (IntKind.wrap .u64 (IntKind.wrap .u64 (Int.fdiv a (2 ^ min 32 (IntKind.bits .u64)) * Int.fdiv b (2 ^ min 32 (IntKind.bits .u64))) + Int.fdiv (IntKind.wrap .u64 (IntKind.wrap .u64 (Int.fdiv a (2 ^ min 32 (IntKind.bits .u64)) * IntKind.wrap .u64 (↑(BitVec.toNat (BitVec.ofInt (IntKind.bits .u64) b &&& BitVec.ofInt (IntKind.bits .u64) 4294967295)) : Int)) + Int.fdiv (IntKind.wrap .u64 (IntKind.wrap .u64 (↑(BitVec.toNat (BitVec.ofInt (IntKind.bits .u64) a &&& BitVec.ofInt (IntKind.bits .u64) 4294967295)) : Int) * IntKind.wrap .u64 (↑(BitVec.toNat (BitVec.ofInt (IntKind.bits .u64) b &&& BitVec.ofInt (IntKind.bits .u64) 4294967295)) : Int))) (2 ^ min 32 (IntKind.bits .u64)))) (2 ^ min 32 (IntKind.bits .u64))) + Int.fdiv (IntKind.wrap .u64 (IntKind.wrap .u64 (IntKind.wrap .u64 (↑(BitVec.toNat (BitVec.ofInt (IntKind.bits .u64) a &&& BitVec.ofInt (IntKind.bits .u64) 4294967295)) : Int) * Int.fdiv b (2 ^ min 32 (IntKind.bits .u64))) + IntKind.wrap .u64 (↑(BitVec.toNat (BitVec.ofInt (IntKind.bits .u64) (IntKind.wrap .u64 (IntKind.wrap .u64 (Int.fdiv a (2 ^ min 32 (IntKind.bits .u64)) * IntKind.wrap .u64 (↑(BitVec.toNat (BitVec.ofInt (IntKind.bits .u64) b &&& BitVec.ofInt (IntKind.bits .u64) 4294967295)) : Int)) + Int.fdiv (IntKind.wrap .u64 (IntKind.wrap .u64 (↑(BitVec.toNat (BitVec.ofInt (IntKind.bits .u64) a &&& BitVec.ofInt (IntKind.bits .u64) 4294967295)) : Int) * IntKind.wrap .u64 (↑(BitVec.toNat (BitVec.ofInt (IntKind.bits .u64) b &&& BitVec.ofInt (IntKind.bits .u64) 4294967295)) : Int))) (2 ^ min 32 (IntKind.bits .u64)))) &&& BitVec.ofInt (IntKind.bits .u64) 4294967295)) : Int))) (2 ^ min 32 (IntKind.bits .u64)))), AV.int .u64 (IntKind.wrap .u64 (↑(BitVec.toNat (BitVec.ofInt (IntKind.bits .u64) (IntKind.wrap .u64 (IntKind.wrap .u64 (IntKind.wrap .u64 (IntKind.wrap .u64 (↑(BitVec.toNat (BitVec.ofInt (IntKind.bits .u64) a &&& BitVec.ofInt (IntKind.bits .u64) 4294967295)) : Int) * Int.fdiv b (2 ^ min 32 (IntKind.bits .u64))) + IntKind.wrap .u64 (↑(BitVec.toNat (BitVec.ofInt (IntKind.bits .u64) (IntKind.wrap .u64 (IntKind.wrap .u64 (Int.fdiv a (2 ^ min 32 (IntKind.bits .u64)) * IntKind.wrap .u64 (↑(BitVec.toNat (BitVec.ofInt (IntKind.bits .u64) b &&& BitVec.ofInt (IntKind.bits .u64) 4294967295)) : Int)) + Int.fdiv (IntKind.wrap .u64 (IntKind.wrap .u64 (↑(BitVec.toNat (BitVec.ofInt (IntKind.bits .u64) a &&& BitVec.ofInt (IntKind.bits .u64) 4294967295)) : Int) * IntKind.wrap .u64 (↑(BitVec.toNat (BitVec.ofInt (IntKind.bits .u64) b &&& BitVec.ofInt (IntKind.bits .u64) 4294967295)) : Int))) (2 ^ min 32 (IntKind.bits .u64)))) &&& BitVec.ofInt (IntKind.bits .u64) 4294967295)) : Int)) * 2 ^ min 32 (IntKind.bits .u64))) ||| BitVec.ofInt (IntKind.bits .u64) (IntKind.wrap .u64 (↑(BitVec.toNat (BitVec.ofInt (IntKind.bits .u64) (IntKind.wrap .u64 (IntKind.wrap .u64 (↑(BitVec.toNat (BitVec.ofInt (IntKind.bits .u64) a &&& BitVec.ofInt (IntKind.bits .u64) 4294967295)) : Int) * IntKind.wrap .u64 (↑(BitVec.toNat (BitVec.ofInt (IntKind.bits .u64) b &&& BitVec.ofInt (IntKind.bits .u64) 4294967295)) : Int))) &&& BitVec.ofInt (IntKind.bits .u64) 4294967295)) : Int)))) : Int))]) []) = (wpF Tryd.prog CL0 60 p77 [.int .u64 a, .int .u64 b] [] R) := by kernel_rfl
theorem v78 (a b c : Int) (R : AV → AHeap → Prop) : (askB (decide (IntKind.wrap .u64 (a + b) < a)) (askB (decide (IntKind.wrap .u64 (IntKind.wrap .u64 (a + b) + c) < IntKind.wrap .u64 (a + b))) (R (AV.tup [AV.int .u64 (IntKind.wrap .u64 (IntKind.wrap .u64 (a + b) + c)), AV.int .u64 2]) []) (R (AV.tup [AV.int .u64 (IntKind.wrap .u64 (IntKind.wrap .u64 (a + b) + c)), AV.int .u64 1]) [])) (askB (decide (IntKind.wrap .u64 (IntKind.wrap .u64 (a + b) + c) < IntKind.wrap .u64 (a + b))) (R (AV.tup [AV.int .u64 (IntKind.wrap .u64 (IntKind.wrap .u64 (a + b) + c)), AV.int .u64 1]) []) (R (AV.tup [AV.int .u64 (IntKind.wrap .u64 (IntKind.wrap .u64 (a + b) + c)), AV.int .u64 0]) []))) = (wpF Tryd.prog CL0 60 p78 [.int .u64 a, .int .u64 b, .int .u64 c] [] R) := by kernel_rfl
theorem v67 (a : Int) (R : AV → AHeap → Prop) : (R (AV.agg [AV.int .u64 a, AV.int .u64 0, AV.int .u64 0, AV.int .u64 0]) [AObj.row 24 4 [AV.int .u64 a, AV.int .u64 0, AV.int .u64 0, AV.int .u64 0]]) = (wpF Tryd.prog CL0 60 p67 [.int .u64 a] [] R) := by kernel_rfl
theorem v68 (a0 a1 a2 a3 b0 b1 b2 b3 : Int) (R : AV → AHeap → Prop) : (∃ (n : Int), ∃ (n_1 : Int), TbE.s { f := 85, s := fun (vs : List AV) (x : AHeap) => sPlus vs, r := Rs.tup [i64, i64] } [AV.int .u64 a0, AV.int .u64 b0, AV.int .u64 0] [AObj.row 24 4 [AV.int .u64 a0, AV.int .u64 a1, AV.int .u64 a2, AV.int .u64 a3], AObj.row 24 4 [AV.int .u64 b0, AV.int .u64 b1, AV.int .u64 b2, AV.int .u64 b3], AObj.row 24 4 [AV.int .u64 0, AV.int .u64 0, AV.int .u64 0, AV.int .u64 0], AObj.row 24 4 [AV.int .u64 0, AV.int .u64 0, AV.int .u64 0, AV.int .u64 0]] = some (AV.tup [AV.int .u64 n, AV.int .u64 n_1]) ∧ ∃ (n_2 : Int), ∃ (n_3 : Int), TbE.s { f := 85, s := fun (vs : List AV) (x : AHeap) => sPlus vs, r := Rs.tup [i64, i64] } [AV.int .u64 a1, AV.int .u64 b1, AV.int .u64 n_1] [AObj.row 24 4 [AV.int .u64 a0, AV.int .u64 a1, AV.int .u64 a2, AV.int .u64 a3], AObj.row 24 4 [AV.int .u64 b0, AV.int .u64 b1, AV.int .u64 b2, AV.int .u64 b3], AObj.row 24 4 [AV.int .u64 0, AV.int .u64 0, AV.int .u64 0, AV.int .u64 0], AObj.row 24 4 [AV.int .u64 n, AV.int .u64 0, AV.int .u64 0, AV.int .u64 0]] = some (AV.tup [AV.int .u64 n_2, AV.int .u64 n_3]) ∧ ∃ (n_4 : Int), ∃ (n_5 : Int), TbE.s { f := 85, s := fun (vs : List AV) (x : AHeap) => sPlus vs, r := Rs.tup [i64, i64] } [AV.int .u64 a2, AV.int .u64 b2, AV.int .u64 n_3] [AObj.row 24 4 [AV.int .u64 a0, AV.int .u64 a1, AV.int .u64 a2, AV.int .u64 a3], AObj.row 24 4 [AV.int .u64 b0, AV.int .u64 b1, AV.int .u64 b2, AV.int .u64 b3], AObj.row 24 4 [AV.int .u64 0, AV.int .u64 0, AV.int .u64 0, AV.int .u64 0], AObj.row 24 4 [AV.int .u64 n, AV.int .u64 n_2, AV.int .u64 0, AV.int .u64 0]] = some (AV.tup [AV.int .u64 n_4, AV.int .u64 n_5]) ∧ ∃ (n_6 : Int), ∃ (n_7 : Int), TbE.s { f := 85, s := fun (vs : List AV) (x : AHeap) => sPlus vs, r := Rs.tup [i64, i64] } [AV.int .u64 a3, AV.int .u64 b3, AV.int .u64 n_5] [AObj.row 24 4 [AV.int .u64 a0, AV.int .u64 a1, AV.int .u64 a2, AV.int .u64 a3], AObj.row 24 4 [AV.int .u64 b0, AV.int .u64 b1, AV.int .u64 b2, AV.int .u64 b3], AObj.row 24 4 [AV.int .u64 0, AV.int .u64 0, AV.int .u64 0, AV.int .u64 0], AObj.row 24 4 [AV.int .u64 n, AV.int .u64 n_2, AV.int .u64 n_4, AV.int .u64 0]] = some (AV.tup [AV.int .u64 n_6, AV.int .u64 n_7]) ∧ askB (decide (n_7 > 0)) (R (AV.tup [AV.agg [AV.int .u64 n, AV.int .u64 n_2, AV.int .u64 n_4, AV.int .u64 n_6], AV.bool true]) [AObj.row 24 4 [AV.int .u64 a0, AV.int .u64 a1, AV.int .u64 a2, AV.int .u64 a3], AObj.row 24 4 [AV.int .u64 b0, AV.int .u64 b1, AV.int .u64 b2, AV.int .u64 b3], AObj.row 24 4 [AV.int .u64 n, AV.int .u64 n_2, AV.int .u64 n_4, AV.int .u64 n_6], AObj.row 24 4 [AV.int .u64 n, AV.int .u64 n_2, AV.int .u64 n_4, AV.int .u64 n_6]]) (R (AV.tup [AV.agg [AV.int .u64 n, AV.int .u64 n_2, AV.int .u64 n_4, AV.int .u64 n_6], AV.bool false]) [AObj.row 24 4 [AV.int .u64 a0, AV.int .u64 a1, AV.int .u64 a2, AV.int .u64 a3], AObj.row 24 4 [AV.int .u64 b0, AV.int .u64 b1, AV.int .u64 b2, AV.int .u64 b3], AObj.row 24 4 [AV.int .u64 n, AV.int .u64 n_2, AV.int .u64 n_4, AV.int .u64 n_6], AObj.row 24 4 [AV.int .u64 n, AV.int .u64 n_2, AV.int .u64 n_4, AV.int .u64 n_6]])) = (wpF Tryd.prog CL 200 p68 [(.agg [.int .u64 a0, .int .u64 a1, .int .u64 a2, .int .u64 a3]), (.agg [.int .u64 b0, .int .u64 b1, .int .u64 b2, .int .u64 b3])] [] R) := by kernel_rfl
theorem v66 (a0 a1 a2 a3 b0 b1 b2 b3 : Int) (R : AV → AHeap → Prop) : (∃ (n : Int), ∃ (n_1 : Int), TbE.s { f := 84, s := fun (vs : List AV) (x : AHeap) => sHalf vs, r := Rs.tup [i64, i64] } [AV.int .u64 a0, AV.int .u64 b0] [AObj.row 24 4 [AV.int .u64 a0, AV.int .u64 a1, AV.int .u64 a2, AV.int .u64 a3], AObj.row 24 4 [AV.int .u64 b0, AV.int .u64 b1, AV.int .u64 b2, AV.int .u64 b3], AObj.row 24 4 [AV.int .u64 0, AV.int .u64 0, AV.int .u64 0, AV.int .u64 0], AObj.row 24 4 [AV.int .u64 0, AV.int .u64 0, AV.int .u64 0, AV.int .u64 0], AObj.row 106 8 [AV.int .u64 0, AV.int .u64 0, AV.int .u64 0, AV.int .u64 0, AV.int .u64 0, AV.int .u64 0, AV.int .u64 0, AV.int .u64 0]] = some (AV.tup [AV.int .u64 n, AV.int .u64 n_1]) ∧ ∃ (n_2 : Int), ∃ (n_3 : Int), TbE.s { f := 85, s := fun (vs : List AV) (x : AHeap) => sPlus vs, r := Rs.tup [i64, i64] } [AV.int .u64 0, AV.int .u64 n_1, AV.int .u64 0] [AObj.row 24 4 [AV.int .u64 a0, AV.int .u64 a1, AV.int .u64 a2, AV.int .u64 a3], AObj.row 24 4 [AV.int .u64 b0, AV.int .u64 b1, AV.int .u64 b2, AV.int .u64 b3], AObj.row 24 4 [AV.int .u64 0, AV.int .u64 0, AV.int .u64 0, AV.int .u64 0], AObj.row 24 4 [AV.int .u64 0, AV.int .u64 0, AV.int .u64 0, AV.int .u64 0], AObj.row 106 8 [AV.int .u64 0, AV.int .u64 0, AV.int .u64 0, AV.int .u64 0, AV.int .u64 0, AV.int .u64 0, AV.int .u64 0, AV.int .u64 0]] = some (AV.tup [AV.int .u64 n_2, AV.int .u64 n_3]) ∧ ∃ (n_4 : Int), ∃ (n_5 : Int), TbE.s { f := 84, s := fun (vs : List AV) (x : AHeap) => sHalf vs, r := Rs.tup [i64, i64] } [AV.int .u64 a0, AV.int .u64 b1] [AObj.row 24 4 [AV.int .u64 a0, AV.int .u64 a1, AV.int .u64 a2, AV.int .u64 a3], AObj.row 24 4 [AV.int .u64 b0, AV.int .u64 b1, AV.int .u64 b2, AV.int .u64 b3], AObj.row 24 4 [AV.int .u64 0, AV.int .u64 0, AV.int .u64 0, AV.int .u64 0], AObj.row 24 4 [AV.int .u64 0, AV.int .u64 0, AV.int .u64 0, AV.int .u64 0], AObj.row 106 8 [AV.int .u64 n_2, AV.int .u64 0, AV.int .u64 0, AV.int .u64 0, AV.int .u64 0, AV.int .u64 0, AV.int .u64 0, AV.int .u64 0]] = some (AV.tup [AV.int .u64 n_4, AV.int .u64 n_5]) ∧ ∃ (n_6 : Int), ∃ (n_7 : Int), TbE.s { f := 85, s := fun (vs : List AV) (x : AHeap) => sPlus vs, r := Rs.tup [i64, i64] } [AV.int .u64 0, AV.int .u64 n_5, AV.int .u64 (IntKind.wrap .u64 (n + n_3))] [AObj.row 24 4 [AV.int .u64 a0, AV.int .u64 a1, AV.int .u64 a2, AV.int .u64 a3], AObj.row 24 4 [AV.int .u64 b0, AV.int .u64 b1, AV.int .u64 b2, AV.int .u64 b3], AObj.row 24 4 [AV.int .u64 0, AV.int .u64 0, AV.int .u64 0, AV.int .u64 0], AObj.row 24 4 [AV.int .u64 0, AV.int .u64 0, AV.int .u64 0, AV.int .u64 0], AObj.row 106 8 [AV.int .u64 n_2, AV.int .u64 0, AV.int .u64 0, AV.int .u64 0, AV.int .u64 0, AV.int .u64 0, AV.int .u64 0, AV.int .u64 0]] = some (AV.tup [AV.int .u64 n_6, AV.int .u64 n_7]) ∧ ∃ (n : Int), ∃ (n_8 : Int), TbE.s { f := 84, s := fun (vs : List AV) (x : AHeap) => sHalf vs, r := Rs.tup [i64, i64] } [AV.int .u64 a0, AV.int .u64 b2] [AObj.row 24 4 [AV.int .u64 a0, AV.int .u64 a1, AV.int .u64 a2, AV.int .u64 a3], AObj.row 24 4 [AV.int .u64 b0, AV.int .u64 b1, AV.int .u64 b2, AV.int .u64 b3], AObj.row 24 4 [AV.int .u64 0, AV.int .u64 0, AV.int .u64 0, AV.int .u64 0], AObj.row 24 4 [AV.int .u64 0, AV.int .u64 0, AV.int .u64 0, AV.int .u64 0], AObj.row 106 8 [AV.int .u64 n_2, AV.int .u64 n_6, AV.int .u64 0, AV.int .u64 0, AV.int .u64 0, AV.int .u64 0, AV.int .u64 0, AV.int .u64 0]] = some (AV.tup [AV.int .u64 n, AV.int .u64 n_8]) ∧ ∃ (n_9 : Int), ∃ (n_10 : Int), TbE.s { f := 85, s := fun (vs : List AV) (x : AHeap) => sPlus vs, r := Rs.tup [i64, i64] } [AV.int .u64 0, AV.int .u64 n_8, AV.int .u64 (IntKind.wrap .u64 (n_4 + n_7))] [AObj.row 24 4 [AV.int .u64 a0, AV.int .u64 a1, AV.int .u64 a2, AV.int .u64 a3], AObj.row 24 4 [AV.int .u64 b0, AV.int .u64 b1, AV.int .u64 b2, AV.int .u64 b3], AObj.row 24 4 [AV.int .u64 0, AV.int .u64 0, AV.int .u64 0, AV.int .u64 0], AObj.row 24 4 [AV.int .u64 0, AV.int .u64 0, AV.int .u64 0, AV.int .u64 0], AObj.row 106 8 [AV.int .u64 n_2, AV.int .u64 n_6, AV.int .u64 0, AV.int .u64 0, AV.int .u64 0, AV.int .u64 0, AV.int .u64 0, AV.int .u64 0]] = some (AV.tup [AV.int .u64 n_9, AV.int .u64 n_10]) ∧ ∃ (n_11 : Int), ∃ (n_12 : Int), TbE.s { f := 84, s := fun (vs : List AV) (x : AHeap) => sHalf vs, r := Rs.tup [i64, i64] } [AV.int .u64 a0, AV.int .u64 b3] [AObj.row 24 4 [AV.int .u64 a0, AV.int .u64 a1, AV.int .u64 a2, AV.int .u64 a3], AObj.row 24 4 [AV.int .u64 b0, AV.int .u64 b1, AV.int .u64 b2, AV.int .u64 b3], AObj.row 24 4 [AV.int .u64 0, AV.int .u64 0, AV.int .u64 0, AV.int .u64 0], AObj.row 24 4 [AV.int .u64 0, AV.int .u64 0, AV.int .u64 0, AV.int .u64 0], AObj.row 106 8 [AV.int .u64 n_2, AV.int .u64 n_6, AV.int .u64 n_9, AV.int .u64 0, AV.int .u64 0, AV.int .u64 0, AV.int .u64 0, AV.int .u64 0]] = some (AV.tup [AV.int .u64 n_11, AV.int .u64 n_12]) ∧ ∃ (n_13 : Int), ∃ (n_14 : Int), TbE.s { f := 85, s := fun (vs : List AV) (x : AHeap) => sPlus vs, r := Rs.tup [i64, i64] } [AV.int .u64 0, AV.int .u64 n_12, AV.int .u64 (IntKind.wrap .u64 (n + n_10))] [AObj.row 24 4 [AV.int .u64 a0, AV.int .u64 a1, AV.int .u64 a2, AV.int .u64 a3], AObj.row 24 4 [AV.int .u64 b0, AV.int .u64 b1, AV.int .u64 b2, AV.int .u64 b3], AObj.row 24 4 [AV.int .u64 0, AV.int .u64 0, AV.int .u64 0, AV.int .u64 0], AObj.row 24 4 [AV.int .u64 0, AV.int .u64 0, AV.int .u64 0, AV.int .u64 0], AObj.row 106 8 [AV.int .u64 n_2, AV.int .u64 n_6, AV.int .u64 n_9, AV.int .u64 0, AV.int .u64 0, AV.int .u64 0, AV.int .u64 0, AV.int .u64 0]] = some (AV.tup [AV.int .u64 n_13, AV.int .u64 n_14]) ∧ ∃ (n : Int), ∃ (n_15 : Int), TbE.s { f := 84, s := fun (vs : List AV) (x : AHeap) => sHalf vs, r := Rs.tup [i64, i64] } [AV.int .u64 a1, AV.int .u64 b0] [AObj.row 24 4 [AV.int .u64 a0, AV.int .u64 a1, AV.int .u64 a2, AV.int .u64 a3], AObj.row 24 4 [AV.int .u64 b0, AV.int .u64 b1, AV.int .u64 b2, AV.int .u64 b3], AObj.row 24 4 [AV.int .u64 0, AV.int .u64 0, AV.int .u64 0, AV.int .u64 0], AObj.row 24 4 [AV.int .u64 0, AV.int .u64 0, AV.int .u64 0, AV.int .u64 0], AObj.row 106 8 [AV.int .u64 n_2, AV.int .u64 n_6, AV.int .u64 n_9, AV.int .u64 n_13, AV.int .u64 (IntKind.wrap .u64 (n_11 + n_14)), AV.int .u64 0, AV.int .u64 0, AV.int .u64 0]] = some (AV.tup [AV.int .u64 n, AV.int .u64 n_15]) ∧ ∃ (n_16 : Int), ∃ (n_17 : Int), TbE.s { f := 85, s := fun (vs : List AV) (x : AHeap) => sPlus vs, r := Rs.tup [i64, i64] } [AV.int .u64 n_6, AV.int .u64 n_15, AV.int .u64 0] [AObj.row 24 4 [AV.int .u64 a0, AV.int .u64 a1, AV.int .u64 a2, AV.int .u64 a3], AObj.row 24 4 [AV.int .u64 b0, AV.int .u64 b1, AV.int .u64 b2, AV.int .u64 b3], AObj.row 24 4 [AV.int .u64 0, AV.int .u64 0, AV.int .u64 0, AV.int .u64 0], AObj.row 24 4 [AV.int .u64 0, AV.int .u64 0, AV.int .u64 0, AV.int .u64 0], AObj.row 106 8 [AV.int .u64 n_2, AV.int .u64 n_6, AV.int .u64 n_9, AV.int .u64 n_13, AV.int .u64 (IntKind.wrap .u64 (n_11 + n_14)), AV.int .u64 0, AV.int .u64 0, AV.int .u64 0]] = some (AV.tup [AV.int .u64 n_16, AV.int .u64 n_17]) ∧ ∃ (n_18 : Int), ∃ (n_19 : Int), TbE.s { f := 84, s := fun (vs : List AV) (x : AHeap) => sHalf vs, r := Rs.tup [i64, i64] } [AV.int .u64 a1, AV.int .u64 b1] [AObj.row 24 4 [AV.int .u64 a0, AV.int .u64 a1, AV.int .u64 a2, AV.int .u64 a3], AObj.row 24 4 [AV.int .u64 b0, AV.int .u64 b1, AV.int .u64 b2, AV.int .u64 b3], AObj.row 24 4 [AV.int .u64 0, AV.int .u64 0, AV.int .u64 0, AV.int .u64 0], AObj.row 24 4 [AV.int .u64 0, AV.int .u64 0, AV.int .u64 0, AV.int .u64 0], AObj.row 106 8 [AV.int .u64 n_2, AV.int .u64 n_16, AV.int .u64 n_9, AV.int .u64 n_13, AV.int .u64 (IntKind.wrap .u64 (n_11 + n_14)), AV.int .u64 0, AV.int .u64 0, AV.int .u64 0]] = some (AV.tup [AV.int .u64 n_18, AV.int .u64 n_19]) ∧ ∃ (n_20 : Int), ∃ (n_21 : Int), TbE.s { f := 85, s := fun (vs : List AV) (x : AHeap) => sPlus vs, r := Rs.tup [i64, i64] } [AV.int .u64 n_9, AV.int .u64 n_19, AV.int .u64 (IntKind.wrap .u64 (n + n_17))] [AObj.row 24 4 [AV.int .u64 a0, AV.int .u64 a1, AV.int .u64 a2, AV.int .u64 a3], AObj.row 24 4 [AV.int .u64 b0, AV.int .u64 b1, AV.int .u64 b2, AV.int .u64 b3], AObj.row 24 4 [AV.int .u64 0, AV.int .u64 0, AV.int .u64 0, AV.int .u64 0], AObj.row 24 4 [AV.int .u64 0, AV.int .u64 0, AV.int .u64 0, AV.int .u64 0], AObj.row 106 8 [AV.int .u64 n_2, AV.int .u64 n_16, AV.int .u64 n_9, AV.int .u64 n_13, AV.int .u64 (IntKind.wrap .u64 (n_11 + n_14)), AV.int .u64 0, AV.int .u64 0, AV.int .u64 0]] = some (AV.tup [AV.int .u64 n_20, AV.int .u64 n_21]) ∧ ∃ (n : Int), ∃ (n_22 : Int), TbE.s { f := 84, s := fun (vs : List AV) (x : AHeap) => sHalf vs, r := Rs.tup [i64, i64] } [AV.int .u64 a1, AV.int .u64 b2] [AObj.row 24 4 [AV.int .u64 a0, AV.int .u64 a1, AV.int .u64 a2, AV.int .u64 a3], AObj.row 24 4 [AV.int .u64 b0, AV.int .u64 b1, AV.int .u64 b2, AV.int .u64 b3], AObj.row 24 4 [AV.int .u64 0, AV.int .u64 0, AV.int .u64 0, AV.int .u64 0], AObj.row 24 4 [AV.int .u64 0, AV.int .u64 0, AV.int .u64 0, AV.int .u64 0], AObj.row 106 8 [AV.int .u64 n_2, AV.int .u64 n_16, AV.int .u64 n_20, AV.int .u64 n_13, AV.int .u64 (IntKind.wrap .u64 (n_11 + n_14)), AV.int .u64 0, AV.int .u64 0, AV.int .u64 0]] = some (AV.tup [AV.int .u64 n, AV.int .u64 n_22]) ∧ ∃ (n_23 : Int), ∃ (n_24 : Int), TbE.s { f := 85, s := fun (vs : List AV) (x : AHeap) => sPlus vs, r := Rs.tup [i64, i64] } [AV.int .u64 n_13, AV.int .u64 n_22, AV.int .u64 (IntKind.wrap .u64 (n_18 + n_21))] [AObj.row 24 4 [AV.int .u64 a0, AV.int .u64 a1, AV.int .u64 a2, AV.int .u64 a3], AObj.row 24 4 [AV.int .u64 b0, AV.int .u64 b1, AV.int .u64 b2, AV.int .u64 b3], AObj.row 24 4 [AV.int .u64 0, AV.int .u64 0, AV.int .u64 0, AV.int .u64 0], AObj.row 24 4 [AV.int .u64 0, AV.int .u64 0, AV.int .u64 0, AV.int .u64 0], AObj.row 106 8 [AV.int .u64 n_2, AV.int .u64 n_16, AV.int .u64 n_20, AV.int .u64 n_13, AV.int .u64 (IntKind.wrap .u64 (n_11 + n_14)), AV.int .u64 0, AV.int .u64 0, AV.int .u64 0]] = some (AV.tup [AV.int .u64 n_23, AV.int .u64 n_24]) ∧ ∃ (n_25 : Int), ∃ (n_26 : Int), TbE.s { f := 84, s := fun (vs : List AV) (x : AHeap) => sHalf vs, r := Rs.tup [i64, i64] } [AV.int .u64 a1, AV.int .u64 b3] [AObj.row 24 4 [AV.int .u64 a0, AV.int .u64 a1, AV.int .u64 a2, AV.int .u64 a3], AObj.row 24 4 [AV.int .u64 b0, AV.int .u64 b1, AV.int .u64 b2, AV.int .u64 b3], AObj.row 24 4 [AV.int .u64 0, AV.int .u64 0, AV.int .u64 0, AV.int .u64 0], AObj.row 24 4 [AV.int .u64 0, AV.int .u64 0, AV.int .u64 0, AV.int .u64 0], AObj.row 106 8 [AV.int .u64 n_2, AV.int .u64 n_16, AV.int .u64 n_20, AV.int .u64 n_23, AV.int .u64 (IntKind.wrap .u64 (n_11 + n_14)), AV.int .u64 0, AV.int .u64 0, AV.int .u64 0]] = some (AV.tup [AV.int .u64 n_25, AV.int .u64 n_26]) ∧ ∃ (n_27 : Int), ∃ (n_28 : Int), TbE.s { f := 85, s := fun (vs : List AV) (x : AHeap) => sPlus vs, r := Rs.tup [i64, i64] } [AV.int .u64 (IntKind.wrap .u64 (n_11 + n_14)), AV.int .u64 n_26, AV.int .u64 (IntKind.wrap .u64 (n + n_24))] [AObj.row 24 4 [AV.int .u64 a0, AV.int .u64 a1, AV.int .u64 a2, AV.int .u64 a3], AObj.row 24 4 [AV.int .u64 b0, AV.int .u64 b1, AV.int .u64 b2, AV.int .u64 b3], AObj.row 24 4 [AV.int .u64 0, AV.int .u64 0, AV.int .u64 0, AV.int .u64 0], AObj.row 24 4 [AV.int .u64 0, AV.int .u64 0, AV.int .u64 0, AV.int .u64 0], AObj.row 106 8 [AV.int .u64 n_2, AV.int .u64 n_16, AV.int .u64 n_20, AV.int .u64 n_23, AV.int .u64 (IntKind.wrap .u64 (n_11 + n_14)), AV.int .u64 0, AV.int .u64 0, AV.int .u64 0]] = some (AV.tup [AV.int .u64 n_27, AV.int .u64 n_28]) ∧ ∃ (n : Int), ∃ (n_29 : Int), TbE.s { f := 84, s := fun (vs : List AV) (x : AHeap) => sHalf vs, r := Rs.tup [i64, i64] } [AV.int .u64 a2, AV.int .u64 b0] [AObj.row 24 4 [AV.int .u64 a0, AV.int .u64 a1, AV.int .u64 a2, AV.int .u64 a3], AObj.row 24 4 [AV.int .u64 b0, AV.int .u64 b1, AV.int .u64 b2, AV.int .u64 b3], AObj.row 24 4 [AV.int .u64 0, AV.int .u64 0, AV.int .u64 0, AV.int .u64 0], AObj.row 24 4 [AV.int .u64 0, AV.int .u64 0, AV.int .u64 0, AV.int .u64 0], AObj.row 106 8 [AV.int .u64 n_2, AV.int .u64 n_16, AV.int .u64 n_20, AV.int .u64 n_23, AV.int .u64 n_27, AV.int .u64 (IntKind.wrap .u64 (n_25 + n_28)), AV.int .u64 0, AV.int .u64 0]] = some (AV.tup [AV.int .u64 n, AV.int .u64 n_29]) ∧ ∃ (n_30 : Int), ∃ (n_31 : Int), TbE.s { f := 85, s := fun (vs : List AV) (x : AHeap) => sPlus vs, r := Rs.tup [i64, i64] } [AV.int .u64 n_20, AV.int .u64 n_29, AV.int .u64 0] [AObj.row 24 4 [AV.int .u64 a0, AV.int .u64 a1, AV.int .u64 a2, AV.int .u64 a3], AObj.row 24 4 [AV.int .u64 b0, AV.int .u64 b1, AV.int .u64 b2, AV.int .u64 b3], AObj.row 24 4 [AV.int .u64 0, AV.int .u64 0, AV.int .u64 0, AV.int .u64 0], AObj.row 24 4 [AV.int .u64 0, AV.int .u64 0, AV.int .u64 0, AV.int .u64 0], AObj.row 106 8 [AV.int .u64 n_2, AV.int .u64 n_16, AV.int .u64 n_20, AV.int .u64 n_23, AV.int .u64 n_27, AV.int .u64 (IntKind.wrap .u64 (n_25 + n_28)), AV.int .u64 0, AV.int .u64 0]] = some (AV.tup [AV.int .u64 n_30, AV.int .u64 n_31]) ∧ ∃ (n_32 : Int), ∃ (n_33 : Int), TbE.s { f := 84, s := fun (vs : List AV) (x : AHeap) => sHalf vs, r := Rs.tup [i64, i64] } [AV.int .u64 a2, AV.int .u64 b1] [AObj.row 24 4 [AV.int .u64 a0, AV.int .u64 a1, AV.int .u64 a2, AV.int .u64 a3], AObj.row 24 4 [AV.int .u64 b0, AV.int .u64 b1, AV.int .u64 b2, AV.int .u64 b3], AObj.row 24 4 [AV.int .u64 0, AV.int .u64 0, AV.int .u64 0, AV.int .u64 0], AObj.row 24 4 [AV.int .u64 0, AV.int .u64 0, AV.int .u64 0, AV.int .u64 0], AObj.row 106 8 [AV.int .u64 n_2, AV.int .u64 n_16, AV.int .u64 n_30, AV.int .u64 n_23, AV.int .u64 n_27, AV.int .u64 (IntKind.wrap .u64 (n_25 + n_28)), AV.int .u64 0, AV.int .u64 0]] = some (AV.tup [AV.int .u64 n_32, AV.int .u64 n_33]) ∧ ∃ (n_34 : Int), ∃ (n_35 : Int), TbE.s { f := 85, s := fun (vs : List AV) (x : AHeap) => sPlus vs, r := Rs.tup [i64, i64] } [AV.int .u64 n_23, AV.int .u64 n_33, AV.int .u64 (IntKind.wrap .u64 (n + n_31))] [AObj.row 24 4 [AV.int .u64 a0, AV.int .u64 a1, AV.int .u64 a2, AV.int .u64 a3], AObj.row 24 4 [AV.int .u64 b0, AV.int .u64 b1, AV.int .u64 b2, AV.int .u64 b3], AObj.row 24 4 [AV.int .u64 0, AV.int .u64 0, AV.int .u64 0, AV.int .u64 0], AObj.row 24 4 [AV.int .u64 0, AV.int .u64 0, AV.int .u64 0, AV.int .u64 0], AObj.row 106 8 [AV.int .u64 n_2, AV.int .u64 n_16, AV.int .u64 n_30, AV.int .u64 n_23, AV.int .u64 n_27, AV.int .u64 (IntKind.wrap .u64 (n_25 + n_28)), AV.int .u64 0, AV.int .u64 0]] = some (AV.tup [AV.int .u64 n_34, AV.int .u64 n_35]) ∧ ∃ (n : Int), ∃ (n_36 : Int), TbE.s { f := 84, s := fun (vs : List AV) (x : AHeap) => sHalf vs, r := Rs.tup [i64, i64] } [AV.int .u64 a2, AV.int .u64 b2] [AObj.row 24 4 [AV.int .u64 a0, AV.int .u64 a1, AV.int .u64 a2, AV.int .u64 a3], AObj.row 24 4 [AV.int .u64 b0, AV.int .u64 b1, AV.int .u64 b2, AV.int .u64 b3], AObj.row 24 4 [AV.int .u64 0, AV.int .u64 0, AV.int .u64 0, AV.int .u64 0], AObj.row 24 4 [AV.int .u64 0, AV.int .u64 0, AV.int .u64 0, AV.int .u64 0], AObj.row 106 8 [AV.int .u64 n_2, AV.int .u64 n_16, AV.int .u64 n_30, AV.int .u64 n_34, AV.int .u64 n_27, AV.int .u64 (IntKind.wrap .u64 (n_25 + n_28)), AV.int .u64 0, AV.int .u64 0]] = some (AV.tup [AV.int .u64 n, AV.int .u64 n_36]) ∧ ∃ (n_37 : Int), ∃ (n_38 : Int), TbE.s { f := 85, s := fun (vs : List AV) (x : AHeap) => sPlus vs, r := Rs.tup [i64, i64] } [AV.int .u64 n_27, AV.int .u64 n_36, AV.int .u64 (IntKind.wrap .u64 (n_32 + n_35))] [AObj.row 24 4 [AV.int .u64 a0, AV.int .u64 a1, AV.int .u64 a2, AV.int .u64 a3], AObj.row 24 4 [AV.int .u64 b0, AV.int .u64 b1, AV.int .u64 b2, AV.int .u64 b3], AObj.row 24 4 [AV.int .u64 0, AV.int .u64 0, AV.int .u64 0, AV.int .u64 0], AObj.row 24 4 [AV.int .u64 0, AV.int .u64 0, AV.int .u64 0, AV.int .u64 0], AObj.row 106 8 [AV.int .u64 n_2, AV.int .u64 n_16, AV.int .u64 n_30, AV.int .u64 n_34, AV.int .u64 n_27, AV.int .u64 (IntKind.wrap .u64 (n_25 + n_28)), AV.int .u64 0, AV.int .u64 0]] = some (AV.tup [AV.int .u64 n_37, AV.int .u64 n_38]) ∧ ∃ (n_39 : Int), ∃ (n_40 : Int), TbE.s { f := 84, s := fun (vs : List AV) (x : AHeap) => sHalf vs, r := Rs.tup [i64, i64] } [AV.int .u64 a2, AV.int .u64 b3] [AObj.row 24 4 [AV.int .u64 a0, AV.int .u64 a1, AV.int .u64 a2, AV.int .u64 a3], AObj.row 24 4 [AV.int .u64 b0, AV.int .u64 b1, AV.int .u64 b2, AV.int .u64 b3], AObj.row 24 4 [AV.int .u64 0, AV.int .u64 0, AV.int .u64 0, AV.int .u64 0], AObj.row 24 4 [AV.int .u64 0, AV.int .u64 0, AV.int .u64 0, AV.int .u64 0], AObj.row 106 8 [AV.int .u64 n_2, AV.int .u64 n_16, AV.int .u64 n_30, AV.int .u64 n_34, AV.int .u64 n_37, AV.int .u64 (IntKind.wrap .u64 (n_25 + n_28)), AV.int .u64 0, AV.int .u64 0]] = some (AV.tup [AV.int .u64 n_39, AV.int .u64 n_40]) ∧ ∃ (n_41 : Int), ∃ (n_42 : Int), TbE.s { f := 85, s := fun (vs : List AV) (x : AHeap) => sPlus vs, r := Rs.tup [i64, i64] } [AV.int .u64 (IntKind.wrap .u64 (n_25 + n_28)), AV.int .u64 n_40, AV.int .u64 (IntKind.wrap .u64 (n + n_38))] [AObj.row 24 4 [AV.int .u64 a0, AV.int .u64 a1, AV.int .u64 a2, AV.int .u64 a3], AObj.row 24 4 [AV.int .u64 b0, AV.int .u64 b1, AV.int .u64 b2, AV.int .u64 b3], AObj.row 24 4 [AV.int .u64 0, AV.int .u64 0, AV.int .u64 0, AV.int .u64 0], AObj.row 24 4 [AV.int .u64 0, AV.int .u64 0, AV.int .u64 0, AV.int .u64 0], AObj.row 106 8 [AV.int .u64 n_2, AV.int .u64 n_16, AV.int .u64 n_30, AV.int .u64 n_34, AV.int .u64 n_37, AV.int .u64 (IntKind.wrap .u64 (n_25 + n_28)), AV.int .u64 0, AV.int .u64 0]] = some (AV.tup [AV.int .u64 n_41, AV.int .u64 n_42]) ∧ ∃ (n : Int), ∃ (n_43 : Int), TbE.s { f := 84, s := fun (vs : List AV) (x : AHeap) => sHalf vs, r := Rs.tup [i64, i64] } [AV.int .u64 a3, AV.int .u64 b0] [AObj.row 24 4 [AV.int .u64 a0, AV.int .u64 a1, AV.int .u64 a2, AV.int .u64 a3], AObj.row 24 4 [AV.int .u64 b0, AV.int .u64 b1, AV.int .u64 b2, AV.int .u64 b3], AObj.row 24 4 [AV.int .u64 0, AV.int .u64 0, AV.int .u64 0, AV.int .u64 0], AObj.row 24 4 [AV.int .u64 0, AV.int .u64 0, AV.int .u64 0, AV.int .u64 0], AObj.row 106 8 [AV.int .u64 n_2, AV.int .u64 n_16, AV.int .u64 n_30, AV.int .u64 n_34, AV.int .u64 n_37, AV.int .u64 n_41, AV.int .u64 (IntKind.wrap .u64 (n_39 + n_42)), AV.int .u64 0]] = some (AV.tup [AV.int .u64 n, AV.int .u64 n_43]) ∧ ∃ (n_44 : Int), ∃ (n_45 : Int), TbE.s { f := 85, s := fun (vs : List AV) (x : AHeap) => sPlus vs, r := Rs.tup [i64, i64] } [AV.int .u64 n_34, AV.int .u64 n_43, AV.int .u64 0] [AObj.row 24 4 [AV.int .u64 a0, AV.int .u64 a1, AV.int .u64 a2, AV.int .u64 a3], AObj.row 24 4 [AV.int .u64 b0, AV.int .u64 b1, AV.int .u64 b2, AV.int .u64 b3], AObj.row 24 4 [AV.int .u64 0, AV.int .u64 0, AV.int .u64 0, AV.int .u64 0], AObj.row 24 4 [AV.int .u64 0, AV.int .u64 0, AV.int .u64 0, AV.int .u64 0], AObj.row 106 8 [AV.int .u64 n_2, AV.int .u64 n_16, AV.int .u64 n_30, AV.int .u64 n_34, AV.int .u64 n_37, AV.int .u64 n_41, AV.int .u64 (IntKind.wrap .u64 (n_39 + n_42)), AV.int .u64 0]] = some (AV.tup [AV.int .u64 n_44, AV.int .u64 n_45]) ∧ ∃ (n_46 : Int), ∃ (n_47 : Int), TbE.s { f := 84, s := fun (vs : List AV) (x : AHeap) => sHalf vs, r := Rs.tup [i64, i64] } [AV.int .u64 a3, AV.int .u64 b1] [AObj.row 24 4 [AV.int .u64 a0, AV.int .u64 a1, AV.int .u64 a2, AV.int .u64 a3], AObj.row 24 4 [AV.int .u64 b0, AV.int .u64 b1, AV.int .u64 b2, AV.int .u64 b3], AObj.row 24 4 [AV.int .u64 0, AV.int .u64 0, AV.int .u64 0, AV.int .u64 0], AObj.row 24 4 [AV.int .u64 0, AV.int .u64 0, AV.int .u64 0, AV.int .u64 0], AObj.row 106 8 [AV.int .u64 n_2, AV.int .u64 n_16, AV.int .u64 n_30, AV.int .u64 n_44, AV.int .u64 n_37, AV.int .u64 n_41, AV.int .u64 (IntKind.wrap .u64 (n_39 + n_42)), AV.int .u64 0]] = some (AV.tup [AV.int .u64 n_46, AV.int .u64 n_47]) ∧ ∃ (n_48 : Int), ∃ (n_49 : Int), TbE.s { f := 85, s := fun (vs : List AV) (x : AHeap) => sPlus vs, r := Rs.tup [i64, i64] } [AV.int .u64 n_37, AV.int .u64 n_47, AV.int .u64 (IntKind.wrap .u64 (n + n_45))] [AObj.row 24 4 [AV.int .u64 a0, AV.int .u64 a1, AV.int .u64 a2, AV.int .u64 a3], AObj.row 24 4 [AV.int .u64 b0, AV.int .u64 b1, AV.int .u64 b2, AV.int .u64 b3], AObj.row 24 4 [AV.int .u64 0, AV.int .u64 0, AV.int .u64 0, AV.int .u64 0], AObj.row 24 4 [AV.int .u64 0, AV.int .u64 0, AV.int .u64 0, AV.int .u64 0], AObj.row 106 8 [AV.int .u64 n_2, AV.int .u64 n_16, AV.int .u64 n_30, AV.int .u64 n_44, AV.int .u64 n_37, AV.int .u64 n_41, AV.int .u64 (IntKind.wrap .u64 (n_39 + n_42)), AV.int .u64 0]] = some (AV.tup [AV.int .u64 n_48, AV.int .u64 n_49]) ∧ ∃ (n : Int), ∃ (n_50 : Int), TbE.s { f := 84, s := fun (vs : List AV) (x : AHeap) => sHalf vs, r := Rs.tup [i64, i64] } [AV.int .u64 a3, AV.int .u64 b2] [AObj.row 24 4 [AV.int .u64 a0, AV.int .u64 a1, AV.int .u64 a2, AV.int .u64 a3], AObj.row 24 4 [AV.int .u64 b0, AV.int .u64 b1, AV.int .u64 b2, AV.int .u64 b3], AObj.row 24 4 [AV.int .u64 0, AV.int .u64 0, AV.int .u64 0, AV.int .u64 0], AObj.row 24 4 [AV.int .u64 0, AV.int .u64 0, AV.int .u64 0, AV.int .u64 0], AObj.row 106 8 [AV.int .u64 n_2, AV.int .u64 n_16, AV.int .u64 n_30, AV.int .u64 n_44, AV.int .u64 n_48, AV.int .u64 n_41, AV.int .u64 (IntKind.wrap .u64 (n_39 + n_42)), AV.int .u64 0]] = some (AV.tup [AV.int .u64 n, AV.int .u64 n_50]) ∧ ∃ (n_51 : Int), ∃ (n_52 : Int), TbE.s { f := 85, s := fun (vs : List AV) (x : AHeap) => sPlus vs, r := Rs.tup [i64, i64] } [AV.int .u64 n_41, AV.int .u64 n_50, AV.int .u64 (IntKind.wrap .u64 (n_46 + n_49))] [AObj.row 24 4 [AV.int .u64 a0, AV.int .u64 a1, AV.int .u64 a2, AV.int .u64 a3], AObj.row 24 4 [AV.int .u64 b0, AV.int .u64 b1, AV.int .u64 b2, AV.int .u64 b3], AObj.row 24 4 [AV.int .u64 0, AV.int .u64 0, AV.int .u64 0, AV.int .u64 0], AObj.row 24 4 [AV.int .u64 0, AV.int .u64 0, AV.int .u64 0, AV.int .u64 0], AObj.row 106 8 [AV.int .u64 n_2, AV.int .u64 n_16, AV.int .u64 n_30, AV.int .u64 n_44, AV.int .u64 n_48, AV.int .u64 n_41, AV.int .u64 (IntKind.wrap .u64 (n_39 + n_42)), AV.int .u64 0]] = some (AV.tup [AV.int .u64 n_51, AV.int .u64 n_52]) ∧ ∃ (n_53 : Int), ∃ (n_54 : Int), TbE.s { f := 84, s := fun (vs : List AV) (x : AHeap) => sHalf vs, r := Rs.tup [i64, i64] } [AV.int .u64 a3, AV.int .u64 b3] [AObj.row 24 4 [AV.int .u64 a0, AV.int .u64 a1, AV.int .u64 a2, AV.int .u64 a3], AObj.row 24 4 [AV.int .u64 b0, AV.int .u64 b1, AV.int .u64 b2, AV.int .u64 b3], AObj.row 24 4 [AV.int .u64 0, AV.int .u64 0, AV.int .u64 0, AV.int .u64 0], AObj.row 24 4 [AV.int .u64 0, AV.int .u64 0, AV.int .u64 0, AV.int .u64 0], AObj.row 106 8 [AV.int .u64 n_2, AV.int .u64 n_16, AV.int .u64 n_30, AV.int .u64 n_44, AV.int .u64 n_48, AV.int .u64 n_51, AV.int .u64 (IntKind.wrap .u64 (n_39 + n_42)), AV.int .u64 0]] = some (AV.tup [AV.int .u64 n_53, AV.int .u64 n_54]) ∧ ∃ (n_55 : Int), ∃ (n_56 : Int), TbE.s { f := 85, s := fun (vs : List AV) (x : AHeap) => sPlus vs, r := Rs.tup [i64, i64] } [AV.int .u64 (IntKind.wrap .u64 (n_39 + n_42)), AV.int .u64 n_54, AV.int .u64 (IntKind.wrap .u64 (n + n_52))] [AObj.row 24 4 [AV.int .u64 a0, AV.int .u64 a1, AV.int .u64 a2, AV.int .u64 a3], AObj.row 24 4 [AV.int .u64 b0, AV.int .u64 b1, AV.int .u64 b2, AV.int .u64 b3], AObj.row 24 4 [AV.int .u64 0, AV.int .u64 0, AV.int .u64 0, AV.int .u64 0], AObj.row 24 4 [AV.int .u64 0, AV.int .u64 0, AV.int .u64 0, AV.int .u64 0], AObj.row 106 8 [AV.int .u64 n_2, AV.int .u64 n_16, AV.int .u64 n_30, AV.int .u64 n_44, AV.int .u64 n_48, AV.int .u64 n_51, AV.int .u64 (IntKind.wrap .u64 (n_39 + n_42)), AV.int .u64 0]] = some (AV.tup [AV.int .u64 n_55, AV.int .u64 n_56]) ∧ R (AV.tup [AV.agg [AV.int .u64 n_48, AV.int .u64 n_51, AV.int .u64 n_55, AV.int .u64 (IntKind.wrap .u64 (n_53 + n_56))], AV.agg [AV.int .u64 n_2, AV.int .u64 n_16, AV.int .u64 n_30, AV.int .u64 n_44]]) [AObj.row 24 4 [AV.int .u64 a0, AV.int .u64 a1, AV.int .u64 a2, AV.int .u64 a3], AObj.row 24 4 [AV.int .u64 b0, AV.int .u64 b1, AV.int .u64 b2, AV.int .u64 b3], AObj.row 24 4 [AV.int .u64 n_48, AV.int .u64 n_51, AV.int .u64 n_55, AV.int .u64 (IntKind.wrap .u64 (n_53 + n_56))], AObj.row 24 4 [AV.int .u64 n_2, AV.int .u64 n_16, AV.int .u64 n_30, AV.int .u64 n_44], AObj.row 106 8 [AV.int .u64 n_2, AV.int .u64 n_16, AV.int .u64 n_30, AV.int .u64 n_44, AV.int .u64 n_48, AV.int .u64 n_51, AV.int .u64 n_55, AV.int .u64 (IntKind.wrap .u64 (n_53 + n_56))]]) = (wpF Tryd.prog CL 400 p66 [(.agg [.int .u64 a0, .int .u64 a1, .int .u64 a2, .int .u64 a3]), (.agg [.int .u64 b0, .int .u64 b1, .int .u64 b2, .int .u64 b3])] [] R) := by kernel_rfl
theorem and32 {x : Int} (h0 : 0 ≤ x) (h1 : x < 18446744073709551616) : IntKind.wrap .u64 (↑(BitVec.toNat (BitVec.ofInt (IntKind.bits .u64) x &&& BitVec.ofInt (IntKind.bits .u64) 4294967295)) : Int) = x % 4294967296 := by
  obtain ⟨n, rfl⟩ : ∃ n : Nat, x = n := ⟨x.toNat, by omega⟩
  have hb : (BitVec.toNat (BitVec.ofInt (IntKind.bits .u64) (n : Int) &&& BitVec.ofInt (IntKind.bits .u64) 4294967295)) = n % 4294967296 := by
    rw [BitVec.toNat_and]
    have e1 : (BitVec.ofInt (IntKind.bits .u64) (n : Int)).toNat = n := by
      show (BitVec.ofInt 64 (n : Int)).toNat = n
      rw [BitVec.toNat_ofInt]; omega
    have e2 : (BitVec.ofInt (IntKind.bits .u64) 4294967295).toNat = 2 ^ 32 - 1 := by rfl
    rw [e1, e2, Nat.and_two_pow_sub_one_eq_mod]
  rw [hb, IntKind.wrap_u64]; omega
theorem or32 {x y : Int} (h0 : 0 ≤ x) (h1 : x < 4294967296) (h2 : 0 ≤ y) (h3 : y < 4294967296) : IntKind.wrap .u64 (↑(BitVec.toNat (BitVec.ofInt (IntKind.bits .u64) (x * 4294967296) ||| BitVec.ofInt (IntKind.bits .u64) y)) : Int) = x * 4294967296 + y := by
  obtain ⟨n, rfl⟩ : ∃ n : Nat, x = n := ⟨x.toNat, by omega⟩
  obtain ⟨m, rfl⟩ : ∃ m : Nat, y = m := ⟨y.toNat, by omega⟩
  have hb : (BitVec.toNat (BitVec.ofInt (IntKind.bits .u64) ((n : Int) * 4294967296) ||| BitVec.ofInt (IntKind.bits .u64) (m : Int))) = 2 ^ 32 * n + m := by
    rw [BitVec.toNat_or]
    have e1 : (BitVec.ofInt (IntKind.bits .u64) ((n : Int) * 4294967296)).toNat = 2 ^ 32 * n := by
      show (BitVec.ofInt 64 ((n : Int) * 4294967296)).toNat = 2 ^ 32 * n
      rw [BitVec.toNat_ofInt]; omega
    have e2 : (BitVec.ofInt (IntKind.bits .u64) (m : Int)).toNat = m := by
      show (BitVec.ofInt 64 (m : Int)).toNat = m
      rw [BitVec.toNat_ofInt]; omega
    rw [e1, e2, Nat.two_pow_add_eq_or_of_lt (by omega)]
  rw [hb, IntKind.wrap_u64]; omega
theorem half_ok : QuietOK Tryd.prog 84 fun vs _ => sHalf vs := quiet_plain ht77 fun args v h => by
  unfold sHalf at h
  split at h
  · rename_i a b
    split at h
    · rename_i hc
      cases h
      simp only [u64B, Bool.and_eq_true, decide_eq_true_eq] at hc
      obtain ⟨⟨ha, ha2⟩, hb, hb2⟩ := hc
      refine ⟨rfl, rfl, ?_⟩
      have hS : (tbS Q []).OK Tryd.prog := tbS_ok quietText (by simp)
      obtain ⟨u, h', rfl, hsem⟩ := sem_vc mixed (C := CL0) hS (tbS_q _ _) (tbW_ok rfl) ht77 c77 (no_parts rfl) (v77 a b fun u _ => u = .tup [.int .u64 (a * b / 18446744073709551616), .int .u64 (a * b % 18446744073709551616)]) (by
        simp only [fdiv32]
        rw [and32 ha ha2, and32 hb hb2]
        have hab : a * b = (a / 4294967296) * (b / 4294967296) * 18446744073709551616 + ((a / 4294967296) * (b % 4294967296) + (a % 4294967296) * (b / 4294967296)) * 4294967296 + (a % 4294967296) * (b % 4294967296) := by
          have hx : a = (a / 4294967296) * 4294967296 + a % 4294967296 := by omega
          have hy : b = (b / 4294967296) * 4294967296 + b % 4294967296 := by omega
          generalize a / 4294967296 = a1 at hx ⊢
          generalize a % 4294967296 = a0 at hx ⊢
          generalize b / 4294967296 = b1 at hy ⊢
          generalize b % 4294967296 = b0 at hy ⊢
          subst hx hy
          simp only [Int.add_mul, Int.mul_add]
          have q1 : a1 * 4294967296 * (b1 * 4294967296) = a1 * b1 * 18446744073709551616 := by
            rw [Int.mul_assoc, Int.mul_left_comm 4294967296 b1, ← Int.mul_assoc]; rfl
          have q2 : a0 * (b1 * 4294967296) = a0 * b1 * 4294967296 := by rw [← Int.mul_assoc]
          have q3 : a1 * 4294967296 * b0 = a1 * b0 * 4294967296 := by rw [Int.mul_assoc, Int.mul_comm 4294967296 b0, ← Int.mul_assoc]
          rw [q1, q2, q3]
          omega
        rw [hab]
        obtain ⟨p11, p11'⟩ := mul_bd (a := a / 4294967296) (b := b / 4294967296) (by omega) (by omega) (by omega) (by omega)
        obtain ⟨p10, p10'⟩ := mul_bd (a := a / 4294967296) (b := b % 4294967296) (by omega) (by omega) (by omega) (by omega)
        obtain ⟨p01, p01'⟩ := mul_bd (a := a % 4294967296) (b := b / 4294967296) (by omega) (by omega) (by omega) (by omega)
        obtain ⟨p00, p00'⟩ := mul_bd (a := a % 4294967296) (b := b % 4294967296) (by omega) (by omega) (by omega) (by omega)
        generalize (a / 4294967296) * (b / 4294967296) = P11 at p11 p11' ⊢
        generalize (a / 4294967296) * (b % 4294967296) = P10 at p10 p10' ⊢
        generalize (a % 4294967296) * (b / 4294967296) = P01 at p01 p01' ⊢
        generalize (a % 4294967296) * (b % 4294967296) = P00 at p00 p00' ⊢
        clear hab
        rw [wrap64 (x := P11) (by omega) (by omega), wrap64 (x := P10) (by omega) (by omega), wrap64 (x := P01) (by omega) (by omega), wrap64 (x := P00) (by omega) (by omega)]
        rw [wrap64 (x := P10 + P00 / 4294967296) (by omega) (by omega)]
        rw [and32 (x := P10 + P00 / 4294967296) (by omega) (by omega), and32 (x := P00) (by omega) (by omega)]
        rw [wrap64 (x := P01 + (P10 + P00 / 4294967296) % 4294967296) (by omega) (by omega)]
        generalize hM : P01 + (P10 + P00 / 4294967296) % 4294967296 = Mo
        have hM2 : 0 ≤ Mo ∧ Mo < 18446744073709551616 := by omega
        have e2 : (2 : Int) ^ min 32 (IntKind.bits .u64) = 4294967296 := rfl
        rw [e2]
        have hsh : IntKind.wrap .u64 (Mo * 4294967296) = (Mo % 4294967296) * 4294967296 := by rw [IntKind.wrap_u64]; omega
        rw [hsh, or32 (x := Mo % 4294967296) (y := P00 % 4294967296) (by omega) (by omega) (by omega) (by omega)]
        rw [wrap64 (x := P11 + (P10 + P00 / 4294967296) / 4294967296) (by omega) (by omega)]
        rw [wrap64 (x := P11 + (P10 + P00 / 4294967296) / 4294967296 + Mo / 4294967296) (by omega) (by omega)]
        have r1 : P11 + (P10 + P00 / 4294967296) / 4294967296 + Mo / 4294967296 = (P11 * 18446744073709551616 + (P10 + P01) * 4294967296 + P00) / 18446744073709551616 := by omega
        have r2 : Mo % 4294967296 * 4294967296 + P00 % 4294967296 = (P11 * 18446744073709551616 + (P10 + P01) * 4294967296 + P00) % 18446744073709551616 := by omega
        rw [r1, r2])
      exact ⟨h', hsem⟩
    · cases h
  · cases h
theorem plus_ok : QuietOK Tryd.prog 85 fun vs _ => sPlus vs := quiet_plain ht78 fun args v h => by
  unfold sPlus at h
  split at h
  · rename_i a b c
    split at h
    · rename_i hc
      cases h
      simp only [u64B, Bool.and_eq_true, decide_eq_true_eq] at hc
      obtain ⟨⟨⟨ha, ha2⟩, hb, hb2⟩, hd, hd2⟩ := hc
      refine ⟨rfl, rfl, ?_⟩
      have hS : (tbS Q []).OK Tryd.prog := tbS_ok quietText (by simp)
      obtain ⟨u, h', rfl, hsem⟩ := sem_vc mixed (C := CL0) hS (tbS_q _ _) (tbW_ok rfl) ht78 c78 (no_parts rfl) (v78 a b c fun u _ => u = .tup [.int .u64 ((a + b + c) % 18446744073709551616), .int .u64 ((a + b + c) / 18446744073709551616)]) (by
        simp only [IntKind.wrap_u64]
        refine askI (fun h1 => askI (fun h2 => ?_) fun h2 => ?_) fun h1 => askI (fun h2 => ?_) fun h2 => ?_
        all_goals
          simp only [decide_eq_true_eq, decide_eq_false_iff_not] at h1 h2
        · rw [show ((a + b) % 18446744073709551616 + c) % 18446744073709551616 = (a + b + c) % 18446744073709551616 by omega, show (2 : Int) = (a + b + c) / 18446744073709551616 by omega]
        · rw [show ((a + b) % 18446744073709551616 + c) % 18446744073709551616 = (a + b + c) % 18446744073709551616 by omega, show (1 : Int) = (a + b + c) / 18446744073709551616 by omega]
        · rw [show ((a + b) % 18446744073709551616 + c) % 18446744073709551616 = (a + b + c) % 18446744073709551616 by omega, show (1 : Int) = (a + b + c) / 18446744073709551616 by omega]
        · rw [show ((a + b) % 18446744073709551616 + c) % 18446744073709551616 = (a + b + c) % 18446744073709551616 by omega, show (0 : Int) = (a + b + c) / 18446744073709551616 by omega])
      exact ⟨h', hsem⟩
    · cases h
  · cases h
theorem from_ok : QuietOK Tryd.prog 63 fun vs _ => sFrom vs := quiet_plain ht67 fun args v h => by
  unfold sFrom at h
  split at h <;> cases h
  rename_i a
  refine ⟨rfl, rfl, ?_⟩
  have hS : (tbS Q []).OK Tryd.prog := tbS_ok quietText (by simp)
  obtain ⟨u, h', rfl, hsem⟩ := sem_vc mixed (C := CL0) hS (tbS_q _ _) (tbW_ok rfl) ht67 c67 (no_parts rfl) (v67 a fun u _ => u = .agg [.int .u64 a, .int .u64 0, .int .u64 0, .int .u64 0]) rfl
  exact ⟨h', hsem⟩
theorem plus_ex {a b c : Int} (ha : 0 ≤ a) (ha2 : a < 18446744073709551616) (hb : 0 ≤ b) (hb2 : b < 18446744073709551616) (hc : 0 ≤ c) (hc2 : c < 18446744073709551616) : ∃ t v, sPlus [.int .u64 a, .int .u64 b, .int .u64 c] = some (.tup [.int .u64 t, .int .u64 v]) ∧ t + 18446744073709551616 * v = a + b + c ∧ 0 ≤ t ∧ t < 18446744073709551616 ∧ 0 ≤ v ∧ v ≤ 2 :=
  ⟨_, _, if_pos (by simp only [u64B, Bool.and_eq_true, decide_eq_true_eq]; exact ⟨⟨⟨ha, ha2⟩, hb, hb2⟩, hc, hc2⟩), by omega, by omega, by omega, by omega, by omega⟩
theorem mul_bd64 {a b : Int} (ha : 0 ≤ a) (ha2 : a < 18446744073709551616) (hb : 0 ≤ b) (hb2 : b < 18446744073709551616) : 0 ≤ a * b ∧ a * b ≤ 340282366920938463426481119284349108225 := by
  refine ⟨Int.mul_nonneg ha hb, ?_⟩
  calc a * b ≤ 18446744073709551615 * 18446744073709551615 := Int.mul_le_mul (by omega) (by omega) hb (by decide)
    _ = 340282366920938463426481119284349108225 := by decide
theorem half_ex {a b : Int} (ha : 0 ≤ a) (ha2 : a < 18446744073709551616) (hb : 0 ≤ b) (hb2 : b < 18446744073709551616) : ∃ h l, sHalf [.int .u64 a, .int .u64 b] = some (.tup [.int .u64 h, .int .u64 l]) ∧ l + 18446744073709551616 * h = a * b ∧ 0 ≤ l ∧ l < 18446744073709551616 ∧ 0 ≤ h ∧ h < 18446744073709551616 := by
  obtain ⟨h1, h2⟩ := mul_bd64 ha ha2 hb hb2
  exact ⟨_, _, if_pos (by simp only [u64B, Bool.and_eq_true, decide_eq_true_eq]; exact ⟨⟨ha, ha2⟩, hb, hb2⟩), by omega, by omega, by omega, by omega, by omega⟩
theorem mac {l a b c : Int} (hl : 0 ≤ l) (hl2 : l < 18446744073709551616) (ha : 0 ≤ a) (ha2 : a < 18446744073709551616) (hb : 0 ≤ b) (hb2 : b < 18446744073709551616) (hc : 0 ≤ c) (hc2 : c < 18446744073709551616) :
    ∃ h o t v c', sHalf [.int .u64 a, .int .u64 b] = some (.tup [.int .u64 h, .int .u64 o]) ∧ sPlus [.int .u64 l, .int .u64 o, .int .u64 c] = some (.tup [.int .u64 t, .int .u64 v]) ∧ IntKind.wrap .u64 (h + v) = c' ∧ t + 18446744073709551616 * c' = l + a * b + c ∧ 0 ≤ t ∧ t < 18446744073709551616 ∧ 0 ≤ c' ∧ c' < 18446744073709551616 := by
  obtain ⟨p1, p2⟩ := mul_bd64 ha ha2 hb hb2
  obtain ⟨h, o, e1, e2, e3, e4, e5, e6⟩ := half_ex ha ha2 hb hb2
  obtain ⟨t, v, f1, f2, f3, f4, f5, f6⟩ := plus_ex hl hl2 e3 e4 hc hc2
  refine ⟨h, o, t, v, h + v, e1, f1, ?_, by omega, f3, f4, by omega, by omega⟩
  rw [IntKind.wrap_u64]; omega
theorem tbL_ok : (tbS Q tbL).OK Tryd.prog := tbS_ok quietText (by
  intro x hx
  simp only [tbL, List.mem_cons, List.not_mem_nil, or_false] at hx
  rcases hx with rfl | rfl
  · exact half_ok
  · exact plus_ok)
theorem add_ok : QuietOK Tryd.prog 64 fun vs _ => sAdd vs := quiet_plain ht68 fun args v h => by
  unfold sAdd at h
  split at h
  · rename_i a0 a1 a2 a3 b0 b1 b2 b3
    split at h
    · rename_i hc
      cases h
      simp only [u64s, u64B, Bool.and_eq_true, decide_eq_true_eq] at hc
      obtain ⟨⟨⟨⟨⟨p0, q0⟩, p1, q1⟩, p2, q2⟩, p3, q3⟩, ⟨⟨⟨r0, s0⟩, r1, s1⟩, r2, s2⟩, r3, s3⟩ := hc
      refine ⟨rfl, rfl, ?_⟩
      obtain ⟨u, h', rfl, hsem⟩ := sem_vc mixed (C := CL) tbL_ok (tbS_q _ _) (tbW_ok rfl) ht68 c68 (one_part rfl (by intro T st K hT; cases hT)) (v68 a0 a1 a2 a3 b0 b1 b2 b3 fun u _ => u = .tup [.agg (limbs (num4 a0 a1 a2 a3 + num4 b0 b1 b2 b3)), .bool (decide (num4 a0 a1 a2 a3 + num4 b0 b1 b2 b3 ≥ 115792089237316195423570985008687907853269984665640564039457584007913129639936))]) (by
        obtain ⟨t0, v0, e0, f0, g0, i0, j0, k0⟩ := plus_ex p0 q0 r0 s0 (c := 0) (by omega) (by omega)
        obtain ⟨t1, v1, e1, f1, g1, i1, j1, k1⟩ := plus_ex p1 q1 r1 s1 (c := v0) (by omega) (by omega)
        obtain ⟨t2, v2, e2, f2, g2, i2, j2, k2⟩ := plus_ex p2 q2 r2 s2 (c := v1) (by omega) (by omega)
        obtain ⟨t3, v3, e3, f3, g3, i3, j3, k3⟩ := plus_ex p3 q3 r3 s3 (c := v2) (by omega) (by omega)
        have hS : num4 a0 a1 a2 a3 + num4 b0 b1 b2 b3 = t0 + 18446744073709551616 * (t1 + 18446744073709551616 * (t2 + 18446744073709551616 * (t3 + 18446744073709551616 * v3))) := by unfold num4; omega
        refine ⟨t0, v0, e0, t1, v1, e1, t2, v2, e2, t3, v3, e3, askI (fun h => ?_) fun h => ?_⟩
        · rw [hS, limbs_of g0 i0 g1 i1 g2 i2 g3 i3, decide_eq_true (by simp only [decide_eq_true_eq] at h; omega)]
        · rw [hS, limbs_of g0 i0 g1 i1 g2 i2 g3 i3, decide_eq_false (by simp only [decide_eq_false_iff_not] at h; omega)])
      exact ⟨h', hsem⟩
    · cases h
  · cases h
theorem num4_mul (a0 a1 a2 a3 b0 b1 b2 b3 : Int) : num4 a0 a1 a2 a3 * num4 b0 b1 b2 b3 =
    (a0 * b0 + 18446744073709551616 * (a0 * b1 + 18446744073709551616 * (a0 * b2 + 18446744073709551616 * (a0 * b3)))) + 18446744073709551616 * ((a1 * b0 + 18446744073709551616 * (a1 * b1 + 18446744073709551616 * (a1 * b2 + 18446744073709551616 * (a1 * b3)))) + 18446744073709551616 * ((a2 * b0 + 18446744073709551616 * (a2 * b1 + 18446744073709551616 * (a2 * b2 + 18446744073709551616 * (a2 * b3)))) + 18446744073709551616 * (a3 * b0 + 18446744073709551616 * (a3 * b1 + 18446744073709551616 * (a3 * b2 + 18446744073709551616 * (a3 * b3)))))) := by
  have d : ∀ a x y : Int, a * (x + 18446744073709551616 * y) = a * x + 18446744073709551616 * (a * y) := fun a x y => by rw [Int.mul_add, Int.mul_left_comm]
  have d2 : ∀ x y Y : Int, (x + 18446744073709551616 * y) * Y = x * Y + 18446744073709551616 * (y * Y) := fun x y Y => by rw [Int.add_mul, Int.mul_assoc]
  have row : ∀ a : Int, a * num4 b0 b1 b2 b3 = a * b0 + 18446744073709551616 * (a * b1 + 18446744073709551616 * (a * b2 + 18446744073709551616 * (a * b3))) := fun a => by
    unfold num4
    rw [d a, d a, d a]
  have : num4 a0 a1 a2 a3 * num4 b0 b1 b2 b3 = a0 * num4 b0 b1 b2 b3 + 18446744073709551616 * (a1 * num4 b0 b1 b2 b3 + 18446744073709551616 * (a2 * num4 b0 b1 b2 b3 + 18446744073709551616 * (a3 * num4 b0 b1 b2 b3))) := by
    generalize num4 b0 b1 b2 b3 = Y
    unfold num4
    rw [d2, d2, d2]
  rw [this, row, row, row, row]
theorem mul_vc {a0 a1 a2 a3 b0 b1 b2 b3 : Int} (p0 : 0 ≤ a0) (q0 : a0 < 18446744073709551616) (p1 : 0 ≤ a1) (q1 : a1 < 18446744073709551616) (p2 : 0 ≤ a2) (q2 : a2 < 18446744073709551616) (p3 : 0 ≤ a3) (q3 : a3 < 18446744073709551616) (r0 : 0 ≤ b0) (s0 : b0 < 18446744073709551616) (r1 : 0 ≤ b1) (s1 : b1 < 18446744073709551616) (r2 : 0 ≤ b2) (s2 : b2 < 18446744073709551616) (r3 : 0 ≤ b3) (s3 : b3 < 18446744073709551616) :
    ∃ h', CallSem Tryd.prog 62 [.agg [.int .u64 a0, .int .u64 a1, .int .u64 a2, .int .u64 a3], .agg [.int .u64 b0, .int .u64 b1, .int .u64 b2, .int .u64 b3]] [] (.tup [.agg (limbs (num4 a0 a1 a2 a3 * num4 b0 b1 b2 b3 / 115792089237316195423570985008687907853269984665640564039457584007913129639936)), .agg (limbs (num4 a0 a1 a2 a3 * num4 b0 b1 b2 b3))]) h' := by
  obtain ⟨u, h', rfl, hsem⟩ := sem_vc mixed (C := CL) tbL_ok (tbS_q _ _) (tbW_ok rfl) ht66 c66 (fun x _ => part_none (fun _ => rfl) (fun _ => rfl) x) (v66 a0 a1 a2 a3 b0 b1 b2 b3 fun u _ => u = .tup [.agg (limbs (num4 a0 a1 a2 a3 * num4 b0 b1 b2 b3 / 115792089237316195423570985008687907853269984665640564039457584007913129639936)), .agg (limbs (num4 a0 a1 a2 a3 * num4 b0 b1 b2 b3))]) (by
        obtain ⟨h00, o00, t00, v00, c00, e00, f00, w00, m00, x00, y00, z00, u00⟩ := mac (l := 0) (by omega) (by omega) p0 q0 r0 s0 (c := 0) (by omega) (by omega)
        obtain ⟨h01, o01, t01, v01, c01, e01, f01, w01, m01, x01, y01, z01, u01⟩ := mac (l := 0) (by omega) (by omega) p0 q0 r1 s1 (c := c00) z00 u00
        obtain ⟨h02, o02, t02, v02, c02, e02, f02, w02, m02, x02, y02, z02, u02⟩ := mac (l := 0) (by omega) (by omega) p0 q0 r2 s2 (c := c01) z01 u01
        obtain ⟨h03, o03, t03, v03, c03, e03, f03, w03, m03, x03, y03, z03, u03⟩ := mac (l := 0) (by omega) (by omega) p0 q0 r3 s3 (c := c02) z02 u02
        obtain ⟨h10, o10, t10, v10, c10, e10, f10, w10, m10, x10, y10, z10, u10⟩ := mac (l := t01) x01 y01 p1 q1 r0 s0 (c := 0) (by omega) (by omega)
        obtain ⟨h11, o11, t11, v11, c11, e11, f11, w11, m11, x11, y11, z11, u11⟩ := mac (l := t02) x02 y02 p1 q1 r1 s1 (c := c10) z10 u10
        obtain ⟨h12, o12, t12, v12, c12, e12, f12, w12, m12, x12, y12, z12, u12⟩ := mac (l := t03) x03 y03 p1 q1 r2 s2 (c := c11) z11 u11
        obtain ⟨h13, o13, t13, v13, c13, e13, f13, w13, m13, x13, y13, z13, u13⟩ := mac (l := c03) z03 u03 p1 q1 r3 s3 (c := c12) z12 u12
        obtain ⟨h20, o20, t20, v20, c20, e20, f20, w20, m20, x20, y20, z20, u20⟩ := mac (l := t11) x11 y11 p2 q2 r0 s0 (c := 0) (by omega) (by omega)
        obtain ⟨h21, o21, t21, v21, c21, e21, f21, w21, m21, x21, y21, z21, u21⟩ := mac (l := t12) x12 y12 p2 q2 r1 s1 (c := c20) z20 u20
        obtain ⟨h22, o22, t22, v22, c22, e22, f22, w22, m22, x22, y22, z22, u22⟩ := mac (l := t13) x13 y13 p2 q2 r2 s2 (c := c21) z21 u21
        obtain ⟨h23, o23, t23, v23, c23, e23, f23, w23, m23, x23, y23, z23, u23⟩ := mac (l := c13) z13 u13 p2 q2 r3 s3 (c := c22) z22 u22
        obtain ⟨h30, o30, t30, v30, c30, e30, f30, w30, m30, x30, y30, z30, u30⟩ := mac (l := t21) x21 y21 p3 q3 r0 s0 (c := 0) (by omega) (by omega)
        obtain ⟨h31, o31, t31, v31, c31, e31, f31, w31, m31, x31, y31, z31, u31⟩ := mac (l := t22) x22 y22 p3 q3 r1 s1 (c := c30) z30 u30
        obtain ⟨h32, o32, t32, v32, c32, e32, f32, w32, m32, x32, y32, z32, u32⟩ := mac (l := t23) x23 y23 p3 q3 r2 s2 (c := c31) z31 u31
        obtain ⟨h33, o33, t33, v33, c33, e33, f33, w33, m33, x33, y33, z33, u33⟩ := mac (l := c23) z23 u23 p3 q3 r3 s3 (c := c32) z32 u32
        refine ⟨h00, o00, e00, t00, v00, f00, ?_⟩
        rw [w00]
        refine ⟨h01, o01, e01, t01, v01, f01, ?_⟩
        rw [w01]
        refine ⟨h02, o02, e02, t02, v02, f02, ?_⟩
        rw [w02]
        refine ⟨h03, o03, e03, t03, v03, f03, ?_⟩
        rw [w03]
        refine ⟨h10, o10, e10, t10, v10, f10, ?_⟩
        rw [w10]
        refine ⟨h11, o11, e11, t11, v11, f11, ?_⟩
        rw [w11]
        refine ⟨h12, o12, e12, t12, v12, f12, ?_⟩
        rw [w12]
        refine ⟨h13, o13, e13, t13, v13, f13, ?_⟩
        rw [w13]
        refine ⟨h20, o20, e20, t20, v20, f20, ?_⟩
        rw [w20]
        refine ⟨h21, o21, e21, t21, v21, f21, ?_⟩
        rw [w21]
        refine ⟨h22, o22, e22, t22, v22, f22, ?_⟩
        rw [w22]
        refine ⟨h23, o23, e23, t23, v23, f23, ?_⟩
        rw [w23]
        refine ⟨h30, o30, e30, t30, v30, f30, ?_⟩
        rw [w30]
        refine ⟨h31, o31, e31, t31, v31, f31, ?_⟩
        rw [w31]
        refine ⟨h32, o32, e32, t32, v32, f32, ?_⟩
        rw [w32]
        refine ⟨h33, o33, e33, t33, v33, f33, ?_⟩
        rw [w33]
        have row0 : t00 + 18446744073709551616 * (t01 + 18446744073709551616 * (t02 + 18446744073709551616 * (t03 + 18446744073709551616 * c03))) = (0 + 18446744073709551616 * (0 + 18446744073709551616 * (0 + 18446744073709551616 * 0))) + (a0 * b0 + 18446744073709551616 * (a0 * b1 + 18446744073709551616 * (a0 * b2 + 18446744073709551616 * (a0 * b3)))) := by omega
        have row1 : t10 + 18446744073709551616 * (t11 + 18446744073709551616 * (t12 + 18446744073709551616 * (t13 + 18446744073709551616 * c13))) = (t01 + 18446744073709551616 * (t02 + 18446744073709551616 * (t03 + 18446744073709551616 * c03))) + (a1 * b0 + 18446744073709551616 * (a1 * b1 + 18446744073709551616 * (a1 * b2 + 18446744073709551616 * (a1 * b3)))) := by omega
        have row2 : t20 + 18446744073709551616 * (t21 + 18446744073709551616 * (t22 + 18446744073709551616 * (t23 + 18446744073709551616 * c23))) = (t11 + 18446744073709551616 * (t12 + 18446744073709551616 * (t13 + 18446744073709551616 * c13))) + (a2 * b0 + 18446744073709551616 * (a2 * b1 + 18446744073709551616 * (a2 * b2 + 18446744073709551616 * (a2 * b3)))) := by omega
        have row3 : t30 + 18446744073709551616 * (t31 + 18446744073709551616 * (t32 + 18446744073709551616 * (t33 + 18446744073709551616 * c33))) = (t21 + 18446744073709551616 * (t22 + 18446744073709551616 * (t23 + 18446744073709551616 * c23))) + (a3 * b0 + 18446744073709551616 * (a3 * b1 + 18446744073709551616 * (a3 * b2 + 18446744073709551616 * (a3 * b3)))) := by omega
        have hP : num4 a0 a1 a2 a3 * num4 b0 b1 b2 b3 = t00 + 18446744073709551616 * (t10 + 18446744073709551616 * (t20 + 18446744073709551616 * (t30 + 18446744073709551616 * (t31 + 18446744073709551616 * (t32 + 18446744073709551616 * (t33 + 18446744073709551616 * (c33 + 18446744073709551616 * 0))))))) := by
          rw [num4_mul]; omega
        have hD : num4 a0 a1 a2 a3 * num4 b0 b1 b2 b3 / 115792089237316195423570985008687907853269984665640564039457584007913129639936 = t31 + 18446744073709551616 * (t32 + 18446744073709551616 * (t33 + 18446744073709551616 * (c33 + 18446744073709551616 * 0))) := by
          rw [hP]; omega
        rw [hD, limbs_of x31 y31 x32 y32 x33 y33 z33 u33, hP, limbs_of x00 y00 x10 y10 x20 y20 x30 y30])
  exact ⟨h', hsem⟩
theorem mul_ok : QuietOK Tryd.prog 62 fun vs _ => sMul vs := quiet_plain ht66 fun args v h => by
  unfold sMul at h
  split at h
  · rename_i a0 a1 a2 a3 b0 b1 b2 b3
    split at h
    · rename_i hc
      cases h
      simp only [u64s, u64B, Bool.and_eq_true, decide_eq_true_eq] at hc
      obtain ⟨⟨⟨⟨⟨p0, q0⟩, p1, q1⟩, p2, q2⟩, p3, q3⟩, ⟨⟨⟨r0, s0⟩, r1, s1⟩, r2, s2⟩, r3, s3⟩ := hc
      exact ⟨rfl, rfl, mul_vc p0 q0 p1 q1 p2 q2 p3 q3 r0 s0 r1 s1 r2 s2 r3 s3⟩
    · cases h
  · cases h
def tbP53 : List TbE := [⟨63, fun vs _ => sFrom vs, .of ag4⟩, ⟨62, fun vs _ => sMul vs, .tup [ag4, ag4]⟩, ⟨64, fun vs _ => sAdd vs, .tup [ag4, .one .bool]⟩]
def g53a (s : List UInt8) (i : Int) : St := (envOf 73 [(0, .str s), (2, .ptr (some (0, 0))), (3, .int .i64 0), (27, .sl (some (1, 0)) s.length (.rel 0)), (28, .int .i64 s.length), (29, .int .i64 i)], [zr, .ro (bv s)])
def t53a : Tidy := ⟨dropT 73 [0, 2, 3, 27, 28, 29], .rows [0, 1]⟩
def x53a : Tidy := ⟨dropT 73 [0, 2, 3], .rows [0]⟩
def r53 : Tidy := ⟨dropT 73 [2, 3], .rows [0]⟩
def e53a (s : List UInt8) : St := (envOf 73 [(0, .str s), (2, .ptr (some (0, 0))), (3, .int .i64 0)], [zr])
def b53 (e : Int) : St := (envOf 73 [(2, .ptr (some (0, 0))), (3, .int .i64 e)], [zr])
def g53b (s : List UInt8) (v : Int) (i : Int) : St := (envOf 73 [(2, .ptr (some (0, 0))), (3, .int .i64 0), (6, .ptr (some (1, 0))), (42, .sl (some (2, 0)) s.length (.rel 0)), (43, .int .i64 s.length), (44, .int .i64 i)], [zr, .row 24 4 (limbs v), .ro (bv s)])
def t53b : Tidy := ⟨dropT 73 [2, 3, 6, 42, 43, 44], .rows [0, 1, 2]⟩
def x53b : Tidy := ⟨dropT 73 [2, 3, 6], .rows [0, 1]⟩
def e53b (v : Int) : St := (envOf 73 [(2, .ptr (some (0, 0))), (3, .int .i64 0), (6, .ptr (some (1, 0)))], [zr, .row 24 4 (limbs v)])
def C53a : Cfg := tbC Q tbP53 (fun k => k == 1) kd53
def C53b : Cfg := tbC Q tbP53 (fun k => k == 2) kd53
def C53 (s : List UInt8) : Cfg := { tbC Q tbP53 (fun k => k == 1 || k == 2) kd53 with
  lw := fun id => if id = 4 then some fun st K => st = g53a s 0 ∧ askB (allD s) (K (.exit 0) (e53a s)) (K .ret (b53 10))
    else if id = 11 then some fun st K => st = g53b s 0 0 ∧ allD s = true ∧ askB (foldD 0 s).isSome (K (.exit 2) (e53b ((foldD 0 s).getD 0))) (K .ret (b53 7)) else none
  F := fun id => if id = 4 then t53a else if id = 11 then t53b else ⟨[], .all⟩ }
-- the document's Parse
theorem v53a (s : List UInt8) (i : Nat) (K : AExit → St → Prop) : (askB (decide ((↑i : Int) < (↑(List.length s) : Int))) (chkW (decide ((↑i : Int) < (↑(List.length s) : Int))) (∃ (n : Int), (Option.bind (cellsAt [AObj.row 24 4 [AV.int .u64 0, AV.int .u64 0, AV.int .u64 0, AV.int .u64 0], AObj.ro (bv s)] 1) fun (x : List AV) => partR none x (0 + i * 1)) = some (AV.int .u8 n) ∧ askB (decide (n < 48)) (chkW (objClosed (AObj.ro (bv s))) (K AExit.ret (envOf 73 [(2, AV.ptr (some (0, 0))), (3, AV.int .i64 10)], [AObj.row 24 4 [AV.int .u64 0, AV.int .u64 0, AV.int .u64 0, AV.int .u64 0]]))) (askB (decide (n > 57)) (chkW (objClosed (AObj.ro (bv s))) (K AExit.ret (envOf 73 [(2, AV.ptr (some (0, 0))), (3, AV.int .i64 10)], [AObj.row 24 4 [AV.int .u64 0, AV.int .u64 0, AV.int .u64 0, AV.int .u64 0]]))) (chkW (objClosed (AObj.ro (bv s))) (K AExit.normal (envOf 73 [(0, AV.str s), (2, AV.ptr (some (0, 0))), (3, AV.int .i64 0), (27, AV.sl (some (1, 0)) (List.length s) (ACap.rel 0)), (28, AV.int .i64 (↑(List.length s) : Int)), (29, AV.int .i64 (IntKind.wrap .i64 ((↑i : Int) + 1)))], [AObj.row 24 4 [AV.int .u64 0, AV.int .u64 0, AV.int .u64 0, AV.int .u64 0], AObj.ro (bv s)])))))) (chkW (objClosed (AObj.ro (bv s))) (K (AExit.exit 0) (envOf 73 [(0, AV.str s), (2, AV.ptr (some (0, 0))), (3, AV.int .i64 0)], [AObj.row 24 4 [AV.int .u64 0, AV.int .u64 0, AV.int .u64 0, AV.int .u64 0]])))) = (wpP Tryd.prog C53a 60 (.inl p53_l1) (g53a s i) (postX C53a t53a x53a r53 K)) := by kernel_rfl
theorem v53b (s : List UInt8) (v : Int) (i : Nat) (K : AExit → St → Prop) : (askB (decide ((↑i : Int) < (↑(List.length s) : Int))) (chkW (decide ((↑i : Int) < (↑(List.length s) : Int))) (∃ (n : Int), (Option.bind (cellsAt [AObj.row 24 4 [AV.int .u64 0, AV.int .u64 0, AV.int .u64 0, AV.int .u64 0], AObj.row 24 4 [AV.int .u64 (v % 18446744073709551616), AV.int .u64 (v / 18446744073709551616 % 18446744073709551616), AV.int .u64 (v / 18446744073709551616 / 18446744073709551616 % 18446744073709551616), AV.int .u64 (v / 18446744073709551616 / 18446744073709551616 / 18446744073709551616 % 18446744073709551616)], AObj.ro (bv s)] 2) fun (x : List AV) => partR none x (0 + i * 1)) = some (AV.int .u8 n) ∧ ∃ (n_1 : Int), ∃ (n_2 : Int), ∃ (n_3 : Int), ∃ (n_4 : Int), some (AV.agg [AV.int .u64 10, AV.int .u64 0, AV.int .u64 0, AV.int .u64 0]) = some (AV.agg [AV.int .u64 n_1, AV.int .u64 n_2, AV.int .u64 n_3, AV.int .u64 n_4]) ∧ ∃ (n_5 : Int), ∃ (n_6 : Int), ∃ (n_7 : Int), ∃ (n_8 : Int), ∃ (n_9 : Int), ∃ (n_10 : Int), ∃ (n_11 : Int), ∃ (n_12 : Int), TbE.s { f := 62, s := fun (vs : List AV) (x : AHeap) => sMul vs, r := Rs.tup [ag4, ag4] } [AV.agg [AV.int .u64 (v % 18446744073709551616), AV.int .u64 (v / 18446744073709551616 % 18446744073709551616), AV.int .u64 (v / 18446744073709551616 / 18446744073709551616 % 18446744073709551616), AV.int .u64 (v / 18446744073709551616 / 18446744073709551616 / 18446744073709551616 % 18446744073709551616)], AV.agg [AV.int .u64 n_1, AV.int .u64 n_2, AV.int .u64 n_3, AV.int .u64 n_4]] [AObj.row 24 4 [AV.int .u64 0, AV.int .u64 0, AV.int .u64 0, AV.int .u64 0], AObj.row 24 4 [AV.int .u64 (v % 18446744073709551616), AV.int .u64 (v / 18446744073709551616 % 18446744073709551616), AV.int .u64 (v / 18446744073709551616 / 18446744073709551616 % 18446744073709551616), AV.int .u64 (v / 18446744073709551616 / 18446744073709551616 / 18446744073709551616 % 18446744073709551616)], AObj.ro (bv s), AObj.hole, AObj.hole] = some (AV.tup [AV.agg [AV.int .u64 n_5, AV.int .u64 n_6, AV.int .u64 n_7, AV.int .u64 n_8], AV.agg [AV.int .u64 n_9, AV.int .u64 n_10, AV.int .u64 n_11, AV.int .u64 n_12]]) ∧ ∃ (n_13 : Int), ∃ (n_14 : Int), ∃ (n_15 : Int), ∃ (n_16 : Int), some (AV.agg [AV.int .u64 (IntKind.wrap .u64 (IntKind.wrap .u8 (n - 48))), AV.int .u64 0, AV.int .u64 0, AV.int .u64 0]) = some (AV.agg [AV.int .u64 n_13, AV.int .u64 n_14, AV.int .u64 n_15, AV.int .u64 n_16]) ∧ ∃ (n : Int), ∃ (n_17 : Int), ∃ (n_18 : Int), ∃ (n_19 : Int), ∃ (b : Bool), TbE.s { f := 64, s := fun (vs : List AV) (x : AHeap) => sAdd vs, r := Rs.tup [ag4, Rs1.one K1.bool] } [AV.agg [AV.int .u64 n_9, AV.int .u64 n_10, AV.int .u64 n_11, AV.int .u64 n_12], AV.agg [AV.int .u64 n_13, AV.int .u64 n_14, AV.int .u64 n_15, AV.int .u64 n_16]] [AObj.row 24 4 [AV.int .u64 0, AV.int .u64 0, AV.int .u64 0, AV.int .u64 0], AObj.row 24 4 [AV.int .u64 (v % 18446744073709551616), AV.int .u64 (v / 18446744073709551616 % 18446744073709551616), AV.int .u64 (v / 18446744073709551616 / 18446744073709551616 % 18446744073709551616), AV.int .u64 (v / 18446744073709551616 / 18446744073709551616 / 18446744073709551616 % 18446744073709551616)], AObj.ro (bv s), AObj.row 24 4 [AV.int .u64 n_5, AV.int .u64 n_6, AV.int .u64 n_7, AV.int .u64 n_8], AObj.row 24 4 [AV.int .u64 n_9, AV.int .u64 n_10, AV.int .u64 n_11, AV.int .u64 n_12], AObj.hole] = some (AV.tup [AV.agg [AV.int .u64 n, AV.int .u64 n_17, AV.int .u64 n_18, AV.int .u64 n_19], AV.bool b]) ∧ askB b (chkW (objClosed (AObj.ro (bv s))) (K AExit.ret (envOf 73 [(2, AV.ptr (some (0, 0))), (3, AV.int .i64 7)], [AObj.row 24 4 [AV.int .u64 0, AV.int .u64 0, AV.int .u64 0, AV.int .u64 0]]))) (askB (!(n_5 == 0 && (n_6 == 0 && (n_7 == 0 && (n_8 == 0 && true))))) (chkW (objClosed (AObj.ro (bv s))) (K AExit.ret (envOf 73 [(2, AV.ptr (some (0, 0))), (3, AV.int .i64 7)], [AObj.row 24 4 [AV.int .u64 0, AV.int .u64 0, AV.int .u64 0, AV.int .u64 0]]))) (chkW (objClosed (AObj.ro (bv s))) (K AExit.normal (envOf 73 [(2, AV.ptr (some (0, 0))), (3, AV.int .i64 0), (6, AV.ptr (some (1, 0))), (42, AV.sl (some (2, 0)) (List.length s) (ACap.rel 0)), (43, AV.int .i64 (↑(List.length s) : Int)), (44, AV.int .i64 (IntKind.wrap .i64 ((↑i : Int) + 1)))], [AObj.row 24 4 [AV.int .u64 0, AV.int .u64 0, AV.int .u64 0, AV.int .u64 0], AObj.row 24 4 [AV.int .u64 n, AV.int .u64 n_17, AV.int .u64 n_18, AV.int .u64 n_19], AObj.ro (bv s)])))))) (chkW (objClosed (AObj.ro (bv s))) (K (AExit.exit 2) (envOf 73 [(2, AV.ptr (some (0, 0))), (3, AV.int .i64 0), (6, AV.ptr (some (1, 0)))], [AObj.row 24 4 [AV.int .u64 0, AV.int .u64 0, AV.int .u64 0, AV.int .u64 0], AObj.row 24 4 [AV.int .u64 (v % 18446744073709551616), AV.int .u64 (v / 18446744073709551616 % 18446744073709551616), AV.int .u64 (v / 18446744073709551616 / 18446744073709551616 % 18446744073709551616), AV.int .u64 (v / 18446744073709551616 / 18446744073709551616 / 18446744073709551616 % 18446744073709551616)]])))) = (wpP Tryd.prog C53b 80 (.inl p53_l0) (g53b s v i) (postX C53b t53b x53b r53 K)) := by kernel_rfl
theorem v53 (s : List UInt8) (R : AV → AHeap → Prop) : (askB (s == []) (R (AV.tup [AV.agg [AV.int .u64 0, AV.int .u64 0, AV.int .u64 0, AV.int .u64 0], AV.int .i64 10]) [AObj.row 24 4 [AV.int .u64 0, AV.int .u64 0, AV.int .u64 0, AV.int .u64 0]]) (chkW (decide (0 < List.length s)) (askB ((↑(UInt8.toNat (List.getD s 0 0)) : Int) == 48) (askB (decide ((↑(List.length s) : Int) > 1)) (R (AV.tup [AV.agg [AV.int .u64 0, AV.int .u64 0, AV.int .u64 0, AV.int .u64 0], AV.int .i64 10]) [AObj.row 24 4 [AV.int .u64 0, AV.int .u64 0, AV.int .u64 0, AV.int .u64 0]]) (chkW (objClosed (AObj.ro (List.map (fun (x : UInt8) => AV.int .u8 (↑(UInt8.toNat x) : Int)) s))) ((envOf 73 [(0, AV.str s), (2, AV.ptr (some (0, 0))), (3, AV.int .i64 0), (27, AV.sl (some (1, 0)) (List.length s) (ACap.rel 0)), (28, AV.int .i64 (↑(List.length s) : Int)), (29, AV.int .i64 0)], [AObj.row 24 4 [AV.int .u64 0, AV.int .u64 0, AV.int .u64 0, AV.int .u64 0], AObj.ro (List.map (fun (x : UInt8) => AV.int .u8 (↑(UInt8.toNat x) : Int)) s)]) = (envOf 73 [(0, AV.str s), (2, AV.ptr (some (0, 0))), (3, AV.int .i64 0), (27, AV.sl (some (1, 0)) (List.length s) (ACap.rel 0)), (28, AV.int .i64 (↑(List.length s) : Int)), (29, AV.int .i64 0)], [AObj.row 24 4 [AV.int .u64 0, AV.int .u64 0, AV.int .u64 0, AV.int .u64 0], AObj.ro (bv s)]) ∧ askB (allD s) (chkW (objClosed (AObj.ro (List.map (fun (x : UInt8) => AV.int .u8 (↑(UInt8.toNat x) : Int)) s))) ((envOf 73 [(2, AV.ptr (some (0, 0))), (3, AV.int .i64 0), (6, AV.ptr (some (1, 0))), (42, AV.sl (some (2, 0)) (List.length s) (ACap.rel 0)), (43, AV.int .i64 (↑(List.length s) : Int)), (44, AV.int .i64 0)], [AObj.row 24 4 [AV.int .u64 0, AV.int .u64 0, AV.int .u64 0, AV.int .u64 0], AObj.row 24 4 [AV.int .u64 0, AV.int .u64 0, AV.int .u64 0, AV.int .u64 0], AObj.ro (List.map (fun (x : UInt8) => AV.int .u8 (↑(UInt8.toNat x) : Int)) s)]) = (envOf 73 [(2, AV.ptr (some (0, 0))), (3, AV.int .i64 0), (6, AV.ptr (some (1, 0))), (42, AV.sl (some (2, 0)) (List.length s) (ACap.rel 0)), (43, AV.int .i64 (↑(List.length s) : Int)), (44, AV.int .i64 0)], [AObj.row 24 4 [AV.int .u64 0, AV.int .u64 0, AV.int .u64 0, AV.int .u64 0], AObj.row 24 4 [AV.int .u64 0, AV.int .u64 0, AV.int .u64 0, AV.int .u64 0], AObj.ro (bv s)]) ∧ allD s = true ∧ askB (Option.isSome (foldD 0 s)) (∃ (n : Int), ∃ (n_1 : Int), ∃ (n_2 : Int), ∃ (n_3 : Int), some (AV.agg [AV.int .u64 (Option.getD (foldD 0 s) 0 % 18446744073709551616), AV.int .u64 (Option.getD (foldD 0 s) 0 / 18446744073709551616 % 18446744073709551616), AV.int .u64 (Option.getD (foldD 0 s) 0 / 18446744073709551616 / 18446744073709551616 % 18446744073709551616), AV.int .u64 (Option.getD (foldD 0 s) 0 / 18446744073709551616 / 18446744073709551616 / 18446744073709551616 % 18446744073709551616)]) = some (AV.agg [AV.int .u64 n, AV.int .u64 n_1, AV.int .u64 n_2, AV.int .u64 n_3]) ∧ R (AV.tup [AV.agg [AV.int .u64 n, AV.int .u64 n_1, AV.int .u64 n_2, AV.int .u64 n_3], AV.int .i64 0]) [AObj.row 24 4 [AV.int .u64 n, AV.int .u64 n_1, AV.int .u64 n_2, AV.int .u64 n_3], AObj.row 24 4 [AV.int .u64 (Option.getD (foldD 0 s) 0 % 18446744073709551616), AV.int .u64 (Option.getD (foldD 0 s) 0 / 18446744073709551616 % 18446744073709551616), AV.int .u64 (Option.getD (foldD 0 s) 0 / 18446744073709551616 / 18446744073709551616 % 18446744073709551616), AV.int .u64 (Option.getD (foldD 0 s) 0 / 18446744073709551616 / 18446744073709551616 / 18446744073709551616 % 18446744073709551616)]]) (R (AV.tup [AV.agg [AV.int .u64 0, AV.int .u64 0, AV.int .u64 0, AV.int .u64 0], AV.int .i64 7]) [AObj.row 24 4 [AV.int .u64 0, AV.int .u64 0, AV.int .u64 0, AV.int .u64 0]]))) (R (AV.tup [AV.agg [AV.int .u64 0, AV.int .u64 0, AV.int .u64 0, AV.int .u64 0], AV.int .i64 10]) [AObj.row 24 4 [AV.int .u64 0, AV.int .u64 0, AV.int .u64 0, AV.int .u64 0]])))) (chkW (objClosed (AObj.ro (List.map (fun (x : UInt8) => AV.int .u8 (↑(UInt8.toNat x) : Int)) s))) ((envOf 73 [(0, AV.str s), (2, AV.ptr (some (0, 0))), (3, AV.int .i64 0), (27, AV.sl (some (1, 0)) (List.length s) (ACap.rel 0)), (28, AV.int .i64 (↑(List.length s) : Int)), (29, AV.int .i64 0)], [AObj.row 24 4 [AV.int .u64 0, AV.int .u64 0, AV.int .u64 0, AV.int .u64 0], AObj.ro (List.map (fun (x : UInt8) => AV.int .u8 (↑(UInt8.toNat x) : Int)) s)]) = (envOf 73 [(0, AV.str s), (2, AV.ptr (some (0, 0))), (3, AV.int .i64 0), (27, AV.sl (some (1, 0)) (List.length s) (ACap.rel 0)), (28, AV.int .i64 (↑(List.length s) : Int)), (29, AV.int .i64 0)], [AObj.row 24 4 [AV.int .u64 0, AV.int .u64 0, AV.int .u64 0, AV.int .u64 0], AObj.ro (bv s)]) ∧ askB (allD s) (chkW (objClosed (AObj.ro (List.map (fun (x : UInt8) => AV.int .u8 (↑(UInt8.toNat x) : Int)) s))) ((envOf 73 [(2, AV.ptr (some (0, 0))), (3, AV.int .i64 0), (6, AV.ptr (some (1, 0))), (42, AV.sl (some (2, 0)) (List.length s) (ACap.rel 0)), (43, AV.int .i64 (↑(List.length s) : Int)), (44, AV.int .i64 0)], [AObj.row 24 4 [AV.int .u64 0, AV.int .u64 0, AV.int .u64 0, AV.int .u64 0], AObj.row 24 4 [AV.int .u64 0, AV.int .u64 0, AV.int .u64 0, AV.int .u64 0], AObj.ro (List.map (fun (x : UInt8) => AV.int .u8 (↑(UInt8.toNat x) : Int)) s)]) = (envOf 73 [(2, AV.ptr (some (0, 0))), (3, AV.int .i64 0), (6, AV.ptr (some (1, 0))), (42, AV.sl (some (2, 0)) (List.length s) (ACap.rel 0)), (43, AV.int .i64 (↑(List.length s) : Int)), (44, AV.int .i64 0)], [AObj.row 24 4 [AV.int .u64 0, AV.int .u64 0, AV.int .u64 0, AV.int .u64 0], AObj.row 24 4 [AV.int .u64 0, AV.int .u64 0, AV.int .u64 0, AV.int .u64 0], AObj.ro (bv s)]) ∧ allD s = true ∧ askB (Option.isSome (foldD 0 s)) (∃ (n : Int), ∃ (n_1 : Int), ∃ (n_2 : Int), ∃ (n_3 : Int), some (AV.agg [AV.int .u64 (Option.getD (foldD 0 s) 0 % 18446744073709551616), AV.int .u64 (Option.getD (foldD 0 s) 0 / 18446744073709551616 % 18446744073709551616), AV.int .u64 (Option.getD (foldD 0 s) 0 / 18446744073709551616 / 18446744073709551616 % 18446744073709551616), AV.int .u64 (Option.getD (foldD 0 s) 0 / 18446744073709551616 / 18446744073709551616 / 18446744073709551616 % 18446744073709551616)]) = some (AV.agg [AV.int .u64 n, AV.int .u64 n_1, AV.int .u64 n_2, AV.int .u64 n_3]) ∧ R (AV.tup [AV.agg [AV.int .u64 n, AV.int .u64 n_1, AV.int .u64 n_2, AV.int .u64 n_3], AV.int .i64 0]) [AObj.row 24 4 [AV.int .u64 n, AV.int .u64 n_1, AV.int .u64 n_2, AV.int .u64 n_3], AObj.row 24 4 [AV.int .u64 (Option.getD (foldD 0 s) 0 % 18446744073709551616), AV.int .u64 (Option.getD (foldD 0 s) 0 / 18446744073709551616 % 18446744073709551616), AV.int .u64 (Option.getD (foldD 0 s) 0 / 18446744073709551616 / 18446744073709551616 % 18446744073709551616), AV.int .u64 (Option.getD (foldD 0 s) 0 / 18446744073709551616 / 18446744073709551616 / 18446744073709551616 % 18446744073709551616)]]) (R (AV.tup [AV.agg [AV.int .u64 0, AV.int .u64 0, AV.int .u64 0, AV.int .u64 0], AV.int .i64 7]) [AObj.row 24 4 [AV.int .u64 0, AV.int .u64 0, AV.int .u64 0, AV.int .u64 0]]))) (R (AV.tup [AV.agg [AV.int .u64 0, AV.int .u64 0, AV.int .u64 0, AV.int .u64 0], AV.int .i64 10]) [AObj.row 24 4 [AV.int .u64 0, AV.int .u64 0, AV.int .u64 0, AV.int .u64 0]])))))) = (wpF Tryd.prog (C53 s) 80 p53 [.str s] [] R) := by kernel_rfl
theorem bv_at {s : List UInt8} {i : Nat} (h : i < s.length) : (bv s)[i]? = some (.int .u8 (s.getD i 0).toNat) := by
  simp [bv, List.getElem?_eq_getElem h]
theorem ro_ocl (l : List UInt8) : objClosed (.ro (bv l)) = true := bv_closed l
theorem loop53a (s : List UInt8) (hs : s.length ≤ 1099511627776) : W Tryd.prog (tbS Q tbP53) 0 (.inl (.loop p53_l1)) (g53a s 0) (fun e st => if allD s = true then e = .exit 0 ∧ st = e53a s else e = .ret ∧ st = b53 10) := by
  have hcw : CwOK (tbS Q tbP53) (tbW Q tbP53) := tbW_ok rfl
  have main := W_roundsG (P := Tryd.prog) (S := tbS Q tbP53) (b0 := 0) (a := p53_l1) (fun i : Nat => g53a s i) (fun i => i ≤ s.length ∧ ∀ j, j < i → isD (s.getD j 0) = true) (fun i => s.length - i)
    (fun _ e st => if allD s = true then e = .exit 0 ∧ st = e53a s else e = .ret ∧ st = b53 10) ?_ 0 ⟨by omega, fun j hj => by omega⟩
  · exact main
  · rintro i ⟨h1, h2⟩
    refine W_wpX (C := C53a) hcw (by intro x hx; cases hx) (n := 60) (tn := t53a) (tx := x53a) (tr := r53) ((v53a s i _).mp ?_)
    rcases Nat.lt_or_ge i s.length with hi | hi
    · have hbad : isD (s.getD i 0) = false → (if allD s = true then AExit.ret = .exit 0 ∧ b53 10 = e53a s else AExit.ret = .ret ∧ b53 10 = b53 10) := fun h => by
        rw [if_neg (fun ha => by rw [allD_at ha hi] at h; cases h)]; exact ⟨rfl, rfl⟩
      have hi1 : IntKind.wrap .i64 ((i : Int) + 1) = ((i + 1 : Nat) : Int) := by rw [IntKind.wrap_i64]; omega
      rw [show (0 + i * 1 : Nat) = i by omega]
      refine askT (decide_eq_true (by omega)) (chkI (decide_eq_true (by omega)) ⟨_, bv_at hi, askI (fun g1 => chkI (ro_ocl s) (hbad ?_)) fun g1 => askI (fun g2 => chkI (ro_ocl s) (hbad ?_)) fun g2 => chkI (ro_ocl s) ⟨i + 1, by rw [hi1]; rfl, ⟨by omega, fun j hj => ?_⟩, by omega, fun e st h => h⟩⟩)
      · simp only [decide_eq_true_eq] at g1
        unfold isD; rw [decide_eq_false (by omega)]; rfl
      · simp only [decide_eq_true_eq] at g2
        unfold isD; rw [decide_eq_false (p := (s.getD i 0).toNat ≤ 57) (by omega), Bool.and_false]
      · simp only [decide_eq_false_iff_not] at g1 g2
        rcases Nat.lt_or_ge j i with q | q
        · exact h2 j q
        · obtain rfl : j = i := by omega
          unfold isD; rw [decide_eq_true (by omega), decide_eq_true (p := (s.getD j 0).toNat ≤ 57) (by omega)]; rfl
    · refine askF (decide_eq_false (by omega)) (chkI (ro_ocl s) ?_)
      show if allD s = true then _ else _
      rw [if_pos (allD_of fun j hj => h2 j (by omega))]
      exact ⟨rfl, rfl⟩
theorem loop53b (s : List UInt8) (hs : s.length ≤ 1099511627776) (hD : allD s = true) : W Tryd.prog (tbS Q tbP53) 0 (.inl (.loop p53_l0)) (g53b s 0 0) (fun e st => if (foldD 0 s).isSome = true then e = .exit 2 ∧ st = e53b ((foldD 0 s).getD 0) else e = .ret ∧ st = b53 7) := by
  have hcw : CwOK (tbS Q tbP53) (tbW Q tbP53) := tbW_ok rfl
  have main := W_roundsG (P := Tryd.prog) (S := tbS Q tbP53) (b0 := 0) (a := p53_l0) (fun p : Nat × Int => g53b s p.2 p.1) (fun p => p.1 ≤ s.length ∧ 0 ≤ p.2 ∧ p.2 < 115792089237316195423570985008687907853269984665640564039457584007913129639936 ∧ foldD 0 s = foldD p.2 (s.drop p.1)) (fun p => s.length - p.1)
    (fun _ e st => if (foldD 0 s).isSome = true then e = .exit 2 ∧ st = e53b ((foldD 0 s).getD 0) else e = .ret ∧ st = b53 7) ?_ (0, 0) ⟨by show 0 ≤ s.length; omega, by show (0 : Int) ≤ 0; omega, by show (0 : Int) < 115792089237316195423570985008687907853269984665640564039457584007913129639936; omega, rfl⟩
  · exact main
  · rintro ⟨i, v⟩ ⟨h1, h2, h3, h4⟩
    simp only at h1 h2 h3 h4
    refine W_wpX (C := C53b) hcw (by intro x hx; cases hx) (n := 80) (tn := t53b) (tx := x53b) (tr := r53) ((v53b s v i _).mp ?_)
    rcases Nat.lt_or_ge i s.length with hi | hi
    · have hd := allD_at hD hi
      simp only [isD, Bool.and_eq_true, decide_eq_true_eq] at hd
      have hst := fold_step (v := v) hi
      obtain ⟨d, hdd⟩ : ∃ d : Int, d = ((s.getD i 0).toNat : Int) - 48 := ⟨_, rfl⟩
      have hw : IntKind.wrap .u64 (IntKind.wrap .u8 (((s.getD i 0).toNat : Int) - 48)) = d := by rw [IntKind.wrap_u8, IntKind.wrap_u64]; omega
      rw [← hdd, ← h4] at hst
      have hi1 : IntKind.wrap .i64 ((i : Int) + 1) = ((i + 1 : Nat) : Int) := by rw [IntKind.wrap_i64]; omega
      have hbad : v * 10 + d ≥ 115792089237316195423570985008687907853269984665640564039457584007913129639936 → (if (foldD 0 s).isSome = true then AExit.ret = .exit 2 ∧ b53 7 = e53b ((foldD 0 s).getD 0) else AExit.ret = .ret ∧ b53 7 = b53 7) := fun h => by
        rw [hst, if_pos h]; exact ⟨rfl, rfl⟩
      rw [show (0 + i * 1 : Nat) = i by omega]
      refine askT (decide_eq_true (by omega)) (chkI (decide_eq_true (by omega)) ⟨_, bv_at hi, 10, 0, 0, 0, rfl, _, _, _, _, _, _, _, _, mul_ten h2 h3, _, _, _, _, rfl, ?_⟩)
      rw [hw]
      refine ⟨_, _, _, _, _, add_dig (w := v * 10) (by omega) (by omega) (by omega), askI (fun g1 => chkI (ro_ocl s) (hbad ?_)) fun g1 => ?_⟩
      · simp only [decide_eq_true_eq] at g1; omega
      rw [high0 (by omega) (by omega)]
      refine askI (fun g2 => chkI (ro_ocl s) (hbad ?_)) fun g2 => chkI (ro_ocl s) ?_
      · simp only [decide_eq_true_eq] at g2; omega
      simp only [decide_eq_false_iff_not] at g1 g2
      have hm : v * 10 % 115792089237316195423570985008687907853269984665640564039457584007913129639936 = v * 10 := by omega
      refine ⟨(i + 1, v * 10 + d), ?_, ⟨by show i + 1 ≤ s.length; omega, by show 0 ≤ v * 10 + d; omega, by show v * 10 + d < 115792089237316195423570985008687907853269984665640564039457584007913129639936; omega, ?_⟩, by show s.length - (i + 1) < s.length - i; omega, fun e st h => h⟩
      · rw [hm, hi1]; rfl
      · show foldD 0 s = foldD (v * 10 + d) (s.drop (i + 1))
        rw [hst, if_neg (by omega)]
    · have hf := fold_end (v := v) hi
      rw [← h4] at hf
      refine askF (decide_eq_false (by omega)) ?_
      refine chkI (ro_ocl s) ?_
      show if (foldD 0 s).isSome = true then _ else _
      rw [hf]
      exact ⟨rfl, rfl⟩
theorem parse_ok : QuietOK Tryd.prog 31 fun vs _ => sParseN vs := quiet_plain ht53 fun args v h => by
  unfold sParseN at h
  split at h
  · rename_i s
    split at h
    · rename_i hs
      cases h
      refine ⟨rfl, rfl, ?_⟩
      have hS : (tbS Q tbP53).OK Tryd.prog := tbS_ok quietText (by
        intro x hx
        simp only [tbP53, List.mem_cons, List.not_mem_nil, or_false] at hx
        rcases hx with rfl | rfl | rfl
        · exact from_ok
        · exact mul_ok
        · exact add_ok)
      by_cases hD : allD s = true ∨ allD s = false
      · obtain ⟨u, h', rfl, hsem⟩ := sem_vc mixed (C := C53 s) hS (tbS_q _ _) (tbW_ok rfl) ht53 c53 (fun x hx => by
          have e : partsIn p53.body = [.loop p53_l1, .loop p53_l0] := rfl
          rw [e] at hx
          simp only [List.mem_cons, List.not_mem_nil, or_false] at hx
          rcases hx with rfl | rfl
          · exact part_loop (id := 4) rfl rfl fun st K hT => by
              obtain ⟨rfl, hk⟩ := hT
              refine W_mono (loop53a s hs) fun e st he => ?_
              rcases askD hk with ⟨h1, h2⟩ | ⟨h1, h2⟩
              · rw [if_pos h1] at he; obtain ⟨rfl, rfl⟩ := he; exact h2
              · rw [if_neg (by rw [h1]; decide)] at he; obtain ⟨rfl, rfl⟩ := he; exact h2
          · by_cases hA : allD s = true
            · exact part_loop (id := 11) rfl rfl fun st K hT => by
                obtain ⟨rfl, _, hk⟩ := hT
                refine W_mono (loop53b s hs hA) fun e st he => ?_
                rcases askD hk with ⟨h1, h2⟩ | ⟨h1, h2⟩
                · rw [if_pos h1] at he; obtain ⟨rfl, rfl⟩ := he; exact h2
                · rw [if_neg (by rw [h1]; decide)] at he; obtain ⟨rfl, rfl⟩ := he; exact h2
            · exact part_loop (id := 11) rfl rfl fun st K hT => (hA hT.2.1).elim) (v53 s fun u _ => u = .tup [.agg (limbs (parseN s).1), .int .i64 (parseN s).2]) (by
        refine askI (fun h0 => ?_) fun h0 => ?_
        · have : s = [] := by simpa using h0
          subst this; rfl
        have hne : s ≠ [] := by simpa using h0
        have hpos : 0 < s.length := by cases s with | nil => exact absurd rfl hne | cons _ _ => simp
        refine chkI (decide_eq_true hpos) (askI (fun h1 => askI (fun h2 => ?_) fun h2 => ?_) fun h1 => ?_)
        · have hz : s.getD 0 0 == 48 := by rw [← eq48]; exact h1
          simp only [decide_eq_true_eq] at h2
          rw [pn_zero hne hz (by omega)]; rfl
        · simp only [decide_eq_false_iff_not] at h2
          have hp := pn_rest hne (.inr (show ¬ 1 < s.length by omega))
          have hz : (s.getD 0 0 == 48) = false ∨ s.length ≤ 1 := .inr (by omega)
          refine chkI (ro_ocl s) ⟨rfl, askI (fun hA => chkI (ro_ocl s) ⟨rfl, hA, askI (fun hF => ?_) fun hF => ?_⟩) fun hA => ?_⟩
          · refine ⟨_, _, _, _, rfl, ?_⟩
            obtain ⟨v, hv⟩ := Option.isSome_iff_exists.1 hF
            rw [hp, if_pos hA, hv]
            rfl
          · have hn : foldD 0 s = none := by
              cases hx : foldD 0 s with
              | none => rfl
              | some v => rw [hx] at hF; cases hF
            rw [hp, if_pos hA, hn]
            rfl
          · rw [hp, if_neg (by rw [hA]; decide)]
            rfl
        · have hz0 : (s.getD 0 0 == 48) = false := by rw [← eq48]; exact h1
          have hp := pn_rest hne (.inl hz0)
          have hz : (s.getD 0 0 == 48) = false ∨ s.length ≤ 1 := .inl hz0
          refine chkI (ro_ocl s) ⟨rfl, askI (fun hA => chkI (ro_ocl s) ⟨rfl, hA, askI (fun hF => ?_) fun hF => ?_⟩) fun hA => ?_⟩
          · refine ⟨_, _, _, _, rfl, ?_⟩
            obtain ⟨v, hv⟩ := Option.isSome_iff_exists.1 hF
            rw [hp, if_pos hA, hv]
            rfl
          · have hn : foldD 0 s = none := by
              cases hx : foldD 0 s with
              | none => rfl
              | some v => rw [hx] at hF; cases hF
            rw [hp, if_pos hA, hn]
            rfl
          · rw [hp, if_neg (by rw [hA]; decide)]
            rfl
        )
        exact ⟨h', hsem⟩
      · cases h : allD s <;> simp [h] at hD
    · cases h
  · cases h
def sCut : List AV → Option AV
  | [.str s, .str [c]] => if s.length ≤ 1099511627776 then some (.tup [.str (cut1 s c).1, .str (cut1 s c).2.1, .bool (cut1 s c).2.2]) else none
  | _ => none
def tb61 : List TbE := [⟨82, fun vs _ => sIndexOne vs, .of (.one (.int .i64))⟩]
def tb51 : List TbE := [⟨58, fun vs _ => sCut vs, .tup [.one .str, .one .str, .one .bool]⟩]
def tb38 : List TbE := [⟨17, fun vs _ => sPrefix vs, .of (.one (.int .i64))⟩, ⟨28, fun vs _ => sCutPrefix vs, .tup [.one .str, .one .bool]⟩, ⟨29, fun vs _ => sCut vs, .tup [.one .str, .one .str, .one .bool]⟩, ⟨30, fun vs _ => sTrimLeft vs, .of (.one .str)⟩, ⟨31, fun vs _ => sParseN vs, .tup [ag4, .one (.int .i64)]⟩]
theorem v61 (s : List UInt8) (c : UInt8) (R : AV → AHeap → Prop) : (∃ (n : Int), some (AV.int .i64 (Lib.indexByte s c)) = some (AV.int .i64 n) ∧ askB (decide (n ≥ 0)) (chkW (decide (0 ≤ n)) (chkW (decide (n ≤ (↑(List.length s) : Int))) (chkW (decide (0 ≤ IntKind.wrap .i64 (n + (↑(List.length [c]) : Int)))) (chkW (decide (IntKind.wrap .i64 (n + (↑(List.length [c]) : Int)) ≤ (↑(List.length s) : Int))) (R (AV.tup [AV.str (List.drop 0 (List.take (Int.toNat n) s)), AV.str (List.drop (Int.toNat (IntKind.wrap .i64 (n + (↑(List.length [c]) : Int)))) (List.take (List.length s) s)), AV.bool true]) []))))) (R (AV.tup [AV.str s, AV.str [], AV.bool false]) [])) = (wpF Tryd.prog (tbC Q tb61 (fun _ => false) kdI) 40 p61 [.str s, .str [c]] [] R) := by kernel_rfl
theorem v51 (s : List UInt8) (c : UInt8) (R : AV → AHeap → Prop) : (∃ (s_1 : List UInt8), ∃ (s_2 : List UInt8), ∃ (b : Bool), TbE.s { f := 58, s := fun (vs : List AV) (x : AHeap) => sCut vs, r := Rs.tup [Rs1.one K1.str, Rs1.one K1.str, Rs1.one K1.bool] } [AV.str s, AV.str [c]] [] = some (AV.tup [AV.str s_1, AV.str s_2, AV.bool b]) ∧ askB b (R (AV.tup [AV.str s_1, AV.str s_2, AV.bool true]) []) (R (AV.tup [AV.str s_1, AV.str s_2, AV.bool false]) [])) = (wpF Tryd.prog (tbC Q tb51 (fun _ => false) kdI) 40 p51 [.str s, .str [c]] [] R) := by kernel_rfl
theorem v38 (s : List UInt8) (R : AV → AHeap → Prop) : (askB (s == []) (R (AV.tup [AV.agg [AV.bool false, AV.int .u64 0, AV.int .u64 0, AV.int .u64 0, AV.int .u64 0, AV.int .i64 0], AV.int .i64 30]) [AObj.row 26 6 [AV.bool false, AV.int .u64 0, AV.int .u64 0, AV.int .u64 0, AV.int .u64 0, AV.int .i64 0]]) (∃ (n : Int), TbE.s { f := 17, s := fun (vs : List AV) (x : AHeap) => sPrefix vs, r := Rs.of (Rs1.one (K1.int .i64)) } [AV.str s] [AObj.row 26 6 [AV.bool false, AV.int .u64 0, AV.int .u64 0, AV.int .u64 0, AV.int .u64 0, AV.int .i64 0]] = some (AV.int .i64 n) ∧ askB (n != (↑(List.length s) : Int)) (R (AV.tup [AV.agg [AV.bool false, AV.int .u64 0, AV.int .u64 0, AV.int .u64 0, AV.int .u64 0, AV.int .i64 0], AV.int .i64 30]) [AObj.row 26 6 [AV.bool false, AV.int .u64 0, AV.int .u64 0, AV.int .u64 0, AV.int .u64 0, AV.int .i64 0]]) (∃ (s_1 : List UInt8), ∃ (b : Bool), some (AV.tup [AV.str (Lib.trimPrefix s (Array.toList (ByteArray.data { data := #[45] }))), AV.bool (Lib.hasPrefix s (Array.toList (ByteArray.data { data := #[45] })))]) = some (AV.tup [AV.str s_1, AV.bool b]) ∧ askB b (∃ (s : List UInt8), ∃ (s_2 : List UInt8), ∃ (b : Bool), TbE.s { f := 29, s := fun (vs : List AV) (x : AHeap) => sCut vs, r := Rs.tup [Rs1.one K1.str, Rs1.one K1.str, Rs1.one K1.bool] } [AV.str s_1, AV.str [46]] [AObj.row 26 6 [AV.bool false, AV.int .u64 0, AV.int .u64 0, AV.int .u64 0, AV.int .u64 0, AV.int .i64 0]] = some (AV.tup [AV.str s, AV.str s_2, AV.bool b]) ∧ askB b (askB (decide ((↑(List.length s_2) : Int) > 18)) (R (AV.tup [AV.agg [AV.bool false, AV.int .u64 0, AV.int .u64 0, AV.int .u64 0, AV.int .u64 0, AV.int .i64 0], AV.int .i64 31]) [AObj.row 26 6 [AV.bool false, AV.int .u64 0, AV.int .u64 0, AV.int .u64 0, AV.int .u64 0, AV.int .i64 0]]) (chkW (decide (List.length s + List.length s_2 ≤ 9223372036854775807)) (∃ (s_3 : List UInt8), some (AV.str (Lib.trimLeftB (s ++ s_2) 48)) = some (AV.str s_3) ∧ askB (s_3 == []) (∃ (n : Int), ∃ (n_1 : Int), ∃ (n_2 : Int), ∃ (n_3 : Int), ∃ (n_4 : Int), some (AV.tup [AV.agg [AV.int .u64 0, AV.int .u64 0, AV.int .u64 0, AV.int .u64 0], AV.int .i64 0]) = some (AV.tup [AV.agg [AV.int .u64 n, AV.int .u64 n_1, AV.int .u64 n_2, AV.int .u64 n_3], AV.int .i64 n_4]) ∧ askB (n_4 != 0) (R (AV.tup [AV.agg [AV.bool false, AV.int .u64 0, AV.int .u64 0, AV.int .u64 0, AV.int .u64 0, AV.int .i64 0], AV.int .i64 n_4]) [AObj.row 26 6 [AV.bool false, AV.int .u64 0, AV.int .u64 0, AV.int .u64 0, AV.int .u64 0, AV.int .i64 0], AObj.row 24 4 [AV.int .u64 n, AV.int .u64 n_1, AV.int .u64 n_2, AV.int .u64 n_3]]) (R (AV.tup [AV.agg [AV.bool true, AV.int .u64 n, AV.int .u64 n_1, AV.int .u64 n_2, AV.int .u64 n_3, AV.int .i64 (↑(List.length s_2) : Int)], AV.int .i64 0]) [AObj.row 26 6 [AV.bool true, AV.int .u64 n, AV.int .u64 n_1, AV.int .u64 n_2, AV.int .u64 n_3, AV.int .i64 (↑(List.length s_2) : Int)], AObj.row 24 4 [AV.int .u64 n, AV.int .u64 n_1, AV.int .u64 n_2, AV.int .u64 n_3]])) (∃ (n : Int), ∃ (n_1 : Int), ∃ (n_2 : Int), ∃ (n_3 : Int), ∃ (n_4 : Int), TbE.s { f := 31, s := fun (vs : List AV) (x : AHeap) => sParseN vs, r := Rs.tup [ag4, Rs1.one (K1.int .i64)] } [AV.str s_3] [AObj.row 26 6 [AV.bool false, AV.int .u64 0, AV.int .u64 0, AV.int .u64 0, AV.int .u64 0, AV.int .i64 0], AObj.hole] = some (AV.tup [AV.agg [AV.int .u64 n, AV.int .u64 n_1, AV.int .u64 n_2, AV.int .u64 n_3], AV.int .i64 n_4]) ∧ askB (n_4 != 0) (R (AV.tup [AV.agg [AV.bool false, AV.int .u64 0, AV.int .u64 0, AV.int .u64 0, AV.int .u64 0, AV.int .i64 0], AV.int .i64 n_4]) [AObj.row 26 6 [AV.bool false, AV.int .u64 0, AV.int .u64 0, AV.int .u64 0, AV.int .u64 0, AV.int .i64 0], AObj.row 24 4 [AV.int .u64 n, AV.int .u64 n_1, AV.int .u64 n_2, AV.int .u64 n_3]]) (R (AV.tup [AV.agg [AV.bool true, AV.int .u64 n, AV.int .u64 n_1, AV.int .u64 n_2, AV.int .u64 n_3, AV.int .i64 (↑(List.length s_2) : Int)], AV.int .i64 0]) [AObj.row 26 6 [AV.bool true, AV.int .u64 n, AV.int .u64 n_1, AV.int .u64 n_2, AV.int .u64 n_3, AV.int .i64 (↑(List.length s_2) : Int)], AObj.row 24 4 [AV.int .u64 n, AV.int .u64 n_1, AV.int .u64 n_2, AV.int .u64 n_3]]))))) (askB (decide ((↑(List.length s_2) : Int) > 18)) (R (AV.tup [AV.agg [AV.bool false, AV.int .u64 0, AV.int .u64 0, AV.int .u64 0, AV.int .u64 0, AV.int .i64 0], AV.int .i64 31]) [AObj.row 26 6 [AV.bool false, AV.int .u64 0, AV.int .u64 0, AV.int .u64 0, AV.int .u64 0, AV.int .i64 0]]) (chkW (decide (List.length s + List.length s_2 ≤ 9223372036854775807)) (∃ (s_3 : List UInt8), some (AV.str (Lib.trimLeftB (s ++ s_2) 48)) = some (AV.str s_3) ∧ askB (s_3 == []) (∃ (n : Int), ∃ (n_1 : Int), ∃ (n_2 : Int), ∃ (n_3 : Int), ∃ (n_4 : Int), some (AV.tup [AV.agg [AV.int .u64 0, AV.int .u64 0, AV.int .u64 0, AV.int .u64 0], AV.int .i64 0]) = some (AV.tup [AV.agg [AV.int .u64 n, AV.int .u64 n_1, AV.int .u64 n_2, AV.int .u64 n_3], AV.int .i64 n_4]) ∧ askB (n_4 != 0) (R (AV.tup [AV.agg [AV.bool false, AV.int .u64 0, AV.int .u64 0, AV.int .u64 0, AV.int .u64 0, AV.int .i64 0], AV.int .i64 n_4]) [AObj.row 26 6 [AV.bool false, AV.int .u64 0, AV.int .u64 0, AV.int .u64 0, AV.int .u64 0, AV.int .i64 0], AObj.row 24 4 [AV.int .u64 n, AV.int .u64 n_1, AV.int .u64 n_2, AV.int .u64 n_3]]) (R (AV.tup [AV.agg [AV.bool true, AV.int .u64 n, AV.int .u64 n_1, AV.int .u64 n_2, AV.int .u64 n_3, AV.int .i64 (↑(List.length s_2) : Int)], AV.int .i64 0]) [AObj.row 26 6 [AV.bool true, AV.int .u64 n, AV.int .u64 n_1, AV.int .u64 n_2, AV.int .u64 n_3, AV.int .i64 (↑(List.length s_2) : Int)], AObj.row 24 4 [AV.int .u64 n, AV.int .u64 n_1, AV.int .u64 n_2, AV.int .u64 n_3]])) (∃ (n : Int), ∃ (n_1 : Int), ∃ (n_2 : Int), ∃ (n_3 : Int), ∃ (n_4 : Int), TbE.s { f := 31, s := fun (vs : List AV) (x : AHeap) => sParseN vs, r := Rs.tup [ag4, Rs1.one (K1.int .i64)] } [AV.str s_3] [AObj.row 26 6 [AV.bool false, AV.int .u64 0, AV.int .u64 0, AV.int .u64 0, AV.int .u64 0, AV.int .i64 0], AObj.hole] = some (AV.tup [AV.agg [AV.int .u64 n, AV.int .u64 n_1, AV.int .u64 n_2, AV.int .u64 n_3], AV.int .i64 n_4]) ∧ askB (n_4 != 0) (R (AV.tup [AV.agg [AV.bool false, AV.int .u64 0, AV.int .u64 0, AV.int .u64 0, AV.int .u64 0, AV.int .i64 0], AV.int .i64 n_4]) [AObj.row 26 6 [AV.bool false, AV.int .u64 0, AV.int .u64 0, AV.int .u64 0, AV.int .u64 0, AV.int .i64 0], AObj.row 24 4 [AV.int .u64 n, AV.int .u64 n_1, AV.int .u64 n_2, AV.int .u64 n_3]]) (R (AV.tup [AV.agg [AV.bool true, AV.int .u64 n, AV.int .u64 n_1, AV.int .u64 n_2, AV.int .u64 n_3, AV.int .i64 (↑(List.length s_2) : Int)], AV.int .i64 0]) [AObj.row 26 6 [AV.bool true, AV.int .u64 n, AV.int .u64 n_1, AV.int .u64 n_2, AV.int .u64 n_3, AV.int .i64 (↑(List.length s_2) : Int)], AObj.row 24 4 [AV.int .u64 n, AV.int .u64 n_1, AV.int .u64 n_2, AV.int .u64 n_3]])))))) (∃ (s : List UInt8), ∃ (s_2 : List UInt8), ∃ (b : Bool), TbE.s { f := 29, s := fun (vs : List AV) (x : AHeap) => sCut vs, r := Rs.tup [Rs1.one K1.str, Rs1.one K1.str, Rs1.one K1.bool] } [AV.str s_1, AV.str [46]] [AObj.row 26 6 [AV.bool false, AV.int .u64 0, AV.int .u64 0, AV.int .u64 0, AV.int .u64 0, AV.int .i64 0]] = some (AV.tup [AV.str s, AV.str s_2, AV.bool b]) ∧ askB b (askB (decide ((↑(List.length s_2) : Int) > 18)) (R (AV.tup [AV.agg [AV.bool false, AV.int .u64 0, AV.int .u64 0, AV.int .u64 0, AV.int .u64 0, AV.int .i64 0], AV.int .i64 31]) [AObj.row 26 6 [AV.bool false, AV.int .u64 0, AV.int .u64 0, AV.int .u64 0, AV.int .u64 0, AV.int .i64 0]]) (chkW (decide (List.length s + List.length s_2 ≤ 9223372036854775807)) (∃ (s_3 : List UInt8), some (AV.str (Lib.trimLeftB (s ++ s_2) 48)) = some (AV.str s_3) ∧ askB (s_3 == []) (∃ (n : Int), ∃ (n_1 : Int), ∃ (n_2 : Int), ∃ (n_3 : Int), ∃ (n_4 : Int), some (AV.tup [AV.agg [AV.int .u64 0, AV.int .u64 0, AV.int .u64 0, AV.int .u64 0], AV.int .i64 0]) = some (AV.tup [AV.agg [AV.int .u64 n, AV.int .u64 n_1, AV.int .u64 n_2, AV.int .u64 n_3], AV.int .i64 n_4]) ∧ askB (n_4 != 0) (R (AV.tup [AV.agg [AV.bool false, AV.int .u64 0, AV.int .u64 0, AV.int .u64 0, AV.int .u64 0, AV.int .i64 0], AV.int .i64 n_4]) [AObj.row 26 6 [AV.bool false, AV.int .u64 0, AV.int .u64 0, AV.int .u64 0, AV.int .u64 0, AV.int .i64 0], AObj.row 24 4 [AV.int .u64 n, AV.int .u64 n_1, AV.int .u64 n_2, AV.int .u64 n_3]]) (R (AV.tup [AV.agg [AV.bool false, AV.int .u64 n, AV.int .u64 n_1, AV.int .u64 n_2, AV.int .u64 n_3, AV.int .i64 (↑(List.length s_2) : Int)], AV.int .i64 0]) [AObj.row 26 6 [AV.bool false, AV.int .u64 n, AV.int .u64 n_1, AV.int .u64 n_2, AV.int .u64 n_3, AV.int .i64 (↑(List.length s_2) : Int)], AObj.row 24 4 [AV.int .u64 n, AV.int .u64 n_1, AV.int .u64 n_2, AV.int .u64 n_3]])) (∃ (n : Int), ∃ (n_1 : Int), ∃ (n_2 : Int), ∃ (n_3 : Int), ∃ (n_4 : Int), TbE.s { f := 31, s := fun (vs : List AV) (x : AHeap) => sParseN vs, r := Rs.tup [ag4, Rs1.one (K1.int .i64)] } [AV.str s_3] [AObj.row 26 6 [AV.bool false, AV.int .u64 0, AV.int .u64 0, AV.int .u64 0, AV.int .u64 0, AV.int .i64 0], AObj.hole] = some (AV.tup [AV.agg [AV.int .u64 n, AV.int .u64 n_1, AV.int .u64 n_2, AV.int .u64 n_3], AV.int .i64 n_4]) ∧ askB (n_4 != 0) (R (AV.tup [AV.agg [AV.bool false, AV.int .u64 0, AV.int .u64 0, AV.int .u64 0, AV.int .u64 0, AV.int .i64 0], AV.int .i64 n_4]) [AObj.row 26 6 [AV.bool false, AV.int .u64 0, AV.int .u64 0, AV.int .u64 0, AV.int .u64 0, AV.int .i64 0], AObj.row 24 4 [AV.int .u64 n, AV.int .u64 n_1, AV.int .u64 n_2, AV.int .u64 n_3]]) (R (AV.tup [AV.agg [AV.bool false, AV.int .u64 n, AV.int .u64 n_1, AV.int .u64 n_2, AV.int .u64 n_3, AV.int .i64 (↑(List.length s_2) : Int)], AV.int .i64 0]) [AObj.row 26 6 [AV.bool false, AV.int .u64 n, AV.int .u64 n_1, AV.int .u64 n_2, AV.int .u64 n_3, AV.int .i64 (↑(List.length s_2) : Int)], AObj.row 24 4 [AV.int .u64 n, AV.int .u64 n_1, AV.int .u64 n_2, AV.int .u64 n_3]]))))) (askB (decide ((↑(List.length s_2) : Int) > 18)) (R (AV.tup [AV.agg [AV.bool false, AV.int .u64 0, AV.int .u64 0, AV.int .u64 0, AV.int .u64 0, AV.int .i64 0], AV.int .i64 31]) [AObj.row 26 6 [AV.bool false, AV.int .u64 0, AV.int .u64 0, AV.int .u64 0, AV.int .u64 0, AV.int .i64 0]]) (chkW (decide (List.length s + List.length s_2 ≤ 9223372036854775807)) (∃ (s_3 : List UInt8), some (AV.str (Lib.trimLeftB (s ++ s_2) 48)) = some (AV.str s_3) ∧ askB (s_3 == []) (∃ (n : Int), ∃ (n_1 : Int), ∃ (n_2 : Int), ∃ (n_3 : Int), ∃ (n_4 : Int), some (AV.tup [AV.agg [AV.int .u64 0, AV.int .u64 0, AV.int .u64 0, AV.int .u64 0], AV.int .i64 0]) = some (AV.tup [AV.agg [AV.int .u64 n, AV.int .u64 n_1, AV.int .u64 n_2, AV.int .u64 n_3], AV.int .i64 n_4]) ∧ askB (n_4 != 0) (R (AV.tup [AV.agg [AV.bool false, AV.int .u64 0, AV.int .u64 0, AV.int .u64 0, AV.int .u64 0, AV.int .i64 0], AV.int .i64 n_4]) [AObj.row 26 6 [AV.bool false, AV.int .u64 0, AV.int .u64 0, AV.int .u64 0, AV.int .u64 0, AV.int .i64 0], AObj.row 24 4 [AV.int .u64 n, AV.int .u64 n_1, AV.int .u64 n_2, AV.int .u64 n_3]]) (R (AV.tup [AV.agg [AV.bool false, AV.int .u64 n, AV.int .u64 n_1, AV.int .u64 n_2, AV.int .u64 n_3, AV.int .i64 (↑(List.length s_2) : Int)], AV.int .i64 0]) [AObj.row 26 6 [AV.bool false, AV.int .u64 n, AV.int .u64 n_1, AV.int .u64 n_2, AV.int .u64 n_3, AV.int .i64 (↑(List.length s_2) : Int)], AObj.row 24 4 [AV.int .u64 n, AV.int .u64 n_1, AV.int .u64 n_2, AV.int .u64 n_3]])) (∃ (n : Int), ∃ (n_1 : Int), ∃ (n_2 : Int), ∃ (n_3 : Int), ∃ (n_4 : Int), TbE.s { f := 31, s := fun (vs : List AV) (x : AHeap) => sParseN vs, r := Rs.tup [ag4, Rs1.one (K1.int .i64)] } [AV.str s_3] [AObj.row 26 6 [AV.bool false, AV.int .u64 0, AV.int .u64 0, AV.int .u64 0, AV.int .u64 0, AV.int .i64 0], AObj.hole] = some (AV.tup [AV.agg [AV.int .u64 n, AV.int .u64 n_1, AV.int .u64 n_2, AV.int .u64 n_3], AV.int .i64 n_4]) ∧ askB (n_4 != 0) (R (AV.tup [AV.agg [AV.bool false, AV.int .u64 0, AV.int .u64 0, AV.int .u64 0, AV.int .u64 0, AV.int .i64 0], AV.int .i64 n_4]) [AObj.row 26 6 [AV.bool false, AV.int .u64 0, AV.int .u64 0, AV.int .u64 0, AV.int .u64 0, AV.int .i64 0], AObj.row 24 4 [AV.int .u64 n, AV.int .u64 n_1, AV.int .u64 n_2, AV.int .u64 n_3]]) (R (AV.tup [AV.agg [AV.bool false, AV.int .u64 n, AV.int .u64 n_1, AV.int .u64 n_2, AV.int .u64 n_3, AV.int .i64 (↑(List.length s_2) : Int)], AV.int .i64 0]) [AObj.row 26 6 [AV.bool false, AV.int .u64 n, AV.int .u64 n_1, AV.int .u64 n_2, AV.int .u64 n_3, AV.int .i64 (↑(List.length s_2) : Int)], AObj.row 24 4 [AV.int .u64 n, AV.int .u64 n_1, AV.int .u64 n_2, AV.int .u64 n_3]]))))))))) = (wpF Tryd.prog (tbC Q tb38 (fun _ => false) kdI) 80 p38 [.str s] [] R) := by kernel_rfl
theorem cut61_ok : QuietOK Tryd.prog 58 fun vs _ => sCut vs := quiet_plain ht61 fun args v h => by
  unfold sCut at h
  split at h
  · rename_i s c
    split at h
    · rename_i hs
      cases h
      refine ⟨rfl, rfl, ?_⟩
      have hS : (tbS Q tb61).OK Tryd.prog := tbS_ok quietText (by
        intro x hx
        simp only [tb61, List.mem_cons, List.not_mem_nil, or_false] at hx
        subst hx
        exact indexOne_ok)
      obtain ⟨i1, i2⟩ := ix_lt s c
      obtain ⟨u, h', rfl, hsem⟩ := sem_vc mixed (C := tbC Q tb61 (fun _ => false) kdI) hS (tbS_q _ _) (tbW_ok rfl) ht61 c61 (no_parts rfl) (v61 s c fun u _ => u = .tup [.str (cut1 s c).1, .str (cut1 s c).2.1, .bool (cut1 s c).2.2]) (by
        refine ⟨_, rfl, askI (fun g1 => ?_) fun g1 => ?_⟩
        · simp only [decide_eq_true_eq] at g1
          have hw : IntKind.wrap .i64 (Lib.indexByte s c + ((List.length [c] : Nat) : Int)) = Lib.indexByte s c + 1 := by
            have e : ((List.length [c] : Nat) : Int) = 1 := rfl
            rw [e, IntKind.wrap_i64]; omega
          rw [hw]
          refine chkI (decide_eq_true (by omega)) (chkI (decide_eq_true (by omega)) (chkI (decide_eq_true (by omega)) (chkI (decide_eq_true (by omega)) ?_)))
          unfold cut1
          rw [if_pos g1, List.drop_zero, List.take_of_length_le (Nat.le_refl _), show (Lib.indexByte s c + 1).toNat = (Lib.indexByte s c).toNat + 1 by omega]
        · simp only [decide_eq_false_iff_not] at g1
          unfold cut1
          rw [if_neg g1])
      exact ⟨h', hsem⟩
    · cases h
  · cases h
theorem cut_ok : QuietOK Tryd.prog 29 fun vs _ => sCut vs := quiet_plain ht51 fun args v h => by
  unfold sCut at h
  split at h
  · rename_i s c
    split at h
    · rename_i hs
      cases h
      refine ⟨rfl, rfl, ?_⟩
      have hS : (tbS Q tb51).OK Tryd.prog := tbS_ok quietText (by
        intro x hx
        simp only [tb51, List.mem_cons, List.not_mem_nil, or_false] at hx
        subst hx
        exact cut61_ok)
      obtain ⟨u, h', rfl, hsem⟩ := sem_vc mixed (C := tbC Q tb51 (fun _ => false) kdI) hS (tbS_q _ _) (tbW_ok rfl) ht51 c51 (no_parts rfl) (v51 s c fun u _ => u = .tup [.str (cut1 s c).1, .str (cut1 s c).2.1, .bool (cut1 s c).2.2]) (by
        refine ⟨(cut1 s c).1, (cut1 s c).2.1, (cut1 s c).2.2, if_pos hs, askI (fun g => by rw [g]) fun g => by rw [g]⟩)
      exact ⟨h', hsem⟩
    · cases h
  · cases h
theorem cut1_len (s : List UInt8) (c : UInt8) : (cut1 s c).1.length ≤ s.length ∧ (cut1 s c).2.1.length ≤ s.length := by
  unfold cut1
  split
  · simp only [List.length_take, List.length_drop]; omega
  · simp
theorem trimP_len (s p : List UInt8) : (Lib.trimPrefix s p).length ≤ s.length := by
  unfold Lib.trimPrefix
  split
  · simp only [List.length_drop]; omega
  · exact Nat.le_refl _
theorem dropW_len (p : UInt8 → Bool) : ∀ l : List UInt8, (l.dropWhile p).length ≤ l.length
  | [] => Nat.le_refl _
  | a :: l => by
    rw [List.dropWhile_cons]
    split
    · exact Nat.le_trans (dropW_len p l) (Nat.le_succ _)
    · exact Nat.le_refl _
theorem trim_len (w d : List UInt8) (h : w.length + d.length ≤ 1099511627776) : (Lib.trimLeftB (w ++ d) 48).length ≤ 1099511627776 := by
  have := dropW_len (· == 48) (w ++ d)
  rw [List.length_append] at this
  unfold Lib.trimLeftB
  omega
theorem cut_at {t : List UInt8} {c : UInt8} (h : t.length ≤ 1099511627776) : sCut [.str t, .str [c]] = some (.tup [.str (cut1 t c).1, .str (cut1 t c).2.1, .bool (cut1 t c).2.2]) := if_pos h
theorem pfx_at {t : List UInt8} (h : t.length ≤ 1099511627776) : sPrefix [.str t] = some (.int .i64 (prefixF t)) := if_pos (by omega)
theorem pw_long {neg : Bool} {w d : List UInt8} (h : d.length > 18) : parseWD neg w d = (false, 0, 0, 31) := if_pos h
theorem pw_err {neg : Bool} {w d : List UInt8} (h : ¬ d.length > 18) (e : ((parseN (digX w d)).2 != 0) = true) : parseWD neg w d = (false, 0, 0, (parseN (digX w d)).2) := by
  unfold parseWD; rw [if_neg h, if_pos e]
theorem pw_ok {neg : Bool} {w d : List UInt8} (h : ¬ d.length > 18) (e : ((parseN (digX w d)).2 != 0) = false) : parseWD neg w d = ((neg, (parseN (digX w d)).1, (d.length : Int), 0) : Bool × Int × Int × Int) := by
  unfold parseWD; rw [if_neg h, if_neg (by rw [e]; decide)]
theorem parse_dec_ok : QuietOK Tryd.prog 13 fun vs _ => sParseD vs := quiet_plain ht38 fun args v h => by
  unfold sParseD at h
  split at h
  · rename_i s
    split at h
    · rename_i hs
      cases h
      refine ⟨rfl, rfl, ?_⟩
      have hS : (tbS Q tb38).OK Tryd.prog := tbS_ok quietText (by
        intro x hx
        simp only [tb38, List.mem_cons, List.not_mem_nil, or_false] at hx
        rcases hx with rfl | rfl | rfl | rfl | rfl
        · exact prefix_ok
        · exact cutPrefix_ok
        · exact cut_ok
        · exact trimLeft_ok
        · exact parse_ok)
      have c1 := trimP_len s [45]
      obtain ⟨c2, c3⟩ := cut1_len (Lib.trimPrefix s [45]) 46
      obtain ⟨u, h', rfl, hsem⟩ := sem_vc mixed (C := tbC Q tb38 (fun _ => false) kdI) hS (tbS_q _ _) (tbW_ok rfl) ht38 c38 (no_parts rfl) (v38 s fun u _ => u = X s) (by
        refine askI (fun e0 => ?_) fun e0 => ?_
        · show _ = X s
          unfold X parseD; rw [if_pos (by rw [e0]; rfl)]; rfl
        refine ⟨_, pfx_at (by omega), askI (fun e00 => ?_) fun e00 => ?_⟩
        · show _ = X s
          unfold X parseD; rw [if_pos (by rw [e00]; simp)]; rfl
        refine ⟨_, _, rfl, askI (fun eb => ?_) fun eb => ?_⟩
        · refine ⟨_, _, _, cut_at (t := Lib.trimPrefix s [45]) (by omega), ?_⟩
          have hW : (cut1 (Lib.trimPrefix s [45]) 46).1.length ≤ 1048577 := by omega
          have hD : (cut1 (Lib.trimPrefix s [45]) 46).2.1.length ≤ 1048577 := by omega
          have hp : X s = decX (parseWD true (cut1 (Lib.trimPrefix s [45]) 46).1 (cut1 (Lib.trimPrefix s [45]) 46).2.1) := by
            unfold X parseD; rw [if_neg (by rw [e0, e00]; decide), show Lib.hasPrefix s [45] = true from eb]
          clear eb
          revert hW hD hp
          generalize (cut1 (Lib.trimPrefix s [45]) 46).1 = Wh
          generalize (cut1 (Lib.trimPrefix s [45]) 46).2.1 = D
          intro hW hD hp
          refine askI (fun _ => ?_) fun _ => ?_
          · refine askI (fun e1 => ?_) fun e1 => ?_
            · simp only [decide_eq_true_eq] at e1
              rw [hp, pw_long (by omega)]; rfl
            simp only [decide_eq_false_iff_not] at e1
            have hd18 : ¬ D.length > 18 := by omega
            refine chkI (decide_eq_true (by omega)) ⟨_, rfl, askI (fun e2 => ?_) fun e2 => ?_⟩
            · have hx : digX Wh D = [48] := if_pos e2
              have h48 : parseN [48] = (0, 0) := by decide +kernel
              refine ⟨0, 0, 0, 0, 0, rfl, ?_⟩
              rw [hp, pw_ok hd18 (by rw [hx, h48]; rfl), hx, h48]; rfl
            · have hx : digX Wh D = Lib.trimLeftB (Wh ++ D) 48 := if_neg (by rw [e2]; decide)
              refine ⟨_, _, _, _, _, parseN_at (trim_len Wh D (by omega)), askI (fun e3 => ?_) fun e3 => ?_⟩
              · rw [hp, pw_err hd18 (by rw [hx]; exact e3), hx]; rfl
              · rw [hp, pw_ok hd18 (by rw [hx]; exact e3), hx]; rfl
          · refine askI (fun e1 => ?_) fun e1 => ?_
            · simp only [decide_eq_true_eq] at e1
              rw [hp, pw_long (by omega)]; rfl
            simp only [decide_eq_false_iff_not] at e1
            have hd18 : ¬ D.length > 18 := by omega
            refine chkI (decide_eq_true (by omega)) ⟨_, rfl, askI (fun e2 => ?_) fun e2 => ?_⟩
            · have hx : digX Wh D = [48] := if_pos e2
              have h48 : parseN [48] = (0, 0) := by decide +kernel
              refine ⟨0, 0, 0, 0, 0, rfl, ?_⟩
              rw [hp, pw_ok hd18 (by rw [hx, h48]; rfl), hx, h48]; rfl
            · have hx : digX Wh D = Lib.trimLeftB (Wh ++ D) 48 := if_neg (by rw [e2]; decide)
              refine ⟨_, _, _, _, _, parseN_at (trim_len Wh D (by omega)), askI (fun e3 => ?_) fun e3 => ?_⟩
              · rw [hp, pw_err hd18 (by rw [hx]; exact e3), hx]; rfl
              · rw [hp, pw_ok hd18 (by rw [hx]; exact e3), hx]; rfl
        · refine ⟨_, _, _, cut_at (t := Lib.trimPrefix s [45]) (by omega), ?_⟩
          have hW : (cut1 (Lib.trimPrefix s [45]) 46).1.length ≤ 1048577 := by omega
          have hD : (cut1 (Lib.trimPrefix s [45]) 46).2.1.length ≤ 1048577 := by omega
          have hp : X s = decX (parseWD false (cut1 (Lib.trimPrefix s [45]) 46).1 (cut1 (Lib.trimPrefix s [45]) 46).2.1) := by
            unfold X parseD; rw [if_neg (by rw [e0, e00]; decide), show Lib.hasPrefix s [45] = false from eb]
          clear eb
          revert hW hD hp
          generalize (cut1 (Lib.trimPrefix s [45]) 46).1 = Wh
          generalize (cut1 (Lib.trimPrefix s [45]) 46).2.1 = D
          intro hW hD hp
          refine askI (fun _ => ?_) fun _ => ?_
          · refine askI (fun e1 => ?_) fun e1 => ?_
            · simp only [decide_eq_true_eq] at e1
              rw [hp, pw_long (by omega)]; rfl
            simp only [decide_eq_false_iff_not] at e1
            have hd18 : ¬ D.length > 18 := by omega
            refine chkI (decide_eq_true (by omega)) ⟨_, rfl, askI (fun e2 => ?_) fun e2 => ?_⟩
            · have hx : digX Wh D = [48] := if_pos e2
              have h48 : parseN [48] = (0, 0) := by decide +kernel
              refine ⟨0, 0, 0, 0, 0, rfl, ?_⟩
              rw [hp, pw_ok hd18 (by rw [hx, h48]; rfl), hx, h48]; rfl
            · have hx : digX Wh D = Lib.trimLeftB (Wh ++ D) 48 := if_neg (by rw [e2]; decide)
              refine ⟨_, _, _, _, _, parseN_at (trim_len Wh D (by omega)), askI (fun e3 => ?_) fun e3 => ?_⟩
              · rw [hp, pw_err hd18 (by rw [hx]; exact e3), hx]; rfl
              · rw [hp, pw_ok hd18 (by rw [hx]; exact e3), hx]; rfl
          · refine askI (fun e1 => ?_) fun e1 => ?_
            · simp only [decide_eq_true_eq] at e1
              rw [hp, pw_long (by omega)]; rfl
            simp only [decide_eq_false_iff_not] at e1
            have hd18 : ¬ D.length > 18 := by omega
            refine chkI (decide_eq_true (by omega)) ⟨_, rfl, askI (fun e2 => ?_) fun e2 => ?_⟩
            · have hx : digX Wh D = [48] := if_pos e2
              have h48 : parseN [48] = (0, 0) := by decide +kernel
              refine ⟨0, 0, 0, 0, 0, rfl, ?_⟩
              rw [hp, pw_ok hd18 (by rw [hx, h48]; rfl), hx, h48]; rfl
            · have hx : digX Wh D = Lib.trimLeftB (Wh ++ D) 48 := if_neg (by rw [e2]; decide)
              refine ⟨_, _, _, _, _, parseN_at (trim_len Wh D (by omega)), askI (fun e3 => ?_) fun e3 => ?_⟩
              · rw [hp, pw_err hd18 (by rw [hx]; exact e3), hx]; rfl
              · rw [hp, pw_ok hd18 (by rw [hx]; exact e3), hx]; rfl
        )
      exact ⟨h', hsem⟩
    · cases h
  · cases h
def sTen : List AV → Option AV
  | [.int .i64 n] => if 0 ≤ n ∧ n ≤ 77 then some (.tup [.agg (limbs (10 ^ n.toNat)), .bool true]) else none
  | _ => none
def nz4 (a b c d : Int) : Bool := !(a == 0 && (b == 0 && (c == 0 && (d == 0 && true))))
def sMade : List AV → Option AV
  | [.bool neg, .agg [.int .u64 h0, .int .u64 h1, .int .u64 h2, .int .u64 h3, .int .u64 l0, .int .u64 l1, .int .u64 l2, .int .u64 l3], .int .i64 sc] =>
    some (if nz4 h0 h1 h2 h3 then .tup [.agg [.bool false, .int .u64 0, .int .u64 0, .int .u64 0, .int .u64 0, .int .i64 0], .int .i64 7] else .tup [.agg [.bool (neg && nz4 l0 l1 l2 l3), .int .u64 l0, .int .u64 l1, .int .u64 l2, .int .u64 l3, .int .i64 sc], .int .i64 0])
  | _ => none
def sCheck : List AV → Option AV
  | [.agg [.bool neg, .int .u64 l0, .int .u64 l1, .int .u64 l2, .int .u64 l3, .int .i64 sc]] => some (.int .i64 (if decide (sc < 0) || decide (sc > 18) || (neg && !(nz4 l0 l1 l2 l3)) then 20 else 0))
  | _ => none
def sMay : List AV → Option AV
  | [.int .i64 sc, .int .i64 p] => some (.int .i64 (if decide (sc < 0) || decide (sc > 18) then 21 else if decide (p < 1) || decide (p > 5) then 22 else 0))
  | _ => none
def ag8 : Rs1 := .agg [.int .u64, .int .u64, .int .u64, .int .u64, .int .u64, .int .u64, .int .u64, .int .u64]
def tb71 : List TbE := [⟨63, fun vs _ => sFrom vs, .of ag4⟩, ⟨62, fun vs _ => sMul vs, .tup [ag4, ag4]⟩]
def tn4 (v : Int) : AObj := .row 24 4 (limbs v)
def q71t (n : Int) (v i : Int) : St := (envOf 24 [(2, .ptr (some (0, 0))), (4, .ptr (some (1, 0))), (13, .int .i64 n), (14, .int .i64 i)], [tn4 0, tn4 v])
def t71t : Tidy := ⟨dropT 24 [2, 4, 13, 14], .rows [0, 1]⟩
def x71t : Tidy := ⟨dropT 24 [2, 4], .rows [0, 1]⟩
def C71t : Cfg := tbC Q tb71 (fun _ => false) kdI
def C71T (n : Nat) : Cfg := { C71t with
  lw := fun id => if id = 5 then some fun st K => st = q71t n 1 0 ∧ K (.exit 0) (envOf 24 [(2, .ptr (some (0, 0))), (4, .ptr (some (1, 0)))], [tn4 0, tn4 (10 ^ n)]) else none
  F := fun id => if id = 5 then t71t else ⟨[], .all⟩ }
def tb42 : List TbE := [⟨71, fun vs _ => sTen vs, .tup [ag4, .one .bool]⟩, ⟨62, fun vs _ => sMul vs, .tup [ag4, ag4]⟩]
theorem v71tb (n : Nat) (v : Int) (i : Nat) (K : AExit → St → Prop) : (askB (decide ((↑i : Int) < (↑n : Int))) (∃ (n_1 : Int), ∃ (n_2 : Int), ∃ (n_3 : Int), ∃ (n_4 : Int), some (AV.agg [AV.int .u64 10, AV.int .u64 0, AV.int .u64 0, AV.int .u64 0]) = some (AV.agg [AV.int .u64 n_1, AV.int .u64 n_2, AV.int .u64 n_3, AV.int .u64 n_4]) ∧ ∃ (n_5 : Int), ∃ (n_6 : Int), ∃ (n_7 : Int), ∃ (n_8 : Int), ∃ (n_9 : Int), ∃ (n_10 : Int), ∃ (n_11 : Int), ∃ (n_12 : Int), sMul [AV.agg [AV.int .u64 (v % 18446744073709551616), AV.int .u64 (v / 18446744073709551616 % 18446744073709551616), AV.int .u64 (v / 18446744073709551616 / 18446744073709551616 % 18446744073709551616), AV.int .u64 (v / 18446744073709551616 / 18446744073709551616 / 18446744073709551616 % 18446744073709551616)], AV.agg [AV.int .u64 n_1, AV.int .u64 n_2, AV.int .u64 n_3, AV.int .u64 n_4]] = some (AV.tup [AV.agg [AV.int .u64 n_5, AV.int .u64 n_6, AV.int .u64 n_7, AV.int .u64 n_8], AV.agg [AV.int .u64 n_9, AV.int .u64 n_10, AV.int .u64 n_11, AV.int .u64 n_12]]) ∧ K AExit.normal (envOf 24 [(2, AV.ptr (some (0, 0))), (4, AV.ptr (some (1, 0))), (13, AV.int .i64 (↑n : Int)), (14, AV.int .i64 (IntKind.wrap .i64 ((↑i : Int) + 1)))], [AObj.row 24 4 [AV.int .u64 0, AV.int .u64 0, AV.int .u64 0, AV.int .u64 0], AObj.row 24 4 [AV.int .u64 n_9, AV.int .u64 n_10, AV.int .u64 n_11, AV.int .u64 n_12]])) (K (AExit.exit 0) (envOf 24 [(2, AV.ptr (some (0, 0))), (4, AV.ptr (some (1, 0)))], [AObj.row 24 4 [AV.int .u64 0, AV.int .u64 0, AV.int .u64 0, AV.int .u64 0], AObj.row 24 4 [AV.int .u64 (v % 18446744073709551616), AV.int .u64 (v / 18446744073709551616 % 18446744073709551616), AV.int .u64 (v / 18446744073709551616 / 18446744073709551616 % 18446744073709551616), AV.int .u64 (v / 18446744073709551616 / 18446744073709551616 / 18446744073709551616 % 18446744073709551616)]]))) = (wpP Tryd.prog C71t 60 (.inl pz71_l0) (q71t n v i) (postX C71t t71t x71t x71t K)) := by kernel_rfl
theorem v71t (n : Nat) (R : AV → AHeap → Prop) : (askB (decide ((↑n : Int) > 77)) (R (AV.tup [AV.agg [AV.int .u64 0, AV.int .u64 0, AV.int .u64 0, AV.int .u64 0], AV.bool false]) [AObj.row 24 4 [AV.int .u64 0, AV.int .u64 0, AV.int .u64 0, AV.int .u64 0]]) (∃ (n_1 : Int), ∃ (n_2 : Int), ∃ (n_3 : Int), ∃ (n_4 : Int), some (AV.agg [AV.int .u64 1, AV.int .u64 0, AV.int .u64 0, AV.int .u64 0]) = some (AV.agg [AV.int .u64 n_1, AV.int .u64 n_2, AV.int .u64 n_3, AV.int .u64 n_4]) ∧ (envOf 24 [(2, AV.ptr (some (0, 0))), (4, AV.ptr (some (1, 0))), (13, AV.int .i64 (↑n : Int)), (14, AV.int .i64 0)], [AObj.row 24 4 [AV.int .u64 0, AV.int .u64 0, AV.int .u64 0, AV.int .u64 0], AObj.row 24 4 [AV.int .u64 n_1, AV.int .u64 n_2, AV.int .u64 n_3, AV.int .u64 n_4]]) = (envOf 24 [(2, AV.ptr (some (0, 0))), (4, AV.ptr (some (1, 0))), (13, AV.int .i64 (↑n : Int)), (14, AV.int .i64 0)], [AObj.row 24 4 [AV.int .u64 0, AV.int .u64 0, AV.int .u64 0, AV.int .u64 0], AObj.row 24 4 [AV.int .u64 1, AV.int .u64 0, AV.int .u64 0, AV.int .u64 0]]) ∧ R (AV.tup [AV.agg [AV.int .u64 (10 ^ n % 18446744073709551616), AV.int .u64 (10 ^ n / 18446744073709551616 % 18446744073709551616), AV.int .u64 (10 ^ n / 18446744073709551616 / 18446744073709551616 % 18446744073709551616), AV.int .u64 (10 ^ n / 18446744073709551616 / 18446744073709551616 / 18446744073709551616 % 18446744073709551616)], AV.bool true]) [AObj.row 24 4 [AV.int .u64 (10 ^ n % 18446744073709551616), AV.int .u64 (10 ^ n / 18446744073709551616 % 18446744073709551616), AV.int .u64 (10 ^ n / 18446744073709551616 / 18446744073709551616 % 18446744073709551616), AV.int .u64 (10 ^ n / 18446744073709551616 / 18446744073709551616 / 18446744073709551616 % 18446744073709551616)], AObj.row 24 4 [AV.int .u64 (10 ^ n % 18446744073709551616), AV.int .u64 (10 ^ n / 18446744073709551616 % 18446744073709551616), AV.int .u64 (10 ^ n / 18446744073709551616 / 18446744073709551616 % 18446744073709551616), AV.int .u64 (10 ^ n / 18446744073709551616 / 18446744073709551616 / 18446744073709551616 % 18446744073709551616)]])) = (wpF Tryd.prog (C71T n) 60 pz71 [.int .i64 n] [] R) := by kernel_rfl
theorem v42t (a0 a1 a2 a3 : Int) (n : Int) (R : AV → AHeap → Prop) : (∃ (n_1 : Int), ∃ (n_2 : Int), ∃ (n_3 : Int), ∃ (n_4 : Int), ∃ (b : Bool), sTen [AV.int .i64 n] = some (AV.tup [AV.agg [AV.int .u64 n_1, AV.int .u64 n_2, AV.int .u64 n_3, AV.int .u64 n_4], AV.bool b]) ∧ askB b (∃ (n : Int), ∃ (n_5 : Int), ∃ (n_6 : Int), ∃ (n_7 : Int), ∃ (n_8 : Int), ∃ (n_9 : Int), ∃ (n_10 : Int), ∃ (n_11 : Int), sMul [AV.agg [AV.int .u64 a0, AV.int .u64 a1, AV.int .u64 a2, AV.int .u64 a3], AV.agg [AV.int .u64 n_1, AV.int .u64 n_2, AV.int .u64 n_3, AV.int .u64 n_4]] = some (AV.tup [AV.agg [AV.int .u64 n, AV.int .u64 n_5, AV.int .u64 n_6, AV.int .u64 n_7], AV.agg [AV.int .u64 n_8, AV.int .u64 n_9, AV.int .u64 n_10, AV.int .u64 n_11]]) ∧ R (AV.agg [AV.int .u64 n, AV.int .u64 n_5, AV.int .u64 n_6, AV.int .u64 n_7, AV.int .u64 n_8, AV.int .u64 n_9, AV.int .u64 n_10, AV.int .u64 n_11]) [AObj.row 24 4 [AV.int .u64 a0, AV.int .u64 a1, AV.int .u64 a2, AV.int .u64 a3], AObj.row 62 8 [AV.int .u64 n, AV.int .u64 n_5, AV.int .u64 n_6, AV.int .u64 n_7, AV.int .u64 n_8, AV.int .u64 n_9, AV.int .u64 n_10, AV.int .u64 n_11], AObj.row 24 4 [AV.int .u64 n_1, AV.int .u64 n_2, AV.int .u64 n_3, AV.int .u64 n_4], AObj.row 24 4 [AV.int .u64 n, AV.int .u64 n_5, AV.int .u64 n_6, AV.int .u64 n_7], AObj.row 24 4 [AV.int .u64 n_8, AV.int .u64 n_9, AV.int .u64 n_10, AV.int .u64 n_11]]) (∃ (n : Int), ∃ (n_5 : Int), ∃ (n_6 : Int), ∃ (n_7 : Int), ∃ (n_8 : Int), ∃ (n_9 : Int), ∃ (n_10 : Int), ∃ (n_11 : Int), sMul [AV.agg [AV.int .u64 a0, AV.int .u64 a1, AV.int .u64 a2, AV.int .u64 a3], AV.agg [AV.int .u64 n_1, AV.int .u64 n_2, AV.int .u64 n_3, AV.int .u64 n_4]] = some (AV.tup [AV.agg [AV.int .u64 n, AV.int .u64 n_5, AV.int .u64 n_6, AV.int .u64 n_7], AV.agg [AV.int .u64 n_8, AV.int .u64 n_9, AV.int .u64 n_10, AV.int .u64 n_11]]) ∧ R (AV.agg [AV.int .u64 n, AV.int .u64 n_5, AV.int .u64 n_6, AV.int .u64 n_7, AV.int .u64 n_8, AV.int .u64 n_9, AV.int .u64 n_10, AV.int .u64 n_11]) [AObj.row 24 4 [AV.int .u64 a0, AV.int .u64 a1, AV.int .u64 a2, AV.int .u64 a3], AObj.row 62 8 [AV.int .u64 n, AV.int .u64 n_5, AV.int .u64 n_6, AV.int .u64 n_7, AV.int .u64 n_8, AV.int .u64 n_9, AV.int .u64 n_10, AV.int .u64 n_11], AObj.row 24 4 [AV.int .u64 n_1, AV.int .u64 n_2, AV.int .u64 n_3, AV.int .u64 n_4], AObj.row 24 4 [AV.int .u64 n, AV.int .u64 n_5, AV.int .u64 n_6, AV.int .u64 n_7], AObj.row 24 4 [AV.int .u64 n_8, AV.int .u64 n_9, AV.int .u64 n_10, AV.int .u64 n_11]])) = (wpF Tryd.prog (tbC Q tb42 (fun _ => false) kdI) 60 pz42 [.agg [.int .u64 a0, .int .u64 a1, .int .u64 a2, .int .u64 a3], .int .i64 n] [] R) := by kernel_rfl
theorem v86t (neg : Bool) (a0 a1 a2 a3 : Int) (b0 b1 b2 b3 sc : Int) (R : AV → AHeap → Prop) : (askB (!(a0 == 0 && (a1 == 0 && (a2 == 0 && (a3 == 0 && true))))) (R (AV.tup [AV.agg [AV.bool false, AV.int .u64 0, AV.int .u64 0, AV.int .u64 0, AV.int .u64 0, AV.int .i64 0], AV.int .i64 7]) [AObj.row 62 8 [AV.int .u64 a0, AV.int .u64 a1, AV.int .u64 a2, AV.int .u64 a3, AV.int .u64 b0, AV.int .u64 b1, AV.int .u64 b2, AV.int .u64 b3], AObj.row 26 6 [AV.bool false, AV.int .u64 0, AV.int .u64 0, AV.int .u64 0, AV.int .u64 0, AV.int .i64 0]]) (askB neg (askB (!(b0 == 0 && (b1 == 0 && (b2 == 0 && (b3 == 0 && true))))) (R (AV.tup [AV.agg [AV.bool true, AV.int .u64 b0, AV.int .u64 b1, AV.int .u64 b2, AV.int .u64 b3, AV.int .i64 sc], AV.int .i64 0]) [AObj.row 62 8 [AV.int .u64 a0, AV.int .u64 a1, AV.int .u64 a2, AV.int .u64 a3, AV.int .u64 b0, AV.int .u64 b1, AV.int .u64 b2, AV.int .u64 b3], AObj.row 26 6 [AV.bool true, AV.int .u64 b0, AV.int .u64 b1, AV.int .u64 b2, AV.int .u64 b3, AV.int .i64 sc]]) (R (AV.tup [AV.agg [AV.bool false, AV.int .u64 b0, AV.int .u64 b1, AV.int .u64 b2, AV.int .u64 b3, AV.int .i64 sc], AV.int .i64 0]) [AObj.row 62 8 [AV.int .u64 a0, AV.int .u64 a1, AV.int .u64 a2, AV.int .u64 a3, AV.int .u64 b0, AV.int .u64 b1, AV.int .u64 b2, AV.int .u64 b3], AObj.row 26 6 [AV.bool false, AV.int .u64 b0, AV.int .u64 b1, AV.int .u64 b2, AV.int .u64 b3, AV.int .i64 sc]])) (R (AV.tup [AV.agg [AV.bool false, AV.int .u64 b0, AV.int .u64 b1, AV.int .u64 b2, AV.int .u64 b3, AV.int .i64 sc], AV.int .i64 0]) [AObj.row 62 8 [AV.int .u64 a0, AV.int .u64 a1, AV.int .u64 a2, AV.int .u64 a3, AV.int .u64 b0, AV.int .u64 b1, AV.int .u64 b2, AV.int .u64 b3], AObj.row 26 6 [AV.bool false, AV.int .u64 b0, AV.int .u64 b1, AV.int .u64 b2, AV.int .u64 b3, AV.int .i64 sc]]))) = (wpF Tryd.prog (tbC Q [] (fun _ => false) kdI) 60 pz86 [.bool neg, .agg [.int .u64 a0, .int .u64 a1, .int .u64 a2, .int .u64 a3, .int .u64 b0, .int .u64 b1, .int .u64 b2, .int .u64 b3], .int .i64 sc] [] R) := by kernel_rfl
theorem v21t (neg : Bool) (a0 a1 a2 a3 : Int) (sc : Int) (R : AV → AHeap → Prop) : (askB (decide (sc < 0)) (R (AV.int .i64 20) [AObj.row 26 6 [AV.bool neg, AV.int .u64 a0, AV.int .u64 a1, AV.int .u64 a2, AV.int .u64 a3, AV.int .i64 sc]]) (askB (decide (sc > 18)) (R (AV.int .i64 20) [AObj.row 26 6 [AV.bool neg, AV.int .u64 a0, AV.int .u64 a1, AV.int .u64 a2, AV.int .u64 a3, AV.int .i64 sc]]) (askB neg (askB (a0 == 0 && (a1 == 0 && (a2 == 0 && (a3 == 0 && true)))) (R (AV.int .i64 20) [AObj.row 26 6 [AV.bool neg, AV.int .u64 a0, AV.int .u64 a1, AV.int .u64 a2, AV.int .u64 a3, AV.int .i64 sc]]) (R (AV.int .i64 0) [AObj.row 26 6 [AV.bool neg, AV.int .u64 a0, AV.int .u64 a1, AV.int .u64 a2, AV.int .u64 a3, AV.int .i64 sc]])) (R (AV.int .i64 0) [AObj.row 26 6 [AV.bool neg, AV.int .u64 a0, AV.int .u64 a1, AV.int .u64 a2, AV.int .u64 a3, AV.int .i64 sc]])))) = (wpF Tryd.prog (tbC Q [] (fun _ => false) kdI) 60 pz21 [.agg [.bool neg, .int .u64 a0, .int .u64 a1, .int .u64 a2, .int .u64 a3, .int .i64 sc]] [] R) := by kernel_rfl
theorem v67t (sc p : Int) (R : AV → AHeap → Prop) : (askB (decide (sc < 0)) (R (AV.int .i64 21) []) (askB (decide (sc > 18)) (R (AV.int .i64 21) []) (askB (decide (p < 1)) (R (AV.int .i64 22) []) (askB (decide (p > 5)) (R (AV.int .i64 22) []) (R (AV.int .i64 0) []))))) = (wpF Tryd.prog (tbC Q [] (fun _ => false) kdI) 60 pz67 [.int .i64 sc, .int .i64 p] [] R) := by kernel_rfl
theorem pow_ten (i : Nat) (h : i ≤ 77) : 0 ≤ (10 : Int) ^ i ∧ (10 : Int) ^ i < 115792089237316195423570985008687907853269984665640564039457584007913129639936 := by
  have : ∀ j : Fin 78, 0 ≤ (10 : Int) ^ j.1 ∧ (10 : Int) ^ j.1 < 115792089237316195423570985008687907853269984665640564039457584007913129639936 := by decide +kernel
  exact this ⟨i, by omega⟩
theorem loop71t (n : Nat) (hn : n ≤ 77) : W Tryd.prog (tbS Q tb71) 0 (.inl (.loop pz71_l0)) (q71t n 1 0) (fun e st => e = .exit 0 ∧ st = (envOf 24 [(2, .ptr (some (0, 0))), (4, .ptr (some (1, 0)))], [tn4 0, tn4 (10 ^ n)])) := by
  have hcw : CwOK (tbS Q tb71) (tbW Q tb71) := tbW_ok rfl
  have main := W_roundsG (P := Tryd.prog) (S := tbS Q tb71) (b0 := 0) (a := pz71_l0) (fun i : Nat => q71t n (10 ^ i) i)
    (fun i => i ≤ n) (fun i => n - i) (fun _ e st => e = .exit 0 ∧ st = (envOf 24 [(2, .ptr (some (0, 0))), (4, .ptr (some (1, 0)))], [tn4 0, tn4 (10 ^ n)])) ?_ 0 (Nat.zero_le _)
  · exact main
  · rintro i h1
    refine W_wpX (C := C71t) hcw (by intro x hx; cases hx) (n := 60) (tn := t71t) (tx := x71t) (tr := x71t) ((v71tb n (10 ^ i) i _).mp ?_)
    rcases Nat.lt_or_ge i n with hi | hi
    · have w1 : IntKind.wrap .i64 ((i : Int) + 1) = ((i + 1 : Nat) : Int) := by rw [IntKind.wrap_i64]; omega
      obtain ⟨p1, p2⟩ := pow_ten i (by omega)
      have hnext : (10 : Int) ^ (i + 1) = 10 ^ i * 10 := Int.pow_succ ..
      rw [w1]
      generalize (10 : Int) ^ i = v at p1 p2 hnext ⊢
      refine askT (decide_eq_true (by omega)) ⟨10, 0, 0, 0, rfl, _, _, _, _, _, _, _, _, mul_ten p1 p2, i + 1, ?_, hi, by show n - (i + 1) < n - i; omega, fun _ _ h => h⟩
      show _ = q71t n (10 ^ (i + 1)) ((i + 1 : Nat) : Int)
      rw [hnext]
      rfl
    · have : i = n := by omega
      subst this
      exact askF (decide_eq_false (by omega)) ⟨rfl, rfl⟩
theorem ten71_ok : QuietOK Tryd.prog 71 fun vs _ => sTen vs := quiet_plain htz71 fun args v h => by
  unfold sTen at h
  split at h
  · rename_i z
    split at h
    · rename_i hs
      cases h
      refine ⟨rfl, rfl, ?_⟩
      have hS : (tbS Q tb71).OK Tryd.prog := tbS_ok quietText (by
        intro x hx
        simp only [tb71, List.mem_cons, List.not_mem_nil, or_false] at hx
        rcases hx with rfl | rfl
        · exact from_ok
        · exact mul_ok)
      obtain ⟨n, rfl⟩ : ∃ n : Nat, z = n := ⟨z.toNat, by omega⟩
      obtain ⟨u, h', rfl, hsem⟩ := sem_vc mixed (C := C71T n) hS (tbS_q _ _) (tbW_ok rfl) htz71 cz71 (one_part rfl (part_loop (id := 5) rfl rfl fun st K hT => by
        obtain ⟨rfl, hk⟩ := hT
        refine W_mono (loop71t n (by omega)) fun e st he => ?_
        obtain ⟨rfl, rfl⟩ := he
        exact hk)) (v71t n fun u _ => u = .tup [.agg (limbs (10 ^ (n : Int).toNat)), .bool true]) (by
        refine askF (decide_eq_false (by omega)) ⟨1, 0, 0, 0, rfl, rfl, rfl⟩)
      exact ⟨h', hsem⟩
    · cases h
  · cases h
theorem limbs_num {a0 a1 a2 a3 : Int} (h : u64s a0 a1 a2 a3 = true) : ([.int .u64 a0, .int .u64 a1, .int .u64 a2, .int .u64 a3] : List AV) = limbs (num4 a0 a1 a2 a3) ∧ 0 ≤ num4 a0 a1 a2 a3 ∧ num4 a0 a1 a2 a3 < 115792089237316195423570985008687907853269984665640564039457584007913129639936 := by
  simp only [u64s, u64B, Bool.and_eq_true, decide_eq_true_eq] at h
  obtain ⟨⟨⟨⟨h0, g0⟩, h1, g1⟩, h2, g2⟩, h3, g3⟩ := h
  have e : num4 a0 a1 a2 a3 = a0 + 18446744073709551616 * (a1 + 18446744073709551616 * (a2 + 18446744073709551616 * a3)) := rfl
  refine ⟨?_, by omega, by omega⟩
  have e0 : num4 a0 a1 a2 a3 % 18446744073709551616 = a0 := by omega
  have e1 : num4 a0 a1 a2 a3 / 18446744073709551616 % 18446744073709551616 = a1 := by omega
  have e2 : num4 a0 a1 a2 a3 / 18446744073709551616 / 18446744073709551616 % 18446744073709551616 = a2 := by omega
  have e3 : num4 a0 a1 a2 a3 / 18446744073709551616 / 18446744073709551616 / 18446744073709551616 % 18446744073709551616 = a3 := by omega
  unfold limbs
  rw [e0, e1, e2, e3]
theorem mul_limbs {v w : Int} (h0 : 0 ≤ v) (h1 : v < 115792089237316195423570985008687907853269984665640564039457584007913129639936) (g0 : 0 ≤ w) (g1 : w < 115792089237316195423570985008687907853269984665640564039457584007913129639936) : sMul [.agg (limbs v), .agg (limbs w)] = some (.tup [.agg (limbs (v * w / 115792089237316195423570985008687907853269984665640564039457584007913129639936)), .agg (limbs (v * w))]) := by
  unfold limbs sMul
  have hu : (u64s (v % 18446744073709551616) (v / 18446744073709551616 % 18446744073709551616) (v / 18446744073709551616 / 18446744073709551616 % 18446744073709551616) (v / 18446744073709551616 / 18446744073709551616 / 18446744073709551616 % 18446744073709551616) && u64s (w % 18446744073709551616) (w / 18446744073709551616 % 18446744073709551616) (w / 18446744073709551616 / 18446744073709551616 % 18446744073709551616) (w / 18446744073709551616 / 18446744073709551616 / 18446744073709551616 % 18446744073709551616)) = true := by
    simp only [u64s, u64B, Bool.and_eq_true, decide_eq_true_eq]; omega
  simp only [hu, if_true]
  have hn : num4 (v % 18446744073709551616) (v / 18446744073709551616 % 18446744073709551616) (v / 18446744073709551616 / 18446744073709551616 % 18446744073709551616) (v / 18446744073709551616 / 18446744073709551616 / 18446744073709551616 % 18446744073709551616) = v := by unfold num4; omega
  have hm : num4 (w % 18446744073709551616) (w / 18446744073709551616 % 18446744073709551616) (w / 18446744073709551616 / 18446744073709551616 % 18446744073709551616) (w / 18446744073709551616 / 18446744073709551616 / 18446744073709551616 % 18446744073709551616) = w := by unfold num4; omega
  rw [hn, hm]
  rfl
theorem check_ok : QuietOK Tryd.prog 21 fun vs _ => sCheck vs := quiet_plain htz21 fun args v h => by
  unfold sCheck at h
  split at h
  · rename_i neg l0 l1 l2 l3 sc
    cases h
    · skip
      refine ⟨rfl, rfl, ?_⟩
      have hS : (tbS Q []).OK Tryd.prog := tbS_ok quietText (by simp)
      obtain ⟨u, h', rfl, hsem⟩ := sem_vc mixed (C := tbC Q [] (fun _ => false) kdI) hS (tbS_q _ _) (tbW_ok rfl) htz21 cz21 (no_parts rfl) (v21t neg l0 l1 l2 l3 sc fun u _ => u = .int .i64 (if decide (sc < 0) || decide (sc > 18) || (neg && !(nz4 l0 l1 l2 l3)) then 20 else 0)) (by
        refine askI (fun g1 => ?_) fun g1 => askI (fun g2 => ?_) fun g2 => askI (fun g3 => askI (fun g4 => ?_) fun g4 => ?_) fun g3 => ?_
        · rw [g1]; rfl
        · rw [g1, g2]; rfl
        · have e : nz4 l0 l1 l2 l3 = false := by unfold nz4; rw [g4]; rfl
          rw [g1, g2, g3, e]; rfl
        · have e : nz4 l0 l1 l2 l3 = true := by unfold nz4; rw [g4]; rfl
          rw [g1, g2, g3, e]; rfl
        · rw [g1, g2, g3]; rfl)
      exact ⟨h', hsem⟩
  · cases h
theorem may_ok : QuietOK Tryd.prog 67 fun vs _ => sMay vs := quiet_plain htz67 fun args v h => by
  unfold sMay at h
  split at h
  · rename_i sc p
    cases h
    · skip
      refine ⟨rfl, rfl, ?_⟩
      have hS : (tbS Q []).OK Tryd.prog := tbS_ok quietText (by simp)
      obtain ⟨u, h', rfl, hsem⟩ := sem_vc mixed (C := tbC Q [] (fun _ => false) kdI) hS (tbS_q _ _) (tbW_ok rfl) htz67 cz67 (no_parts rfl) (v67t sc p fun u _ => u = .int .i64 (if decide (sc < 0) || decide (sc > 18) then 21 else if decide (p < 1) || decide (p > 5) then 22 else 0)) (by
        refine askI (fun g1 => ?_) fun g1 => askI (fun g2 => ?_) fun g2 => askI (fun g3 => ?_) fun g3 => askI (fun g4 => ?_) fun g4 => ?_
        · rw [g1]; rfl
        · rw [g1, g2]; rfl
        · rw [g1, g2, g3]; rfl
        · rw [g1, g2, g3, g4]; rfl
        · rw [g1, g2, g3, g4]; rfl)
      exact ⟨h', hsem⟩
  · cases h
theorem made_ok : QuietOK Tryd.prog 86 fun vs _ => sMade vs := quiet_plain htz86 fun args v h => by
  unfold sMade at h
  split at h
  · rename_i neg h0 h1 h2 h3 l0 l1 l2 l3 sc
    cases h
    · skip
      refine ⟨rfl, (by split <;> rfl), ?_⟩
      have hS : (tbS Q []).OK Tryd.prog := tbS_ok quietText (by simp)
      obtain ⟨u, h', rfl, hsem⟩ := sem_vc mixed (C := tbC Q [] (fun _ => false) kdI) hS (tbS_q _ _) (tbW_ok rfl) htz86 cz86 (no_parts rfl) (v86t neg h0 h1 h2 h3 l0 l1 l2 l3 sc fun u _ => u = if nz4 h0 h1 h2 h3 then .tup [.agg [.bool false, .int .u64 0, .int .u64 0, .int .u64 0, .int .u64 0, .int .i64 0], .int .i64 7] else .tup [.agg [.bool (neg && nz4 l0 l1 l2 l3), .int .u64 l0, .int .u64 l1, .int .u64 l2, .int .u64 l3, .int .i64 sc], .int .i64 0]) (by
        refine askI (fun g1 => ?_) fun g1 => askI (fun g2 => askI (fun g3 => ?_) fun g3 => ?_) fun g2 => ?_
        · have e : nz4 h0 h1 h2 h3 = true := g1
          rw [e]; rfl
        · have e : nz4 h0 h1 h2 h3 = false := g1
          have e2 : nz4 l0 l1 l2 l3 = true := g3
          rw [e, e2, g2]; rfl
        · have e : nz4 h0 h1 h2 h3 = false := g1
          have e2 : nz4 l0 l1 l2 l3 = false := g3
          rw [e, e2, g2]; rfl
        · have e : nz4 h0 h1 h2 h3 = false := g1
          rw [e, g2]; rfl)
      exact ⟨h', hsem⟩
  · cases h
def sTimesN : List AV → Option AV
  | [.agg [.int .u64 a0, .int .u64 a1, .int .u64 a2, .int .u64 a3], .int .i64 n] => if u64s a0 a1 a2 a3 = true ∧ 0 ≤ n ∧ n ≤ 77 then some (.agg (limbs (num4 a0 a1 a2 a3 * 10 ^ n.toNat / 115792089237316195423570985008687907853269984665640564039457584007913129639936) ++ limbs (num4 a0 a1 a2 a3 * 10 ^ n.toNat))) else none
  | _ => none
def zDec : AV := .agg [.bool false, .int .u64 0, .int .u64 0, .int .u64 0, .int .u64 0, .int .i64 0]
def scX (neg : Bool) (w sc : Int) : AV := if w ≥ 115792089237316195423570985008687907853269984665640564039457584007913129639936 then .tup [zDec, .int .i64 7] else .tup [decV (neg && decide (w ≠ 0)) w sc, .int .i64 0]
def sRound : List AV → Option AV
  | [.bool neg, .agg [.int .u64 h0, .int .u64 h1, .int .u64 h2, .int .u64 h3, .int .u64 l0, .int .u64 l1, .int .u64 l2, .int .u64 l3], .int .i64 fr, .int .i64 sc, .int .i64 p] =>
    if nz4 h0 h1 h2 h3 = false ∧ u64s l0 l1 l2 l3 = true ∧ 0 ≤ fr ∧ fr ≤ sc ∧ sc ≤ 18 then some (scX neg (num4 l0 l1 l2 l3 * 10 ^ (sc - fr).toNat) sc) else none
  | _ => none
def sRescale : List AV → Option AV
  | [.agg [.bool neg, .int .u64 l0, .int .u64 l1, .int .u64 l2, .int .u64 l3, .int .i64 fr], .int .i64 sc, .int .i64 p] =>
    if u64s l0 l1 l2 l3 = true ∧ 0 ≤ fr ∧ fr ≤ sc ∧ sc ≤ 18 ∧ 1 ≤ p ∧ p ≤ 5 ∧ (neg && !(nz4 l0 l1 l2 l3)) = false then some (scX neg (num4 l0 l1 l2 l3 * 10 ^ (sc - fr).toNat) sc) else none
  | _ => none
def parseAtX (s : List UInt8) (sc : Int) : AV :=
  if sc < 0 ∨ sc > 18 then .tup [zDec, .int .i64 1]
  else if ((parseD s).2.2.2 != 0) = true then .tup [zDec, .int .i64 (parseD s).2.2.2]
  else if (parseD s).2.2.1 > sc then .tup [zDec, .int .i64 31]
  else scX (parseD s).1 ((parseD s).2.1 * 10 ^ (sc - (parseD s).2.2.1).toNat) sc
def sParseAt : List AV → Option AV
  | [.str s, .int .i64 sc] => if s.length ≤ 1048577 then some (parseAtX s sc) else none
  | _ => none
def tb68 : List TbE := [⟨42, fun vs _ => sTimesN vs, .of ag8⟩, ⟨86, fun vs _ => sMade vs, .tup [ag6, .one (.int .i64)]⟩]
def tb35r : List TbE := [⟨21, fun vs _ => sCheck vs, .of (.one (.int .i64))⟩, ⟨67, fun vs _ => sMay vs, .of (.one (.int .i64))⟩, ⟨68, fun vs _ => sRound vs, .tup [ag6, .one (.int .i64)]⟩]
def tb15r : List TbE := [⟨13, fun vs _ => sParseD vs, .tup [ag6, .one (.int .i64)]⟩, ⟨35, fun vs _ => sRescale vs, .tup [ag6, .one (.int .i64)]⟩]
theorem v68r (neg : Bool) (h0 h1 h2 h3 l0 l1 l2 l3 fr sc p : Int) (R : AV → AHeap → Prop) : (chkW (decide (sc ≥ fr)) (askB (!(h0 == 0 && (h1 == 0 && (h2 == 0 && (h3 == 0 && true))))) (R (AV.tup [AV.agg [AV.bool false, AV.int .u64 0, AV.int .u64 0, AV.int .u64 0, AV.int .u64 0, AV.int .i64 0], AV.int .i64 7]) [AObj.row 62 8 [AV.int .u64 h0, AV.int .u64 h1, AV.int .u64 h2, AV.int .u64 h3, AV.int .u64 l0, AV.int .u64 l1, AV.int .u64 l2, AV.int .u64 l3], AObj.row 26 6 [AV.bool false, AV.int .u64 0, AV.int .u64 0, AV.int .u64 0, AV.int .u64 0, AV.int .i64 0]]) (askB neg (∃ (n : Int), ∃ (n_1 : Int), ∃ (n_2 : Int), ∃ (n_3 : Int), ∃ (n_4 : Int), ∃ (n_5 : Int), ∃ (n_6 : Int), ∃ (n_7 : Int), sTimesN [AV.agg [AV.int .u64 l0, AV.int .u64 l1, AV.int .u64 l2, AV.int .u64 l3], AV.int .i64 (IntKind.wrap .i64 (sc - fr))] = some (AV.agg [AV.int .u64 n, AV.int .u64 n_1, AV.int .u64 n_2, AV.int .u64 n_3, AV.int .u64 n_4, AV.int .u64 n_5, AV.int .u64 n_6, AV.int .u64 n_7]) ∧ ∃ (b : Bool), ∃ (n_8 : Int), ∃ (n_9 : Int), ∃ (n_10 : Int), ∃ (n_11 : Int), ∃ (n_12 : Int), ∃ (n_13 : Int), some (if nz4 n n_1 n_2 n_3 = true then AV.tup [AV.agg [AV.bool false, AV.int .u64 0, AV.int .u64 0, AV.int .u64 0, AV.int .u64 0, AV.int .i64 0], AV.int .i64 7] else AV.tup [AV.agg [AV.bool (true && nz4 n_4 n_5 n_6 n_7), AV.int .u64 n_4, AV.int .u64 n_5, AV.int .u64 n_6, AV.int .u64 n_7, AV.int .i64 sc], AV.int .i64 0]) = some (AV.tup [AV.agg [AV.bool b, AV.int .u64 n_8, AV.int .u64 n_9, AV.int .u64 n_10, AV.int .u64 n_11, AV.int .i64 n_12], AV.int .i64 n_13]) ∧ R (AV.tup [AV.agg [AV.bool b, AV.int .u64 n_8, AV.int .u64 n_9, AV.int .u64 n_10, AV.int .u64 n_11, AV.int .i64 n_12], AV.int .i64 n_13]) [AObj.row 62 8 [AV.int .u64 h0, AV.int .u64 h1, AV.int .u64 h2, AV.int .u64 h3, AV.int .u64 l0, AV.int .u64 l1, AV.int .u64 l2, AV.int .u64 l3], AObj.row 26 6 [AV.bool b, AV.int .u64 n_8, AV.int .u64 n_9, AV.int .u64 n_10, AV.int .u64 n_11, AV.int .i64 n_12]]) (∃ (n : Int), ∃ (n_1 : Int), ∃ (n_2 : Int), ∃ (n_3 : Int), ∃ (n_4 : Int), ∃ (n_5 : Int), ∃ (n_6 : Int), ∃ (n_7 : Int), sTimesN [AV.agg [AV.int .u64 l0, AV.int .u64 l1, AV.int .u64 l2, AV.int .u64 l3], AV.int .i64 (IntKind.wrap .i64 (sc - fr))] = some (AV.agg [AV.int .u64 n, AV.int .u64 n_1, AV.int .u64 n_2, AV.int .u64 n_3, AV.int .u64 n_4, AV.int .u64 n_5, AV.int .u64 n_6, AV.int .u64 n_7]) ∧ ∃ (b : Bool), ∃ (n_8 : Int), ∃ (n_9 : Int), ∃ (n_10 : Int), ∃ (n_11 : Int), ∃ (n_12 : Int), ∃ (n_13 : Int), some (if nz4 n n_1 n_2 n_3 = true then AV.tup [AV.agg [AV.bool false, AV.int .u64 0, AV.int .u64 0, AV.int .u64 0, AV.int .u64 0, AV.int .i64 0], AV.int .i64 7] else AV.tup [AV.agg [AV.bool (false && nz4 n_4 n_5 n_6 n_7), AV.int .u64 n_4, AV.int .u64 n_5, AV.int .u64 n_6, AV.int .u64 n_7, AV.int .i64 sc], AV.int .i64 0]) = some (AV.tup [AV.agg [AV.bool b, AV.int .u64 n_8, AV.int .u64 n_9, AV.int .u64 n_10, AV.int .u64 n_11, AV.int .i64 n_12], AV.int .i64 n_13]) ∧ R (AV.tup [AV.agg [AV.bool b, AV.int .u64 n_8, AV.int .u64 n_9, AV.int .u64 n_10, AV.int .u64 n_11, AV.int .i64 n_12], AV.int .i64 n_13]) [AObj.row 62 8 [AV.int .u64 h0, AV.int .u64 h1, AV.int .u64 h2, AV.int .u64 h3, AV.int .u64 l0, AV.int .u64 l1, AV.int .u64 l2, AV.int .u64 l3], AObj.row 26 6 [AV.bool b, AV.int .u64 n_8, AV.int .u64 n_9, AV.int .u64 n_10, AV.int .u64 n_11, AV.int .i64 n_12]])))) = (wpF Tryd.prog (tbC Q tb68 (fun _ => false) kdI) 80 pz68 [.bool neg, .agg [.int .u64 h0, .int .u64 h1, .int .u64 h2, .int .u64 h3, .int .u64 l0, .int .u64 l1, .int .u64 l2, .int .u64 l3], .int .i64 fr, .int .i64 sc, .int .i64 p] [] R) := by kernel_rfl
theorem v35r (neg : Bool) (l0 l1 l2 l3 fr sc p : Int) (R : AV → AHeap → Prop) : (∃ (n : Int), some (AV.int .i64 (if (decide (fr < 0) || decide (fr > 18) || neg && !nz4 l0 l1 l2 l3) = true then 20 else 0)) = some (AV.int .i64 n) ∧ askB (n != 0) (R (AV.tup [AV.agg [AV.bool false, AV.int .u64 0, AV.int .u64 0, AV.int .u64 0, AV.int .u64 0, AV.int .i64 0], AV.int .i64 n]) [AObj.row 26 6 [AV.bool neg, AV.int .u64 l0, AV.int .u64 l1, AV.int .u64 l2, AV.int .u64 l3, AV.int .i64 fr], AObj.row 26 6 [AV.bool false, AV.int .u64 0, AV.int .u64 0, AV.int .u64 0, AV.int .u64 0, AV.int .i64 0]]) (∃ (n : Int), some (AV.int .i64 (if (decide (sc < 0) || decide (sc > 18)) = true then 21 else if (decide (p < 1) || decide (p > 5)) = true then 22 else 0)) = some (AV.int .i64 n) ∧ askB (n != 0) (R (AV.tup [AV.agg [AV.bool false, AV.int .u64 0, AV.int .u64 0, AV.int .u64 0, AV.int .u64 0, AV.int .i64 0], AV.int .i64 n]) [AObj.row 26 6 [AV.bool neg, AV.int .u64 l0, AV.int .u64 l1, AV.int .u64 l2, AV.int .u64 l3, AV.int .i64 fr], AObj.row 26 6 [AV.bool false, AV.int .u64 0, AV.int .u64 0, AV.int .u64 0, AV.int .u64 0, AV.int .i64 0]]) (askB neg (∃ (b : Bool), ∃ (n : Int), ∃ (n_1 : Int), ∃ (n_2 : Int), ∃ (n_3 : Int), ∃ (n_4 : Int), ∃ (n_5 : Int), sRound [AV.bool true, AV.agg [AV.int .u64 0, AV.int .u64 0, AV.int .u64 0, AV.int .u64 0, AV.int .u64 l0, AV.int .u64 l1, AV.int .u64 l2, AV.int .u64 l3], AV.int .i64 fr, AV.int .i64 sc, AV.int .i64 p] = some (AV.tup [AV.agg [AV.bool b, AV.int .u64 n, AV.int .u64 n_1, AV.int .u64 n_2, AV.int .u64 n_3, AV.int .i64 n_4], AV.int .i64 n_5]) ∧ R (AV.tup [AV.agg [AV.bool b, AV.int .u64 n, AV.int .u64 n_1, AV.int .u64 n_2, AV.int .u64 n_3, AV.int .i64 n_4], AV.int .i64 n_5]) [AObj.row 26 6 [AV.bool neg, AV.int .u64 l0, AV.int .u64 l1, AV.int .u64 l2, AV.int .u64 l3, AV.int .i64 fr], AObj.row 26 6 [AV.bool b, AV.int .u64 n, AV.int .u64 n_1, AV.int .u64 n_2, AV.int .u64 n_3, AV.int .i64 n_4]]) (∃ (b : Bool), ∃ (n : Int), ∃ (n_1 : Int), ∃ (n_2 : Int), ∃ (n_3 : Int), ∃ (n_4 : Int), ∃ (n_5 : Int), sRound [AV.bool false, AV.agg [AV.int .u64 0, AV.int .u64 0, AV.int .u64 0, AV.int .u64 0, AV.int .u64 l0, AV.int .u64 l1, AV.int .u64 l2, AV.int .u64 l3], AV.int .i64 fr, AV.int .i64 sc, AV.int .i64 p] = some (AV.tup [AV.agg [AV.bool b, AV.int .u64 n, AV.int .u64 n_1, AV.int .u64 n_2, AV.int .u64 n_3, AV.int .i64 n_4], AV.int .i64 n_5]) ∧ R (AV.tup [AV.agg [AV.bool b, AV.int .u64 n, AV.int .u64 n_1, AV.int .u64 n_2, AV.int .u64 n_3, AV.int .i64 n_4], AV.int .i64 n_5]) [AObj.row 26 6 [AV.bool neg, AV.int .u64 l0, AV.int .u64 l1, AV.int .u64 l2, AV.int .u64 l3, AV.int .i64 fr], AObj.row 26 6 [AV.bool b, AV.int .u64 n, AV.int .u64 n_1, AV.int .u64 n_2, AV.int .u64 n_3, AV.int .i64 n_4]])))) = (wpF Tryd.prog (tbC Q tb35r (fun _ => false) kdI) 80 pz35 [.agg [.bool neg, .int .u64 l0, .int .u64 l1, .int .u64 l2, .int .u64 l3, .int .i64 fr], .int .i64 sc, .int .i64 p] [] R) := by kernel_rfl
theorem v15r (s : List UInt8) (sc : Int) (R : AV → AHeap → Prop) : (askB (decide (sc < 0)) (R (AV.tup [AV.agg [AV.bool false, AV.int .u64 0, AV.int .u64 0, AV.int .u64 0, AV.int .u64 0, AV.int .i64 0], AV.int .i64 1]) [AObj.row 26 6 [AV.bool false, AV.int .u64 0, AV.int .u64 0, AV.int .u64 0, AV.int .u64 0, AV.int .i64 0]]) (askB (decide (sc > 18)) (R (AV.tup [AV.agg [AV.bool false, AV.int .u64 0, AV.int .u64 0, AV.int .u64 0, AV.int .u64 0, AV.int .i64 0], AV.int .i64 1]) [AObj.row 26 6 [AV.bool false, AV.int .u64 0, AV.int .u64 0, AV.int .u64 0, AV.int .u64 0, AV.int .i64 0]]) (∃ (b : Bool), ∃ (n : Int), ∃ (n_1 : Int), ∃ (n_2 : Int), ∃ (n_3 : Int), ∃ (n_4 : Int), ∃ (n_5 : Int), sParseD [AV.str s] = some (AV.tup [AV.agg [AV.bool b, AV.int .u64 n, AV.int .u64 n_1, AV.int .u64 n_2, AV.int .u64 n_3, AV.int .i64 n_4], AV.int .i64 n_5]) ∧ askB (n_5 != 0) (R (AV.tup [AV.agg [AV.bool false, AV.int .u64 0, AV.int .u64 0, AV.int .u64 0, AV.int .u64 0, AV.int .i64 0], AV.int .i64 n_5]) [AObj.row 26 6 [AV.bool false, AV.int .u64 0, AV.int .u64 0, AV.int .u64 0, AV.int .u64 0, AV.int .i64 0], AObj.row 26 6 [AV.bool b, AV.int .u64 n, AV.int .u64 n_1, AV.int .u64 n_2, AV.int .u64 n_3, AV.int .i64 n_4]]) (askB (decide (n_4 > sc)) (R (AV.tup [AV.agg [AV.bool false, AV.int .u64 0, AV.int .u64 0, AV.int .u64 0, AV.int .u64 0, AV.int .i64 0], AV.int .i64 31]) [AObj.row 26 6 [AV.bool false, AV.int .u64 0, AV.int .u64 0, AV.int .u64 0, AV.int .u64 0, AV.int .i64 0], AObj.row 26 6 [AV.bool b, AV.int .u64 n, AV.int .u64 n_1, AV.int .u64 n_2, AV.int .u64 n_3, AV.int .i64 n_4]]) (∃ (b_1 : Bool), ∃ (n_6 : Int), ∃ (n_7 : Int), ∃ (n_8 : Int), ∃ (n_9 : Int), ∃ (n_10 : Int), ∃ (n_11 : Int), sRescale [AV.agg [AV.bool b, AV.int .u64 n, AV.int .u64 n_1, AV.int .u64 n_2, AV.int .u64 n_3, AV.int .i64 n_4], AV.int .i64 sc, AV.int .i64 3] = some (AV.tup [AV.agg [AV.bool b_1, AV.int .u64 n_6, AV.int .u64 n_7, AV.int .u64 n_8, AV.int .u64 n_9, AV.int .i64 n_10], AV.int .i64 n_11]) ∧ R (AV.tup [AV.agg [AV.bool b_1, AV.int .u64 n_6, AV.int .u64 n_7, AV.int .u64 n_8, AV.int .u64 n_9, AV.int .i64 n_10], AV.int .i64 n_11]) [AObj.row 26 6 [AV.bool b_1, AV.int .u64 n_6, AV.int .u64 n_7, AV.int .u64 n_8, AV.int .u64 n_9, AV.int .i64 n_10], AObj.row 26 6 [AV.bool b, AV.int .u64 n, AV.int .u64 n_1, AV.int .u64 n_2, AV.int .u64 n_3, AV.int .i64 n_4]]))))) = (wpF Tryd.prog (tbC Q tb15r (fun _ => false) kdI) 80 pz15 [.str s, .int .i64 sc] [] R) := by kernel_rfl
theorem nz_limbs {x : Int} (h0 : 0 ≤ x) (h1 : x < 115792089237316195423570985008687907853269984665640564039457584007913129639936) : nz4 (x % 18446744073709551616) (x / 18446744073709551616 % 18446744073709551616) (x / 18446744073709551616 / 18446744073709551616 % 18446744073709551616) (x / 18446744073709551616 / 18446744073709551616 / 18446744073709551616 % 18446744073709551616) = decide (x ≠ 0) := by
  unfold nz4
  by_cases h : x = 0
  · subst h; rfl
  · rw [decide_eq_true h]
    cases hc : (x % 18446744073709551616 == 0 && (x / 18446744073709551616 % 18446744073709551616 == 0 && (x / 18446744073709551616 / 18446744073709551616 % 18446744073709551616 == 0 && (x / 18446744073709551616 / 18446744073709551616 / 18446744073709551616 % 18446744073709551616 == 0 && true)))) with
    | false => rfl
    | true =>
      simp only [Bool.and_eq_true, beq_iff_eq] at hc
      obtain ⟨a, b, c, d, -⟩ := hc
      exact absurd (by omega) h
theorem u64_limbs (x : Int) : u64s (x % 18446744073709551616) (x / 18446744073709551616 % 18446744073709551616) (x / 18446744073709551616 / 18446744073709551616 % 18446744073709551616) (x / 18446744073709551616 / 18446744073709551616 / 18446744073709551616 % 18446744073709551616) = true := by
  simp only [u64s, u64B, Bool.and_eq_true, decide_eq_true_eq]; omega
theorem num_limbs {x : Int} (h0 : 0 ≤ x) (h1 : x < 115792089237316195423570985008687907853269984665640564039457584007913129639936) : num4 (x % 18446744073709551616) (x / 18446744073709551616 % 18446744073709551616) (x / 18446744073709551616 / 18446744073709551616 % 18446744073709551616) (x / 18446744073709551616 / 18446744073709551616 / 18446744073709551616 % 18446744073709551616) = x := by unfold num4; omega
def Shp (v : AV) : Prop := ∃ (b : Bool) (n1 n2 n3 n4 n5 n6 : Int), v = .tup [.agg [.bool b, .int .u64 n1, .int .u64 n2, .int .u64 n3, .int .u64 n4, .int .i64 n5], .int .i64 n6]
theorem scX_shape (neg : Bool) (w sc : Int) : Shp (scX neg w sc) := by
  unfold scX
  split
  · exact ⟨_, _, _, _, _, _, _, rfl⟩
  · exact ⟨_, _, _, _, _, _, _, rfl⟩
theorem scX_closed (neg : Bool) (w sc : Int) : (scX neg w sc).closed = true := by
  unfold scX; split <;> rfl
theorem made_sc (neg : Bool) {w : Int} (sc : Int) (h0 : 0 ≤ w) (h1 : w / 115792089237316195423570985008687907853269984665640564039457584007913129639936 < 115792089237316195423570985008687907853269984665640564039457584007913129639936) :
    (if nz4 ((w / 115792089237316195423570985008687907853269984665640564039457584007913129639936) % 18446744073709551616) ((w / 115792089237316195423570985008687907853269984665640564039457584007913129639936) / 18446744073709551616 % 18446744073709551616) ((w / 115792089237316195423570985008687907853269984665640564039457584007913129639936) / 18446744073709551616 / 18446744073709551616 % 18446744073709551616) ((w / 115792089237316195423570985008687907853269984665640564039457584007913129639936) / 18446744073709551616 / 18446744073709551616 / 18446744073709551616 % 18446744073709551616) then AV.tup [.agg [.bool false, .int .u64 0, .int .u64 0, .int .u64 0, .int .u64 0, .int .i64 0], .int .i64 7] else .tup [.agg [.bool (neg && nz4 (w % 18446744073709551616) (w / 18446744073709551616 % 18446744073709551616) (w / 18446744073709551616 / 18446744073709551616 % 18446744073709551616) (w / 18446744073709551616 / 18446744073709551616 / 18446744073709551616 % 18446744073709551616)), .int .u64 (w % 18446744073709551616), .int .u64 (w / 18446744073709551616 % 18446744073709551616), .int .u64 (w / 18446744073709551616 / 18446744073709551616 % 18446744073709551616), .int .u64 (w / 18446744073709551616 / 18446744073709551616 / 18446744073709551616 % 18446744073709551616), .int .i64 sc], .int .i64 0]) = scX neg w sc := by
  rw [nz_limbs (x := w / 115792089237316195423570985008687907853269984665640564039457584007913129639936) (by omega) h1]
  unfold scX
  by_cases h : w ≥ 115792089237316195423570985008687907853269984665640564039457584007913129639936
  · rw [if_pos h, if_pos (by rw [decide_eq_true_eq]; omega)]; rfl
  · rw [if_neg h, if_neg (by rw [decide_eq_true_eq]; omega), nz_limbs h0 (by omega)]; rfl
theorem pow_bd {v : Int} {k : Nat} (h0 : 0 ≤ v) (h1 : v < 115792089237316195423570985008687907853269984665640564039457584007913129639936) (hk : k ≤ 77) : 0 ≤ v * 10 ^ k ∧ v * 10 ^ k / 115792089237316195423570985008687907853269984665640564039457584007913129639936 < 115792089237316195423570985008687907853269984665640564039457584007913129639936 := by
  obtain ⟨p1, p2⟩ := pow_ten k hk
  generalize (10 : Int) ^ k = p at p1 p2 ⊢
  refine ⟨Int.mul_nonneg h0 p1, ?_⟩
  have : v * p ≤ 115792089237316195423570985008687907853269984665640564039457584007913129639936 * p := Int.mul_le_mul_of_nonneg_right (by omega) p1
  omega
theorem times_at {v n : Int} (h0 : 0 ≤ v) (h1 : v < 115792089237316195423570985008687907853269984665640564039457584007913129639936) (hn : 0 ≤ n ∧ n ≤ 77) : sTimesN [.agg (limbs v), .int .i64 n] = some (.agg (limbs (v * 10 ^ n.toNat / 115792089237316195423570985008687907853269984665640564039457584007913129639936) ++ limbs (v * 10 ^ n.toNat))) := by
  unfold limbs sTimesN
  simp only [u64_limbs, num_limbs h0 h1, true_and, if_pos hn]
  rfl
theorem times_ok : QuietOK Tryd.prog 42 fun vs _ => sTimesN vs := quiet_plain htz42 fun args v h => by
  unfold sTimesN at h
  split at h
  · rename_i a0 a1 a2 a3 n
    split at h
    · rename_i hs
      cases h
      refine ⟨rfl, rfl, ?_⟩
      have hS : (tbS Q tb42).OK Tryd.prog := tbS_ok quietText (by
        intro x hx
        simp only [tb42, List.mem_cons, List.not_mem_nil, or_false] at hx
        rcases hx with rfl | rfl
        · exact ten71_ok
        · exact mul_ok)
      obtain ⟨u, h', rfl, hsem⟩ := sem_vc mixed (C := tbC Q tb42 (fun _ => false) kdI) hS (tbS_q _ _) (tbW_ok rfl) htz42 cz42 (no_parts rfl) (v42t a0 a1 a2 a3 n fun u _ => u = .agg (limbs (num4 a0 a1 a2 a3 * 10 ^ n.toNat / 115792089237316195423570985008687907853269984665640564039457584007913129639936) ++ limbs (num4 a0 a1 a2 a3 * 10 ^ n.toNat))) (by
        obtain ⟨hl, b0, b1⟩ := limbs_num hs.1
        obtain ⟨p1, p2⟩ := pow_ten n.toNat (by omega)
        have hM := mul_limbs b0 b1 p1 p2
        rw [← hl] at hM
        have hT : sTen [.int .i64 n] = some (.tup [.agg (limbs (10 ^ n.toNat)), .bool true]) := if_pos hs.2
        generalize (10 : Int) ^ n.toNat = p at p1 p2 hM hT ⊢
        generalize num4 a0 a1 a2 a3 = v at hM ⊢
        exact ⟨_, _, _, _, true, hT, askT rfl ⟨_, _, _, _, _, _, _, _, hM, rfl⟩⟩)
      exact ⟨h', hsem⟩
    · cases h
  · cases h
theorem round_ok : QuietOK Tryd.prog 68 fun vs _ => sRound vs := quiet_plain htz68 fun args v h => by
  unfold sRound at h
  split at h
  · rename_i neg h0 h1 h2 h3 l0 l1 l2 l3 fr sc p
    split at h
    · rename_i hs
      cases h
      refine ⟨rfl, scX_closed _ _ _, ?_⟩
      have hS : (tbS Q tb68).OK Tryd.prog := tbS_ok quietText (by
        intro x hx
        simp only [tb68, List.mem_cons, List.not_mem_nil, or_false] at hx
        rcases hx with rfl | rfl
        · exact times_ok
        · exact made_ok)
      obtain ⟨u, h', rfl, hsem⟩ := sem_vc mixed (C := tbC Q tb68 (fun _ => false) kdI) hS (tbS_q _ _) (tbW_ok rfl) htz68 cz68 (no_parts rfl) (v68r neg h0 h1 h2 h3 l0 l1 l2 l3 fr sc p fun u _ => u = scX neg (num4 l0 l1 l2 l3 * 10 ^ (sc - fr).toNat) sc) (by
        obtain ⟨z1, z2, z3, z4, z5⟩ := hs
        have w1 : IntKind.wrap .i64 (sc - fr) = sc - fr := by rw [IntKind.wrap_i64]; omega
        obtain ⟨hl, b0, b1⟩ := limbs_num z2
        obtain ⟨q1, q2⟩ := pow_bd (k := (sc - fr).toNat) b0 b1 (by omega)
        have hT := times_at (n := sc - fr) b0 b1 (by omega)
        rw [← hl] at hT
        generalize num4 l0 l1 l2 l3 * 10 ^ (sc - fr).toNat = w at q1 q2 hT ⊢
        have hm := made_sc neg sc q1 q2
        obtain ⟨b, n1, n2, n3, n4, n5, n6, hx⟩ := scX_shape neg w sc
        rw [w1]
        refine chkI (decide_eq_true (by omega)) (askF z1 (askI (fun g => ?_) fun g => ?_))
        · subst g
          exact ⟨_, _, _, _, _, _, _, _, hT, b, n1, n2, n3, n4, n5, n6, congrArg some (hm.trans hx), hx.symm⟩
        · subst g
          exact ⟨_, _, _, _, _, _, _, _, hT, b, n1, n2, n3, n4, n5, n6, congrArg some (hm.trans hx), hx.symm⟩)
      exact ⟨h', hsem⟩
    · cases h
  · cases h
theorem rescale_ok : QuietOK Tryd.prog 35 fun vs _ => sRescale vs := quiet_plain htz35 fun args v h => by
  unfold sRescale at h
  split at h
  · rename_i neg l0 l1 l2 l3 fr sc p
    split at h
    · rename_i hs
      cases h
      refine ⟨rfl, scX_closed _ _ _, ?_⟩
      have hS : (tbS Q tb35r).OK Tryd.prog := tbS_ok quietText (by
        intro x hx
        simp only [tb35r, List.mem_cons, List.not_mem_nil, or_false] at hx
        rcases hx with rfl | rfl | rfl
        · exact check_ok
        · exact may_ok
        · exact round_ok)
      obtain ⟨u, h', rfl, hsem⟩ := sem_vc mixed (C := tbC Q tb35r (fun _ => false) kdI) hS (tbS_q _ _) (tbW_ok rfl) htz35 cz35 (no_parts rfl) (v35r neg l0 l1 l2 l3 fr sc p fun u _ => u = scX neg (num4 l0 l1 l2 l3 * 10 ^ (sc - fr).toNat) sc) (by
        obtain ⟨z2, z3, z4, z5, z6, z7, z8⟩ := hs
        obtain ⟨b, n1, n2, n3, n4, n5, n6, hx⟩ := scX_shape neg (num4 l0 l1 l2 l3 * 10 ^ (sc - fr).toNat) sc
        have hR : sRound [.bool neg, .agg [.int .u64 0, .int .u64 0, .int .u64 0, .int .u64 0, .int .u64 l0, .int .u64 l1, .int .u64 l2, .int .u64 l3], .int .i64 fr, .int .i64 sc, .int .i64 p] = some (scX neg (num4 l0 l1 l2 l3 * 10 ^ (sc - fr).toNat) sc) := if_pos ⟨rfl, z2, z3, z4, z5⟩
        rw [hx] at hR
        have e1 : (decide (fr < 0) || decide (fr > 18) || (neg && !(nz4 l0 l1 l2 l3))) = false := by rw [z8, decide_eq_false (by omega), decide_eq_false (by omega)]; rfl
        have e2 : (decide (sc < 0) || decide (sc > 18)) = false := by rw [decide_eq_false (by omega), decide_eq_false (by omega)]; rfl
        have e3 : (decide (p < 1) || decide (p > 5)) = false := by rw [decide_eq_false (by omega), decide_eq_false (by omega)]; rfl
        refine ⟨0, by rw [e1]; rfl, askF rfl ⟨0, by rw [e2, e3]; rfl, askF rfl (askI (fun g => ?_) fun g => ?_)⟩⟩
        · subst g
          exact ⟨b, n1, n2, n3, n4, n5, n6, hR, hx.symm⟩
        · subst g
          exact ⟨b, n1, n2, n3, n4, n5, n6, hR, hx.symm⟩)
      exact ⟨h', hsem⟩
    · cases h
  · cases h
theorem bB : (0 : Int) < 115792089237316195423570985008687907853269984665640564039457584007913129639936 := by decide
theorem zl : (0 : Int) ≤ 18 := by decide
theorem parseN_bd (t : List UInt8) : 0 ≤ (parseN t).1 ∧ (parseN t).1 < 115792089237316195423570985008687907853269984665640564039457584007913129639936 := by
  unfold parseN
  split
  · exact ⟨Int.le_refl _, by decide⟩
  · split
    · exact ⟨Int.le_refl _, by decide⟩
    · split
      · rename_i hA
        split
        · rename_i v hv
          have h1 := fold_ge t 0 v (Int.le_refl _) hA hv
          have h2 := fold_lt t 0 v (by decide) hv
          rw [Int.zero_mul] at h1
          exact ⟨h1, h2⟩
        · exact ⟨Int.le_refl _, by decide⟩
      · exact ⟨Int.le_refl _, by decide⟩
theorem parseN_pos {c : UInt8} {l : List UInt8} (hc : (c == 48) = false) (h : ((parseN (c :: l)).2 != 0) = false) : (parseN (c :: l)).1 ≠ 0 := by
  have hr := pn_rest (s := c :: l) (List.cons_ne_nil _ _) (.inl hc)
  rw [hr] at h ⊢
  by_cases hA : allD (c :: l) = true
  · rw [if_pos hA] at h ⊢
    cases hv : foldD 0 (c :: l) with
    | none => rw [hv] at h; cases h
    | some v =>
      show v ≠ 0
      have hd : isD c = true ∧ allD l = true := by simpa [allD] using hA
      have hd1 := hd.1
      simp only [isD, Bool.and_eq_true, decide_eq_true_eq] at hd1
      simp only [foldD] at hv
      split at hv
      · cases hv
      · have h1 := fold_ge l _ v (by omega) hd.2 hv
        have hp : 0 < (10 : Int) ^ l.length := Int.pow_pos (by decide)
        have hne : c.toNat ≠ 48 := fun e => by
          have : c = 48 := UInt8.toNat_inj.1 e
          rw [this] at hc; cases hc
        have : 1 * (10 : Int) ^ l.length ≤ (0 * 10 + ((c.toNat : Int) - 48)) * 10 ^ l.length := Int.mul_le_mul_of_nonneg_right (by omega) (Int.le_of_lt hp)
        omega
  · rw [if_neg hA] at h
    cases h
def Hd (acc : List UInt8) : Prop := acc = [] ∨ ∃ c l, acc = c :: l ∧ (c == 48) = false
theorem al_head : ∀ (l acc : List UInt8), Hd acc → Hd (allR l acc)
  | [], _, h => h
  | c :: l, acc, h => by
    rw [allR]
    split
    · exact al_head l acc h
    · split
      · split
        · rename_i hk
          refine al_head l _ ?_
          rcases h with rfl | ⟨d, m, rfl, hd⟩
          · refine .inr ⟨c, [], rfl, ?_⟩
            rw [show decide (0 < ([] : List UInt8).length) = false from rfl, Bool.false_or, bne] at hk
            simpa using hk
          · exact .inr ⟨d, m ++ [c], rfl, hd⟩
        · exact al_head l acc h
      · exact al_head l acc h
theorem al_ge : ∀ (l acc : List UInt8), acc.length ≤ (allR l acc).length
  | [], _ => Nat.le_refl _
  | c :: l, acc => by
    have h1 := al_ge l acc
    have h2 := al_ge l (acc ++ [c])
    rw [List.length_append] at h2
    rw [allR]
    split
    · exact h1
    · split
      · split
        · omega
        · exact h1
      · exact h1
theorem al_mem : ∀ (l acc : List UInt8) (c : UInt8), c ∈ l → isD c = true → (c != 48) = true → 0 < (allR l acc).length
  | d :: l, acc, c, hm, hd, hn => by
    rw [allR]
    rcases List.mem_cons.1 hm with rfl | hm
    · rw [if_neg (by rw [isD_46 hd]; decide), if_pos hd, if_pos (by rw [hn, Bool.or_true])]
      have := al_ge l (acc ++ [c])
      rw [List.length_append, List.length_singleton] at this
      omega
    · split
      · exact al_mem l acc c hm hd hn
      · split
        · split
          · exact al_mem l _ c hm hd hn
          · exact al_mem l acc c hm hd hn
        · exact al_mem l acc c hm hd hn
theorem nz_mem : ∀ (l : List UInt8), nzD l = true → ∃ c, c ∈ l ∧ isD c = true ∧ (c != 48) = true
  | c :: l, h => by
    rw [nzD] at h
    split at h
    · rename_i hd
      cases hc : (c != 48) with
      | true => exact ⟨c, List.mem_cons_self .., hd, hc⟩
      | false =>
        rw [hc, Bool.false_or] at h
        obtain ⟨d, h1, h2⟩ := nz_mem l h
        exact ⟨d, List.mem_cons_of_mem _ h1, h2⟩
    · cases h
theorem neg_some {s : List UInt8} (hw : wR s = true) (hn : (s.getD 0 0 == 45) = true) : 0 < (allR s []).length := by
  have hl : 0 < s.length := by
    cases s with
    | nil => rw [wR_nil] at hw; cases hw
    | cons _ _ => simp
  have hwf : wRf s 1 = true := by
    rw [← hw]; unfold wR; rw [hn, decide_eq_true hl]; rfl
  have hnb : (s.getD 0 0 != 45) = false := by rw [bne, hn]; rfl
  have key : (nzD (s.drop 1) || nzD (s.drop (1 + runD (s.drop 1) + 1))) = true := by
    unfold wRf at hwf
    split at hwf
    · cases hwf
    · split at hwf
      · split at hwf
        · cases hwf
        · split at hwf
          · rw [hnb, Bool.or_false] at hwf; exact hwf
          · cases hwf
      · rw [hnb, Bool.or_false] at hwf
        rw [hwf]; rfl
  rw [Bool.or_eq_true] at key
  rcases key with k | k
  · obtain ⟨c, h1, h2, h3⟩ := nz_mem _ k
    exact al_mem s [] c (List.mem_of_mem_drop h1) h2 h3
  · obtain ⟨c, h1, h2, h3⟩ := nz_mem _ k
    exact al_mem s [] c (List.mem_of_mem_drop h1) h2 h3
/-- What a text's number is. -/
theorem parseD_facts (s : List UInt8) : (0 ≤ (parseD s).2.1 ∧ (parseD s).2.1 < 115792089237316195423570985008687907853269984665640564039457584007913129639936) ∧ (0 ≤ (parseD s).2.2.1 ∧ (parseD s).2.2.1 ≤ 18) ∧ ((parseD s).1 = true → (parseD s).2.1 ≠ 0) := by
  rw [← parse_same]
  unfold parse44
  cases hw : wR s with
  | false =>
    rw [if_pos rfl]
    exact ⟨⟨Int.le_refl _, bB⟩, ⟨Int.le_refl _, zl⟩, fun h => by cases h⟩
  | true =>
    rw [if_neg (by decide)]
    split
    · exact ⟨⟨Int.le_refl _, bB⟩, ⟨Int.le_refl _, zl⟩, fun h => by cases h⟩
    · rename_i hb
      split
      · rename_i hE
        refine ⟨⟨Int.le_refl _, bB⟩, ⟨by show (0 : Int) ≤ ((behR s false 0 : Nat) : Int); omega, by show ((behR s false 0 : Nat) : Int) ≤ 18; omega⟩, fun h => ?_⟩
        have := neg_some hw h
        rw [List.isEmpty_iff.1 hE] at this
        cases this
      · rename_i hE
        split
        · exact ⟨⟨Int.le_refl _, bB⟩, ⟨Int.le_refl _, zl⟩, fun h => by cases h⟩
        · rename_i he
          refine ⟨parseN_bd _, ⟨by show (0 : Int) ≤ ((behR s false 0 : Nat) : Int); omega, by show ((behR s false 0 : Nat) : Int) ≤ 18; omega⟩, fun _ => ?_⟩
          show (parseN (allR s [])).1 ≠ 0
          rcases al_head s [] (.inl rfl) with h | ⟨c, l, h, hc⟩
          · rw [h] at hE; exact absurd rfl hE
          · rw [h] at he ⊢
            exact parseN_pos hc (by simpa using he)
theorem parseAtX_shape (s : List UInt8) (sc : Int) : Shp (parseAtX s sc) := by
  unfold parseAtX
  split
  · exact ⟨_, _, _, _, _, _, _, rfl⟩
  · split
    · exact ⟨_, _, _, _, _, _, _, rfl⟩
    · split
      · exact ⟨_, _, _, _, _, _, _, rfl⟩
      · exact scX_shape _ _ _
theorem parseAtX_closed (s : List UInt8) (sc : Int) : (parseAtX s sc).closed = true := by
  obtain ⟨b, n1, n2, n3, n4, n5, n6, h⟩ := parseAtX_shape s sc
  rw [h]; rfl
theorem parseAt_ok : QuietOK Tryd.prog 15 fun vs _ => sParseAt vs := quiet_plain htz15 fun args v h => by
  unfold sParseAt at h
  split at h
  · rename_i s sc
    split at h
    · rename_i hs
      cases h
      refine ⟨rfl, parseAtX_closed _ _, ?_⟩
      have hS : (tbS Q tb15r).OK Tryd.prog := tbS_ok quietText (by
        intro x hx
        simp only [tb15r, List.mem_cons, List.not_mem_nil, or_false] at hx
        rcases hx with rfl | rfl
        · exact parse_dec_ok
        · exact rescale_ok)
      obtain ⟨u, h', rfl, hsem⟩ := sem_vc mixed (C := tbC Q tb15r (fun _ => false) kdI) hS (tbS_q _ _) (tbW_ok rfl) htz15 cz15 (no_parts rfl) (v15r s sc fun u _ => u = parseAtX s sc) (by
        obtain ⟨⟨b0, b1⟩, ⟨d0, d1⟩, hneg⟩ := parseD_facts s
        have hP := parseD_at (s := s) hs
        have X1 : sc < 0 ∨ sc > 18 → parseAtX s sc = .tup [zDec, .int .i64 1] := fun h => if_pos h
        refine askI (fun g1 => ?_) fun g1 => askI (fun g2 => ?_) fun g2 => ?_
        · simp only [decide_eq_true_eq] at g1
          rw [X1 (.inl g1)]; rfl
        · simp only [decide_eq_true_eq] at g2
          rw [X1 (.inr g2)]; rfl
        simp only [decide_eq_false_iff_not] at g1 g2
        have X2 : parseAtX s sc = if ((parseD s).2.2.2 != 0) = true then .tup [zDec, .int .i64 (parseD s).2.2.2]
          else if (parseD s).2.2.1 > sc then .tup [zDec, .int .i64 31]
          else scX (parseD s).1 ((parseD s).2.1 * 10 ^ (sc - (parseD s).2.2.1).toNat) sc := if_neg (by omega)
        rw [X2]
        generalize (parseD s).1 = neg at hneg hP ⊢
        generalize (parseD s).2.1 = v at b0 b1 hneg hP ⊢
        generalize (parseD s).2.2.1 = d at d0 d1 hP ⊢
        generalize (parseD s).2.2.2 = e at hP ⊢
        clear X1 X2
        refine ⟨_, _, _, _, _, _, _, hP, askI (fun g3 => ?_) fun g3 => askI (fun g4 => ?_) fun g4 => ?_⟩
        · rw [if_pos g3]; rfl
        · simp only [decide_eq_true_eq] at g4
          rw [if_neg (by rw [g3]; decide), if_pos g4]; rfl
        simp only [decide_eq_false_iff_not] at g4
        rw [if_neg (by rw [g3]; decide), if_neg g4]
        have hR : sRescale [.agg [.bool neg, .int .u64 (v % 18446744073709551616), .int .u64 (v / 18446744073709551616 % 18446744073709551616), .int .u64 (v / 18446744073709551616 / 18446744073709551616 % 18446744073709551616), .int .u64 (v / 18446744073709551616 / 18446744073709551616 / 18446744073709551616 % 18446744073709551616), .int .i64 d], .int .i64 sc, .int .i64 3] = some (scX neg (v * 10 ^ (sc - d).toNat) sc) := by
          have h := num_limbs b0 b1
          have hn := nz_limbs b0 b1
          have e0 : sRescale [.agg [.bool neg, .int .u64 (v % 18446744073709551616), .int .u64 (v / 18446744073709551616 % 18446744073709551616), .int .u64 (v / 18446744073709551616 / 18446744073709551616 % 18446744073709551616), .int .u64 (v / 18446744073709551616 / 18446744073709551616 / 18446744073709551616 % 18446744073709551616), .int .i64 d], .int .i64 sc, .int .i64 3] = some (scX neg (num4 (v % 18446744073709551616) (v / 18446744073709551616 % 18446744073709551616) (v / 18446744073709551616 / 18446744073709551616 % 18446744073709551616) (v / 18446744073709551616 / 18446744073709551616 / 18446744073709551616 % 18446744073709551616) * 10 ^ (sc - d).toNat) sc) := if_pos ⟨u64_limbs v, d0, by omega, by omega, by decide, by decide, by
            rw [hn]
            cases neg with
            | false => rfl
            | true => rw [decide_eq_true (hneg rfl)]; rfl⟩
          rw [h] at e0
          exact e0
        obtain ⟨b, n1, n2, n3, n4, n5, n6, hx⟩ := scX_shape neg (v * 10 ^ (sc - d).toNat) sc
        rw [hx] at hR
        exact ⟨b, n1, n2, n3, n4, n5, n6, hR, hx.symm⟩)
      exact ⟨h', hsem⟩
    · cases h
  · cases h

end Go.Proofs.YtddalcnajejibaaDoor
