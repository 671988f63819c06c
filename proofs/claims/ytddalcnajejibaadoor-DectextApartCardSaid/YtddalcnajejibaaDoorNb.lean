/- Written by merging: Rt Rta Ru Rv Rw Ry Rz. -/
import Derived.Test.YtddalcnajejibaaDoorNc
import Derived.Lib.Repeat
namespace Go.Proofs.YtddalcnajejibaaDoor
open Go Go.Am Go.RowKit
set_option maxRecDepth 100000
set_option maxHeartbeats 4000000
set_option linter.unusedVariables false
set_option linter.unusedSimpArgs false

/-- A number's digits, the last one first. -/
def lsb (v : Nat) : List UInt8 := if h : v = 0 then [] else (48 + v % 10).toUInt8 :: lsb (v / 10)
termination_by v
decreasing_by omega
def textN (v : Nat) : List UInt8 := if v = 0 then [48] else (lsb v).reverse
def sSmall : List AV → Option AV
  | [.agg [.int .u64 a0, .int .u64 a1, .int .u64 a2, .int .u64 a3], .int .u64 b] => if u64s a0 a1 a2 a3 = true ∧ b = 10 then some (.tup [.agg (limbs (num4 a0 a1 a2 a3 / 10)), .int .u64 (num4 a0 a1 a2 a3 % 10)]) else none
  | _ => none
def sText : List AV → Option AV
  | [.agg [.int .u64 a0, .int .u64 a1, .int .u64 a2, .int .u64 a3]] => if u64s a0 a1 a2 a3 = true then some (.str (textN (num4 a0 a1 a2 a3).toNat)) else none
  | _ => none
def sRep : List AV → Option AV
  | [.str [48], .int .i64 n] => if 0 ≤ n ∧ n ≤ 100 then some (.str (List.replicate n.toNat 48)) else none
  | _ => none
def padD (t : List UInt8) (sc : Nat) : List UInt8 := List.replicate (sc + 1 - t.length) 48 ++ t
def pointD (p : List UInt8) (sc : Nat) : List UInt8 := if sc = 0 then p else p.take (p.length - sc) ++ 46 :: p.drop (p.length - sc)
def textD (neg : Bool) (v sc : Nat) : List UInt8 := (if neg then [45] else []) ++ pointD (padD (textN v) sc) sc
def shortD (neg : Bool) (v sc : Nat) : List UInt8 := if sc = 0 then textD neg v 0 else Lib.trimSuffix (Lib.trimRightB (textD neg v sc) 48) [46]
def badD (neg : Bool) (a0 a1 a2 a3 sc : Int) : Bool := decide (sc < 0) || decide (sc > 18) || (neg && !(nz4 a0 a1 a2 a3))
def sTextD : List AV → Option AV
  | [.agg [.bool neg, .int .u64 a0, .int .u64 a1, .int .u64 a2, .int .u64 a3, .int .i64 sc]] => if u64s a0 a1 a2 a3 = true then some (.str (if badD neg a0 a1 a2 a3 sc then [63] else textD neg (num4 a0 a1 a2 a3).toNat sc.toNat)) else none
  | _ => none
def sShortD : List AV → Option AV
  | [.agg [.bool neg, .int .u64 a0, .int .u64 a1, .int .u64 a2, .int .u64 a3, .int .i64 sc]] => if u64s a0 a1 a2 a3 = true then some (.str (if badD neg a0 a1 a2 a3 sc then [63] else shortD neg (num4 a0 a1 a2 a3).toNat sc.toNat)) else none
  | _ => none
def sTrimR : List AV → Option AV
  | [.str s, .str [48]] => if s.length ≤ 9223372036854775807 then some (.str (Lib.trimRightB s 48)) else none
  | _ => none
def sTrimS : List AV → Option AV
  | [.str s, .str [46]] => if s.length ≤ 9223372036854775807 then some (.str (Lib.trimSuffix s [46])) else none
  | _ => none
def C0t : Cfg := tbC Q [] (fun _ => false) kdU
-- ref small
def tb22 : List TbE := [⟨43, fun vs _ => sSmall vs, .tup [ag4, i64]⟩]
def sc22 : PC := (match pz22.body with | .seq _ (.scope a) => a | _ => .skip)
def c80 (acc : List UInt8) : List AV := List.replicate (80 - acc.length) (.int .u8 0) ++ bv acc
def q22 (u at' : Int) (cs : List AV) : St := (envOf 26 [(1, .ptr (some (0, 0))), (3, .ptr (some (1, 0))), (4, .int .i64 at')], [tn4 u, .row 64 80 cs])
def e22 (at' : Int) (n : Nat) (t : List UInt8) (cs : List AV) : St := (envOf 26 [(2, .str t), (3, .ptr (some (0, 0))), (4, .int .i64 at'), (23, .int .i64 at'), (24, .sl (some (0, at'.toNat)) n (.fix n)), (25, .str t)], [.row 64 80 cs])
def C22 : Cfg := { tbC Q tb22 (fun k => k == 1) kdU with
  F := fun id => if id = 8 then ⟨dropT 26 [3, 4], .auto⟩ else if id = 1000000 then ⟨dropT 26 [1, 3, 4], .auto⟩ else ⟨[], .all⟩ }
def G22 (v m : Nat) (l : Nat) : Option (St → (AExit → St → Prop) → Prop) :=
  if l = 0 then some fun st K => ∃ (u : Nat) (acc : List UInt8), st = q22 u (80 - (acc.length : Int)) (c80 acc) ∧ (u ≠ 0 ∧ (lsb u).reverse ++ acc = textN v ∧ acc.length + (lsb u).length ≤ 78 ∧ 0 < acc.length ∧ u < 115792089237316195423570985008687907853269984665640564039457584007913129639936 ∧ u < m) ∧ K .ret (e22 (80 - ((textN v).length : Int)) (textN v).length (textN v) (c80 (textN v))) else none
-- ref Text
def t24 : Tidy := ⟨dropT 52 [1, 3], .auto⟩
def tb9 : List TbE := [⟨21, fun vs _ => sCheck vs, .of (.one (.int .i64))⟩, ⟨22, fun vs _ => sText vs, .of (.one .str)⟩, ⟨23, fun vs _ => sRep vs, .of (.one .str)⟩]
-- ref Text of decimals
def t10 : Tidy := ⟨dropT 41 [1, 3], .all⟩
def tb11 : List TbE := [⟨9, fun vs _ => sTextD vs, .of (.one .str)⟩, ⟨25, fun vs _ => sIndexByte vs, .of (.one (.int .i64))⟩, ⟨27, fun vs _ => sTrimR vs, .of (.one .str)⟩, ⟨26, fun vs _ => sTrimS vs, .of (.one .str)⟩]
theorem lsb_zero : lsb 0 = [] := by rw [lsb]; rfl
theorem lsb_pos {v : Nat} (h : v ≠ 0) : lsb v = (48 + v % 10).toUInt8 :: lsb (v / 10) := by rw [lsb, dif_neg h]
theorem lsb_len : ∀ (n v : Nat), v < 10 ^ n → (lsb v).length ≤ n
  | 0, v, h => by
    have : v = 0 := by simpa using h
    subst this; rw [lsb_zero]; simp
  | n + 1, v, h => by
    by_cases h0 : v = 0
    · subst h0; rw [lsb_zero]; simp
    · rw [lsb_pos h0, List.length_cons]
      have : v / 10 < 10 ^ n := by rw [Nat.pow_succ] at h; omega
      have := lsb_len n (v / 10) this
      omega
theorem lsb_78 {v : Nat} (h : v < 115792089237316195423570985008687907853269984665640564039457584007913129639936) : (lsb v).length ≤ 78 := lsb_len 78 v (Nat.lt_trans h (by decide))
theorem textN_len {v : Nat} (h : v < 115792089237316195423570985008687907853269984665640564039457584007913129639936) : 1 ≤ (textN v).length ∧ (textN v).length ≤ 78 := by
  unfold textN
  split
  · simp
  · rename_i h0
    have := lsb_78 h
    rw [List.length_reverse]
    rw [lsb_pos h0, List.length_cons] at this ⊢
    omega
theorem dig_u8 (d : Nat) (h : d < 10) : (((48 + d).toUInt8.toNat : Nat) : Int) = 48 + d := by
  have : (48 + d).toUInt8.toNat = 48 + d := by simp; omega
  rw [this]; omega
theorem v43t (a0 a1 a2 a3 : Int) (R : AV → AHeap → Prop) : (R (AV.tup [AV.agg [AV.int .u64 (IntKind.wrap .u64 (↑(BitVec.toNat (BitVec.ofInt (IntKind.bits .u64) (IntKind.wrap .u64 (IntKind.wrap .u64 (↑(BitVec.toNat (BitVec.ofInt (IntKind.bits .u64) 0 ||| BitVec.ofInt (IntKind.bits .u64) (IntKind.wrap .u64 (Int.tdiv (IntKind.wrap .u64 (↑(BitVec.toNat (BitVec.ofInt (IntKind.bits .u64) (IntKind.wrap .u64 (Int.tmod (IntKind.wrap .u64 (↑(BitVec.toNat (BitVec.ofInt (IntKind.bits .u64) (IntKind.wrap .u64 (Int.tmod (IntKind.wrap .u64 (↑(BitVec.toNat (BitVec.ofInt (IntKind.bits .u64) (IntKind.wrap .u64 (Int.tmod (IntKind.wrap .u64 (↑(BitVec.toNat (BitVec.ofInt (IntKind.bits .u64) (IntKind.wrap .u64 (Int.tmod (IntKind.wrap .u64 (↑(BitVec.toNat (BitVec.ofInt (IntKind.bits .u64) (IntKind.wrap .u64 (Int.tmod (IntKind.wrap .u64 (↑(BitVec.toNat (BitVec.ofInt (IntKind.bits .u64) (IntKind.wrap .u64 (Int.tmod (IntKind.wrap .u64 (↑(BitVec.toNat (BitVec.ofInt (IntKind.bits .u64) 0 ||| BitVec.ofInt (IntKind.bits .u64) (IntKind.wrap .u64 (↑(BitVec.toNat (BitVec.ofInt (IntKind.bits .u64) (Int.fdiv a3 (2 ^ min 32 (IntKind.bits .u64))) &&& BitVec.ofInt (IntKind.bits .u64) 4294967295)) : Int)))) : Int)) 10 * 2 ^ min 32 (IntKind.bits .u64))) ||| BitVec.ofInt (IntKind.bits .u64) (IntKind.wrap .u64 (↑(BitVec.toNat (BitVec.ofInt (IntKind.bits .u64) (Int.fdiv a3 (2 ^ min 0 (IntKind.bits .u64))) &&& BitVec.ofInt (IntKind.bits .u64) 4294967295)) : Int)))) : Int)) 10 * 2 ^ min 32 (IntKind.bits .u64))) ||| BitVec.ofInt (IntKind.bits .u64) (IntKind.wrap .u64 (↑(BitVec.toNat (BitVec.ofInt (IntKind.bits .u64) (Int.fdiv a2 (2 ^ min 32 (IntKind.bits .u64))) &&& BitVec.ofInt (IntKind.bits .u64) 4294967295)) : Int)))) : Int)) 10 * 2 ^ min 32 (IntKind.bits .u64))) ||| BitVec.ofInt (IntKind.bits .u64) (IntKind.wrap .u64 (↑(BitVec.toNat (BitVec.ofInt (IntKind.bits .u64) (Int.fdiv a2 (2 ^ min 0 (IntKind.bits .u64))) &&& BitVec.ofInt (IntKind.bits .u64) 4294967295)) : Int)))) : Int)) 10 * 2 ^ min 32 (IntKind.bits .u64))) ||| BitVec.ofInt (IntKind.bits .u64) (IntKind.wrap .u64 (↑(BitVec.toNat (BitVec.ofInt (IntKind.bits .u64) (Int.fdiv a1 (2 ^ min 32 (IntKind.bits .u64))) &&& BitVec.ofInt (IntKind.bits .u64) 4294967295)) : Int)))) : Int)) 10 * 2 ^ min 32 (IntKind.bits .u64))) ||| BitVec.ofInt (IntKind.bits .u64) (IntKind.wrap .u64 (↑(BitVec.toNat (BitVec.ofInt (IntKind.bits .u64) (Int.fdiv a1 (2 ^ min 0 (IntKind.bits .u64))) &&& BitVec.ofInt (IntKind.bits .u64) 4294967295)) : Int)))) : Int)) 10 * 2 ^ min 32 (IntKind.bits .u64))) ||| BitVec.ofInt (IntKind.bits .u64) (IntKind.wrap .u64 (↑(BitVec.toNat (BitVec.ofInt (IntKind.bits .u64) (Int.fdiv a0 (2 ^ min 32 (IntKind.bits .u64))) &&& BitVec.ofInt (IntKind.bits .u64) 4294967295)) : Int)))) : Int)) 10)))) : Int) * 2 ^ min 32 (IntKind.bits .u64))) ||| BitVec.ofInt (IntKind.bits .u64) (IntKind.wrap .u64 (Int.tdiv (IntKind.wrap .u64 (↑(BitVec.toNat (BitVec.ofInt (IntKind.bits .u64) (IntKind.wrap .u64 (Int.tmod (IntKind.wrap .u64 (↑(BitVec.toNat (BitVec.ofInt (IntKind.bits .u64) (IntKind.wrap .u64 (Int.tmod (IntKind.wrap .u64 (↑(BitVec.toNat (BitVec.ofInt (IntKind.bits .u64) (IntKind.wrap .u64 (Int.tmod (IntKind.wrap .u64 (↑(BitVec.toNat (BitVec.ofInt (IntKind.bits .u64) (IntKind.wrap .u64 (Int.tmod (IntKind.wrap .u64 (↑(BitVec.toNat (BitVec.ofInt (IntKind.bits .u64) (IntKind.wrap .u64 (Int.tmod (IntKind.wrap .u64 (↑(BitVec.toNat (BitVec.ofInt (IntKind.bits .u64) (IntKind.wrap .u64 (Int.tmod (IntKind.wrap .u64 (↑(BitVec.toNat (BitVec.ofInt (IntKind.bits .u64) (IntKind.wrap .u64 (Int.tmod (IntKind.wrap .u64 (↑(BitVec.toNat (BitVec.ofInt (IntKind.bits .u64) 0 ||| BitVec.ofInt (IntKind.bits .u64) (IntKind.wrap .u64 (↑(BitVec.toNat (BitVec.ofInt (IntKind.bits .u64) (Int.fdiv a3 (2 ^ min 32 (IntKind.bits .u64))) &&& BitVec.ofInt (IntKind.bits .u64) 4294967295)) : Int)))) : Int)) 10 * 2 ^ min 32 (IntKind.bits .u64))) ||| BitVec.ofInt (IntKind.bits .u64) (IntKind.wrap .u64 (↑(BitVec.toNat (BitVec.ofInt (IntKind.bits .u64) (Int.fdiv a3 (2 ^ min 0 (IntKind.bits .u64))) &&& BitVec.ofInt (IntKind.bits .u64) 4294967295)) : Int)))) : Int)) 10 * 2 ^ min 32 (IntKind.bits .u64))) ||| BitVec.ofInt (IntKind.bits .u64) (IntKind.wrap .u64 (↑(BitVec.toNat (BitVec.ofInt (IntKind.bits .u64) (Int.fdiv a2 (2 ^ min 32 (IntKind.bits .u64))) &&& BitVec.ofInt (IntKind.bits .u64) 4294967295)) : Int)))) : Int)) 10 * 2 ^ min 32 (IntKind.bits .u64))) ||| BitVec.ofInt (IntKind.bits .u64) (IntKind.wrap .u64 (↑(BitVec.toNat (BitVec.ofInt (IntKind.bits .u64) (Int.fdiv a2 (2 ^ min 0 (IntKind.bits .u64))) &&& BitVec.ofInt (IntKind.bits .u64) 4294967295)) : Int)))) : Int)) 10 * 2 ^ min 32 (IntKind.bits .u64))) ||| BitVec.ofInt (IntKind.bits .u64) (IntKind.wrap .u64 (↑(BitVec.toNat (BitVec.ofInt (IntKind.bits .u64) (Int.fdiv a1 (2 ^ min 32 (IntKind.bits .u64))) &&& BitVec.ofInt (IntKind.bits .u64) 4294967295)) : Int)))) : Int)) 10 * 2 ^ min 32 (IntKind.bits .u64))) ||| BitVec.ofInt (IntKind.bits .u64) (IntKind.wrap .u64 (↑(BitVec.toNat (BitVec.ofInt (IntKind.bits .u64) (Int.fdiv a1 (2 ^ min 0 (IntKind.bits .u64))) &&& BitVec.ofInt (IntKind.bits .u64) 4294967295)) : Int)))) : Int)) 10 * 2 ^ min 32 (IntKind.bits .u64))) ||| BitVec.ofInt (IntKind.bits .u64) (IntKind.wrap .u64 (↑(BitVec.toNat (BitVec.ofInt (IntKind.bits .u64) (Int.fdiv a0 (2 ^ min 32 (IntKind.bits .u64))) &&& BitVec.ofInt (IntKind.bits .u64) 4294967295)) : Int)))) : Int)) 10 * 2 ^ min 32 (IntKind.bits .u64))) ||| BitVec.ofInt (IntKind.bits .u64) (IntKind.wrap .u64 (↑(BitVec.toNat (BitVec.ofInt (IntKind.bits .u64) (Int.fdiv a0 (2 ^ min 0 (IntKind.bits .u64))) &&& BitVec.ofInt (IntKind.bits .u64) 4294967295)) : Int)))) : Int)) 10)))) : Int)), AV.int .u64 (IntKind.wrap .u64 (↑(BitVec.toNat (BitVec.ofInt (IntKind.bits .u64) (IntKind.wrap .u64 (IntKind.wrap .u64 (↑(BitVec.toNat (BitVec.ofInt (IntKind.bits .u64) 0 ||| BitVec.ofInt (IntKind.bits .u64) (IntKind.wrap .u64 (Int.tdiv (IntKind.wrap .u64 (↑(BitVec.toNat (BitVec.ofInt (IntKind.bits .u64) (IntKind.wrap .u64 (Int.tmod (IntKind.wrap .u64 (↑(BitVec.toNat (BitVec.ofInt (IntKind.bits .u64) (IntKind.wrap .u64 (Int.tmod (IntKind.wrap .u64 (↑(BitVec.toNat (BitVec.ofInt (IntKind.bits .u64) (IntKind.wrap .u64 (Int.tmod (IntKind.wrap .u64 (↑(BitVec.toNat (BitVec.ofInt (IntKind.bits .u64) (IntKind.wrap .u64 (Int.tmod (IntKind.wrap .u64 (↑(BitVec.toNat (BitVec.ofInt (IntKind.bits .u64) 0 ||| BitVec.ofInt (IntKind.bits .u64) (IntKind.wrap .u64 (↑(BitVec.toNat (BitVec.ofInt (IntKind.bits .u64) (Int.fdiv a3 (2 ^ min 32 (IntKind.bits .u64))) &&& BitVec.ofInt (IntKind.bits .u64) 4294967295)) : Int)))) : Int)) 10 * 2 ^ min 32 (IntKind.bits .u64))) ||| BitVec.ofInt (IntKind.bits .u64) (IntKind.wrap .u64 (↑(BitVec.toNat (BitVec.ofInt (IntKind.bits .u64) (Int.fdiv a3 (2 ^ min 0 (IntKind.bits .u64))) &&& BitVec.ofInt (IntKind.bits .u64) 4294967295)) : Int)))) : Int)) 10 * 2 ^ min 32 (IntKind.bits .u64))) ||| BitVec.ofInt (IntKind.bits .u64) (IntKind.wrap .u64 (↑(BitVec.toNat (BitVec.ofInt (IntKind.bits .u64) (Int.fdiv a2 (2 ^ min 32 (IntKind.bits .u64))) &&& BitVec.ofInt (IntKind.bits .u64) 4294967295)) : Int)))) : Int)) 10 * 2 ^ min 32 (IntKind.bits .u64))) ||| BitVec.ofInt (IntKind.bits .u64) (IntKind.wrap .u64 (↑(BitVec.toNat (BitVec.ofInt (IntKind.bits .u64) (Int.fdiv a2 (2 ^ min 0 (IntKind.bits .u64))) &&& BitVec.ofInt (IntKind.bits .u64) 4294967295)) : Int)))) : Int)) 10 * 2 ^ min 32 (IntKind.bits .u64))) ||| BitVec.ofInt (IntKind.bits .u64) (IntKind.wrap .u64 (↑(BitVec.toNat (BitVec.ofInt (IntKind.bits .u64) (Int.fdiv a1 (2 ^ min 32 (IntKind.bits .u64))) &&& BitVec.ofInt (IntKind.bits .u64) 4294967295)) : Int)))) : Int)) 10)))) : Int) * 2 ^ min 32 (IntKind.bits .u64))) ||| BitVec.ofInt (IntKind.bits .u64) (IntKind.wrap .u64 (Int.tdiv (IntKind.wrap .u64 (↑(BitVec.toNat (BitVec.ofInt (IntKind.bits .u64) (IntKind.wrap .u64 (Int.tmod (IntKind.wrap .u64 (↑(BitVec.toNat (BitVec.ofInt (IntKind.bits .u64) (IntKind.wrap .u64 (Int.tmod (IntKind.wrap .u64 (↑(BitVec.toNat (BitVec.ofInt (IntKind.bits .u64) (IntKind.wrap .u64 (Int.tmod (IntKind.wrap .u64 (↑(BitVec.toNat (BitVec.ofInt (IntKind.bits .u64) (IntKind.wrap .u64 (Int.tmod (IntKind.wrap .u64 (↑(BitVec.toNat (BitVec.ofInt (IntKind.bits .u64) (IntKind.wrap .u64 (Int.tmod (IntKind.wrap .u64 (↑(BitVec.toNat (BitVec.ofInt (IntKind.bits .u64) 0 ||| BitVec.ofInt (IntKind.bits .u64) (IntKind.wrap .u64 (↑(BitVec.toNat (BitVec.ofInt (IntKind.bits .u64) (Int.fdiv a3 (2 ^ min 32 (IntKind.bits .u64))) &&& BitVec.ofInt (IntKind.bits .u64) 4294967295)) : Int)))) : Int)) 10 * 2 ^ min 32 (IntKind.bits .u64))) ||| BitVec.ofInt (IntKind.bits .u64) (IntKind.wrap .u64 (↑(BitVec.toNat (BitVec.ofInt (IntKind.bits .u64) (Int.fdiv a3 (2 ^ min 0 (IntKind.bits .u64))) &&& BitVec.ofInt (IntKind.bits .u64) 4294967295)) : Int)))) : Int)) 10 * 2 ^ min 32 (IntKind.bits .u64))) ||| BitVec.ofInt (IntKind.bits .u64) (IntKind.wrap .u64 (↑(BitVec.toNat (BitVec.ofInt (IntKind.bits .u64) (Int.fdiv a2 (2 ^ min 32 (IntKind.bits .u64))) &&& BitVec.ofInt (IntKind.bits .u64) 4294967295)) : Int)))) : Int)) 10 * 2 ^ min 32 (IntKind.bits .u64))) ||| BitVec.ofInt (IntKind.bits .u64) (IntKind.wrap .u64 (↑(BitVec.toNat (BitVec.ofInt (IntKind.bits .u64) (Int.fdiv a2 (2 ^ min 0 (IntKind.bits .u64))) &&& BitVec.ofInt (IntKind.bits .u64) 4294967295)) : Int)))) : Int)) 10 * 2 ^ min 32 (IntKind.bits .u64))) ||| BitVec.ofInt (IntKind.bits .u64) (IntKind.wrap .u64 (↑(BitVec.toNat (BitVec.ofInt (IntKind.bits .u64) (Int.fdiv a1 (2 ^ min 32 (IntKind.bits .u64))) &&& BitVec.ofInt (IntKind.bits .u64) 4294967295)) : Int)))) : Int)) 10 * 2 ^ min 32 (IntKind.bits .u64))) ||| BitVec.ofInt (IntKind.bits .u64) (IntKind.wrap .u64 (↑(BitVec.toNat (BitVec.ofInt (IntKind.bits .u64) (Int.fdiv a1 (2 ^ min 0 (IntKind.bits .u64))) &&& BitVec.ofInt (IntKind.bits .u64) 4294967295)) : Int)))) : Int)) 10)))) : Int)), AV.int .u64 (IntKind.wrap .u64 (↑(BitVec.toNat (BitVec.ofInt (IntKind.bits .u64) (IntKind.wrap .u64 (IntKind.wrap .u64 (↑(BitVec.toNat (BitVec.ofInt (IntKind.bits .u64) 0 ||| BitVec.ofInt (IntKind.bits .u64) (IntKind.wrap .u64 (Int.tdiv (IntKind.wrap .u64 (↑(BitVec.toNat (BitVec.ofInt (IntKind.bits .u64) (IntKind.wrap .u64 (Int.tmod (IntKind.wrap .u64 (↑(BitVec.toNat (BitVec.ofInt (IntKind.bits .u64) (IntKind.wrap .u64 (Int.tmod (IntKind.wrap .u64 (↑(BitVec.toNat (BitVec.ofInt (IntKind.bits .u64) 0 ||| BitVec.ofInt (IntKind.bits .u64) (IntKind.wrap .u64 (↑(BitVec.toNat (BitVec.ofInt (IntKind.bits .u64) (Int.fdiv a3 (2 ^ min 32 (IntKind.bits .u64))) &&& BitVec.ofInt (IntKind.bits .u64) 4294967295)) : Int)))) : Int)) 10 * 2 ^ min 32 (IntKind.bits .u64))) ||| BitVec.ofInt (IntKind.bits .u64) (IntKind.wrap .u64 (↑(BitVec.toNat (BitVec.ofInt (IntKind.bits .u64) (Int.fdiv a3 (2 ^ min 0 (IntKind.bits .u64))) &&& BitVec.ofInt (IntKind.bits .u64) 4294967295)) : Int)))) : Int)) 10 * 2 ^ min 32 (IntKind.bits .u64))) ||| BitVec.ofInt (IntKind.bits .u64) (IntKind.wrap .u64 (↑(BitVec.toNat (BitVec.ofInt (IntKind.bits .u64) (Int.fdiv a2 (2 ^ min 32 (IntKind.bits .u64))) &&& BitVec.ofInt (IntKind.bits .u64) 4294967295)) : Int)))) : Int)) 10)))) : Int) * 2 ^ min 32 (IntKind.bits .u64))) ||| BitVec.ofInt (IntKind.bits .u64) (IntKind.wrap .u64 (Int.tdiv (IntKind.wrap .u64 (↑(BitVec.toNat (BitVec.ofInt (IntKind.bits .u64) (IntKind.wrap .u64 (Int.tmod (IntKind.wrap .u64 (↑(BitVec.toNat (BitVec.ofInt (IntKind.bits .u64) (IntKind.wrap .u64 (Int.tmod (IntKind.wrap .u64 (↑(BitVec.toNat (BitVec.ofInt (IntKind.bits .u64) (IntKind.wrap .u64 (Int.tmod (IntKind.wrap .u64 (↑(BitVec.toNat (BitVec.ofInt (IntKind.bits .u64) 0 ||| BitVec.ofInt (IntKind.bits .u64) (IntKind.wrap .u64 (↑(BitVec.toNat (BitVec.ofInt (IntKind.bits .u64) (Int.fdiv a3 (2 ^ min 32 (IntKind.bits .u64))) &&& BitVec.ofInt (IntKind.bits .u64) 4294967295)) : Int)))) : Int)) 10 * 2 ^ min 32 (IntKind.bits .u64))) ||| BitVec.ofInt (IntKind.bits .u64) (IntKind.wrap .u64 (↑(BitVec.toNat (BitVec.ofInt (IntKind.bits .u64) (Int.fdiv a3 (2 ^ min 0 (IntKind.bits .u64))) &&& BitVec.ofInt (IntKind.bits .u64) 4294967295)) : Int)))) : Int)) 10 * 2 ^ min 32 (IntKind.bits .u64))) ||| BitVec.ofInt (IntKind.bits .u64) (IntKind.wrap .u64 (↑(BitVec.toNat (BitVec.ofInt (IntKind.bits .u64) (Int.fdiv a2 (2 ^ min 32 (IntKind.bits .u64))) &&& BitVec.ofInt (IntKind.bits .u64) 4294967295)) : Int)))) : Int)) 10 * 2 ^ min 32 (IntKind.bits .u64))) ||| BitVec.ofInt (IntKind.bits .u64) (IntKind.wrap .u64 (↑(BitVec.toNat (BitVec.ofInt (IntKind.bits .u64) (Int.fdiv a2 (2 ^ min 0 (IntKind.bits .u64))) &&& BitVec.ofInt (IntKind.bits .u64) 4294967295)) : Int)))) : Int)) 10)))) : Int)), AV.int .u64 (IntKind.wrap .u64 (↑(BitVec.toNat (BitVec.ofInt (IntKind.bits .u64) (IntKind.wrap .u64 (IntKind.wrap .u64 (↑(BitVec.toNat (BitVec.ofInt (IntKind.bits .u64) 0 ||| BitVec.ofInt (IntKind.bits .u64) (IntKind.wrap .u64 (Int.tdiv (IntKind.wrap .u64 (↑(BitVec.toNat (BitVec.ofInt (IntKind.bits .u64) 0 ||| BitVec.ofInt (IntKind.bits .u64) (IntKind.wrap .u64 (↑(BitVec.toNat (BitVec.ofInt (IntKind.bits .u64) (Int.fdiv a3 (2 ^ min 32 (IntKind.bits .u64))) &&& BitVec.ofInt (IntKind.bits .u64) 4294967295)) : Int)))) : Int)) 10)))) : Int) * 2 ^ min 32 (IntKind.bits .u64))) ||| BitVec.ofInt (IntKind.bits .u64) (IntKind.wrap .u64 (Int.tdiv (IntKind.wrap .u64 (↑(BitVec.toNat (BitVec.ofInt (IntKind.bits .u64) (IntKind.wrap .u64 (Int.tmod (IntKind.wrap .u64 (↑(BitVec.toNat (BitVec.ofInt (IntKind.bits .u64) 0 ||| BitVec.ofInt (IntKind.bits .u64) (IntKind.wrap .u64 (↑(BitVec.toNat (BitVec.ofInt (IntKind.bits .u64) (Int.fdiv a3 (2 ^ min 32 (IntKind.bits .u64))) &&& BitVec.ofInt (IntKind.bits .u64) 4294967295)) : Int)))) : Int)) 10 * 2 ^ min 32 (IntKind.bits .u64))) ||| BitVec.ofInt (IntKind.bits .u64) (IntKind.wrap .u64 (↑(BitVec.toNat (BitVec.ofInt (IntKind.bits .u64) (Int.fdiv a3 (2 ^ min 0 (IntKind.bits .u64))) &&& BitVec.ofInt (IntKind.bits .u64) 4294967295)) : Int)))) : Int)) 10)))) : Int))], AV.int .u64 (Int.tmod (IntKind.wrap .u64 (↑(BitVec.toNat (BitVec.ofInt (IntKind.bits .u64) (IntKind.wrap .u64 (Int.tmod (IntKind.wrap .u64 (↑(BitVec.toNat (BitVec.ofInt (IntKind.bits .u64) (IntKind.wrap .u64 (Int.tmod (IntKind.wrap .u64 (↑(BitVec.toNat (BitVec.ofInt (IntKind.bits .u64) (IntKind.wrap .u64 (Int.tmod (IntKind.wrap .u64 (↑(BitVec.toNat (BitVec.ofInt (IntKind.bits .u64) (IntKind.wrap .u64 (Int.tmod (IntKind.wrap .u64 (↑(BitVec.toNat (BitVec.ofInt (IntKind.bits .u64) (IntKind.wrap .u64 (Int.tmod (IntKind.wrap .u64 (↑(BitVec.toNat (BitVec.ofInt (IntKind.bits .u64) (IntKind.wrap .u64 (Int.tmod (IntKind.wrap .u64 (↑(BitVec.toNat (BitVec.ofInt (IntKind.bits .u64) (IntKind.wrap .u64 (Int.tmod (IntKind.wrap .u64 (↑(BitVec.toNat (BitVec.ofInt (IntKind.bits .u64) 0 ||| BitVec.ofInt (IntKind.bits .u64) (IntKind.wrap .u64 (↑(BitVec.toNat (BitVec.ofInt (IntKind.bits .u64) (Int.fdiv a3 (2 ^ min 32 (IntKind.bits .u64))) &&& BitVec.ofInt (IntKind.bits .u64) 4294967295)) : Int)))) : Int)) 10 * 2 ^ min 32 (IntKind.bits .u64))) ||| BitVec.ofInt (IntKind.bits .u64) (IntKind.wrap .u64 (↑(BitVec.toNat (BitVec.ofInt (IntKind.bits .u64) (Int.fdiv a3 (2 ^ min 0 (IntKind.bits .u64))) &&& BitVec.ofInt (IntKind.bits .u64) 4294967295)) : Int)))) : Int)) 10 * 2 ^ min 32 (IntKind.bits .u64))) ||| BitVec.ofInt (IntKind.bits .u64) (IntKind.wrap .u64 (↑(BitVec.toNat (BitVec.ofInt (IntKind.bits .u64) (Int.fdiv a2 (2 ^ min 32 (IntKind.bits .u64))) &&& BitVec.ofInt (IntKind.bits .u64) 4294967295)) : Int)))) : Int)) 10 * 2 ^ min 32 (IntKind.bits .u64))) ||| BitVec.ofInt (IntKind.bits .u64) (IntKind.wrap .u64 (↑(BitVec.toNat (BitVec.ofInt (IntKind.bits .u64) (Int.fdiv a2 (2 ^ min 0 (IntKind.bits .u64))) &&& BitVec.ofInt (IntKind.bits .u64) 4294967295)) : Int)))) : Int)) 10 * 2 ^ min 32 (IntKind.bits .u64))) ||| BitVec.ofInt (IntKind.bits .u64) (IntKind.wrap .u64 (↑(BitVec.toNat (BitVec.ofInt (IntKind.bits .u64) (Int.fdiv a1 (2 ^ min 32 (IntKind.bits .u64))) &&& BitVec.ofInt (IntKind.bits .u64) 4294967295)) : Int)))) : Int)) 10 * 2 ^ min 32 (IntKind.bits .u64))) ||| BitVec.ofInt (IntKind.bits .u64) (IntKind.wrap .u64 (↑(BitVec.toNat (BitVec.ofInt (IntKind.bits .u64) (Int.fdiv a1 (2 ^ min 0 (IntKind.bits .u64))) &&& BitVec.ofInt (IntKind.bits .u64) 4294967295)) : Int)))) : Int)) 10 * 2 ^ min 32 (IntKind.bits .u64))) ||| BitVec.ofInt (IntKind.bits .u64) (IntKind.wrap .u64 (↑(BitVec.toNat (BitVec.ofInt (IntKind.bits .u64) (Int.fdiv a0 (2 ^ min 32 (IntKind.bits .u64))) &&& BitVec.ofInt (IntKind.bits .u64) 4294967295)) : Int)))) : Int)) 10 * 2 ^ min 32 (IntKind.bits .u64))) ||| BitVec.ofInt (IntKind.bits .u64) (IntKind.wrap .u64 (↑(BitVec.toNat (BitVec.ofInt (IntKind.bits .u64) (Int.fdiv a0 (2 ^ min 0 (IntKind.bits .u64))) &&& BitVec.ofInt (IntKind.bits .u64) 4294967295)) : Int)))) : Int)) 10)]) [AObj.row 24 4 [AV.int .u64 (IntKind.wrap .u64 (↑(BitVec.toNat (BitVec.ofInt (IntKind.bits .u64) (IntKind.wrap .u64 (IntKind.wrap .u64 (↑(BitVec.toNat (BitVec.ofInt (IntKind.bits .u64) 0 ||| BitVec.ofInt (IntKind.bits .u64) (IntKind.wrap .u64 (Int.tdiv (IntKind.wrap .u64 (↑(BitVec.toNat (BitVec.ofInt (IntKind.bits .u64) (IntKind.wrap .u64 (Int.tmod (IntKind.wrap .u64 (↑(BitVec.toNat (BitVec.ofInt (IntKind.bits .u64) (IntKind.wrap .u64 (Int.tmod (IntKind.wrap .u64 (↑(BitVec.toNat (BitVec.ofInt (IntKind.bits .u64) (IntKind.wrap .u64 (Int.tmod (IntKind.wrap .u64 (↑(BitVec.toNat (BitVec.ofInt (IntKind.bits .u64) (IntKind.wrap .u64 (Int.tmod (IntKind.wrap .u64 (↑(BitVec.toNat (BitVec.ofInt (IntKind.bits .u64) (IntKind.wrap .u64 (Int.tmod (IntKind.wrap .u64 (↑(BitVec.toNat (BitVec.ofInt (IntKind.bits .u64) (IntKind.wrap .u64 (Int.tmod (IntKind.wrap .u64 (↑(BitVec.toNat (BitVec.ofInt (IntKind.bits .u64) 0 ||| BitVec.ofInt (IntKind.bits .u64) (IntKind.wrap .u64 (↑(BitVec.toNat (BitVec.ofInt (IntKind.bits .u64) (Int.fdiv a3 (2 ^ min 32 (IntKind.bits .u64))) &&& BitVec.ofInt (IntKind.bits .u64) 4294967295)) : Int)))) : Int)) 10 * 2 ^ min 32 (IntKind.bits .u64))) ||| BitVec.ofInt (IntKind.bits .u64) (IntKind.wrap .u64 (↑(BitVec.toNat (BitVec.ofInt (IntKind.bits .u64) (Int.fdiv a3 (2 ^ min 0 (IntKind.bits .u64))) &&& BitVec.ofInt (IntKind.bits .u64) 4294967295)) : Int)))) : Int)) 10 * 2 ^ min 32 (IntKind.bits .u64))) ||| BitVec.ofInt (IntKind.bits .u64) (IntKind.wrap .u64 (↑(BitVec.toNat (BitVec.ofInt (IntKind.bits .u64) (Int.fdiv a2 (2 ^ min 32 (IntKind.bits .u64))) &&& BitVec.ofInt (IntKind.bits .u64) 4294967295)) : Int)))) : Int)) 10 * 2 ^ min 32 (IntKind.bits .u64))) ||| BitVec.ofInt (IntKind.bits .u64) (IntKind.wrap .u64 (↑(BitVec.toNat (BitVec.ofInt (IntKind.bits .u64) (Int.fdiv a2 (2 ^ min 0 (IntKind.bits .u64))) &&& BitVec.ofInt (IntKind.bits .u64) 4294967295)) : Int)))) : Int)) 10 * 2 ^ min 32 (IntKind.bits .u64))) ||| BitVec.ofInt (IntKind.bits .u64) (IntKind.wrap .u64 (↑(BitVec.toNat (BitVec.ofInt (IntKind.bits .u64) (Int.fdiv a1 (2 ^ min 32 (IntKind.bits .u64))) &&& BitVec.ofInt (IntKind.bits .u64) 4294967295)) : Int)))) : Int)) 10 * 2 ^ min 32 (IntKind.bits .u64))) ||| BitVec.ofInt (IntKind.bits .u64) (IntKind.wrap .u64 (↑(BitVec.toNat (BitVec.ofInt (IntKind.bits .u64) (Int.fdiv a1 (2 ^ min 0 (IntKind.bits .u64))) &&& BitVec.ofInt (IntKind.bits .u64) 4294967295)) : Int)))) : Int)) 10 * 2 ^ min 32 (IntKind.bits .u64))) ||| BitVec.ofInt (IntKind.bits .u64) (IntKind.wrap .u64 (↑(BitVec.toNat (BitVec.ofInt (IntKind.bits .u64) (Int.fdiv a0 (2 ^ min 32 (IntKind.bits .u64))) &&& BitVec.ofInt (IntKind.bits .u64) 4294967295)) : Int)))) : Int)) 10)))) : Int) * 2 ^ min 32 (IntKind.bits .u64))) ||| BitVec.ofInt (IntKind.bits .u64) (IntKind.wrap .u64 (Int.tdiv (IntKind.wrap .u64 (↑(BitVec.toNat (BitVec.ofInt (IntKind.bits .u64) (IntKind.wrap .u64 (Int.tmod (IntKind.wrap .u64 (↑(BitVec.toNat (BitVec.ofInt (IntKind.bits .u64) (IntKind.wrap .u64 (Int.tmod (IntKind.wrap .u64 (↑(BitVec.toNat (BitVec.ofInt (IntKind.bits .u64) (IntKind.wrap .u64 (Int.tmod (IntKind.wrap .u64 (↑(BitVec.toNat (BitVec.ofInt (IntKind.bits .u64) (IntKind.wrap .u64 (Int.tmod (IntKind.wrap .u64 (↑(BitVec.toNat (BitVec.ofInt (IntKind.bits .u64) (IntKind.wrap .u64 (Int.tmod (IntKind.wrap .u64 (↑(BitVec.toNat (BitVec.ofInt (IntKind.bits .u64) (IntKind.wrap .u64 (Int.tmod (IntKind.wrap .u64 (↑(BitVec.toNat (BitVec.ofInt (IntKind.bits .u64) (IntKind.wrap .u64 (Int.tmod (IntKind.wrap .u64 (↑(BitVec.toNat (BitVec.ofInt (IntKind.bits .u64) 0 ||| BitVec.ofInt (IntKind.bits .u64) (IntKind.wrap .u64 (↑(BitVec.toNat (BitVec.ofInt (IntKind.bits .u64) (Int.fdiv a3 (2 ^ min 32 (IntKind.bits .u64))) &&& BitVec.ofInt (IntKind.bits .u64) 4294967295)) : Int)))) : Int)) 10 * 2 ^ min 32 (IntKind.bits .u64))) ||| BitVec.ofInt (IntKind.bits .u64) (IntKind.wrap .u64 (↑(BitVec.toNat (BitVec.ofInt (IntKind.bits .u64) (Int.fdiv a3 (2 ^ min 0 (IntKind.bits .u64))) &&& BitVec.ofInt (IntKind.bits .u64) 4294967295)) : Int)))) : Int)) 10 * 2 ^ min 32 (IntKind.bits .u64))) ||| BitVec.ofInt (IntKind.bits .u64) (IntKind.wrap .u64 (↑(BitVec.toNat (BitVec.ofInt (IntKind.bits .u64) (Int.fdiv a2 (2 ^ min 32 (IntKind.bits .u64))) &&& BitVec.ofInt (IntKind.bits .u64) 4294967295)) : Int)))) : Int)) 10 * 2 ^ min 32 (IntKind.bits .u64))) ||| BitVec.ofInt (IntKind.bits .u64) (IntKind.wrap .u64 (↑(BitVec.toNat (BitVec.ofInt (IntKind.bits .u64) (Int.fdiv a2 (2 ^ min 0 (IntKind.bits .u64))) &&& BitVec.ofInt (IntKind.bits .u64) 4294967295)) : Int)))) : Int)) 10 * 2 ^ min 32 (IntKind.bits .u64))) ||| BitVec.ofInt (IntKind.bits .u64) (IntKind.wrap .u64 (↑(BitVec.toNat (BitVec.ofInt (IntKind.bits .u64) (Int.fdiv a1 (2 ^ min 32 (IntKind.bits .u64))) &&& BitVec.ofInt (IntKind.bits .u64) 4294967295)) : Int)))) : Int)) 10 * 2 ^ min 32 (IntKind.bits .u64))) ||| BitVec.ofInt (IntKind.bits .u64) (IntKind.wrap .u64 (↑(BitVec.toNat (BitVec.ofInt (IntKind.bits .u64) (Int.fdiv a1 (2 ^ min 0 (IntKind.bits .u64))) &&& BitVec.ofInt (IntKind.bits .u64) 4294967295)) : Int)))) : Int)) 10 * 2 ^ min 32 (IntKind.bits .u64))) ||| BitVec.ofInt (IntKind.bits .u64) (IntKind.wrap .u64 (↑(BitVec.toNat (BitVec.ofInt (IntKind.bits .u64) (Int.fdiv a0 (2 ^ min 32 (IntKind.bits .u64))) &&& BitVec.ofInt (IntKind.bits .u64) 4294967295)) : Int)))) : Int)) 10 * 2 ^ min 32 (IntKind.bits .u64))) ||| BitVec.ofInt (IntKind.bits .u64) (IntKind.wrap .u64 (↑(BitVec.toNat (BitVec.ofInt (IntKind.bits .u64) (Int.fdiv a0 (2 ^ min 0 (IntKind.bits .u64))) &&& BitVec.ofInt (IntKind.bits .u64) 4294967295)) : Int)))) : Int)) 10)))) : Int)), AV.int .u64 (IntKind.wrap .u64 (↑(BitVec.toNat (BitVec.ofInt (IntKind.bits .u64) (IntKind.wrap .u64 (IntKind.wrap .u64 (↑(BitVec.toNat (BitVec.ofInt (IntKind.bits .u64) 0 ||| BitVec.ofInt (IntKind.bits .u64) (IntKind.wrap .u64 (Int.tdiv (IntKind.wrap .u64 (↑(BitVec.toNat (BitVec.ofInt (IntKind.bits .u64) (IntKind.wrap .u64 (Int.tmod (IntKind.wrap .u64 (↑(BitVec.toNat (BitVec.ofInt (IntKind.bits .u64) (IntKind.wrap .u64 (Int.tmod (IntKind.wrap .u64 (↑(BitVec.toNat (BitVec.ofInt (IntKind.bits .u64) (IntKind.wrap .u64 (Int.tmod (IntKind.wrap .u64 (↑(BitVec.toNat (BitVec.ofInt (IntKind.bits .u64) (IntKind.wrap .u64 (Int.tmod (IntKind.wrap .u64 (↑(BitVec.toNat (BitVec.ofInt (IntKind.bits .u64) 0 ||| BitVec.ofInt (IntKind.bits .u64) (IntKind.wrap .u64 (↑(BitVec.toNat (BitVec.ofInt (IntKind.bits .u64) (Int.fdiv a3 (2 ^ min 32 (IntKind.bits .u64))) &&& BitVec.ofInt (IntKind.bits .u64) 4294967295)) : Int)))) : Int)) 10 * 2 ^ min 32 (IntKind.bits .u64))) ||| BitVec.ofInt (IntKind.bits .u64) (IntKind.wrap .u64 (↑(BitVec.toNat (BitVec.ofInt (IntKind.bits .u64) (Int.fdiv a3 (2 ^ min 0 (IntKind.bits .u64))) &&& BitVec.ofInt (IntKind.bits .u64) 4294967295)) : Int)))) : Int)) 10 * 2 ^ min 32 (IntKind.bits .u64))) ||| BitVec.ofInt (IntKind.bits .u64) (IntKind.wrap .u64 (↑(BitVec.toNat (BitVec.ofInt (IntKind.bits .u64) (Int.fdiv a2 (2 ^ min 32 (IntKind.bits .u64))) &&& BitVec.ofInt (IntKind.bits .u64) 4294967295)) : Int)))) : Int)) 10 * 2 ^ min 32 (IntKind.bits .u64))) ||| BitVec.ofInt (IntKind.bits .u64) (IntKind.wrap .u64 (↑(BitVec.toNat (BitVec.ofInt (IntKind.bits .u64) (Int.fdiv a2 (2 ^ min 0 (IntKind.bits .u64))) &&& BitVec.ofInt (IntKind.bits .u64) 4294967295)) : Int)))) : Int)) 10 * 2 ^ min 32 (IntKind.bits .u64))) ||| BitVec.ofInt (IntKind.bits .u64) (IntKind.wrap .u64 (↑(BitVec.toNat (BitVec.ofInt (IntKind.bits .u64) (Int.fdiv a1 (2 ^ min 32 (IntKind.bits .u64))) &&& BitVec.ofInt (IntKind.bits .u64) 4294967295)) : Int)))) : Int)) 10)))) : Int) * 2 ^ min 32 (IntKind.bits .u64))) ||| BitVec.ofInt (IntKind.bits .u64) (IntKind.wrap .u64 (Int.tdiv (IntKind.wrap .u64 (↑(BitVec.toNat (BitVec.ofInt (IntKind.bits .u64) (IntKind.wrap .u64 (Int.tmod (IntKind.wrap .u64 (↑(BitVec.toNat (BitVec.ofInt (IntKind.bits .u64) (IntKind.wrap .u64 (Int.tmod (IntKind.wrap .u64 (↑(BitVec.toNat (BitVec.ofInt (IntKind.bits .u64) (IntKind.wrap .u64 (Int.tmod (IntKind.wrap .u64 (↑(BitVec.toNat (BitVec.ofInt (IntKind.bits .u64) (IntKind.wrap .u64 (Int.tmod (IntKind.wrap .u64 (↑(BitVec.toNat (BitVec.ofInt (IntKind.bits .u64) (IntKind.wrap .u64 (Int.tmod (IntKind.wrap .u64 (↑(BitVec.toNat (BitVec.ofInt (IntKind.bits .u64) 0 ||| BitVec.ofInt (IntKind.bits .u64) (IntKind.wrap .u64 (↑(BitVec.toNat (BitVec.ofInt (IntKind.bits .u64) (Int.fdiv a3 (2 ^ min 32 (IntKind.bits .u64))) &&& BitVec.ofInt (IntKind.bits .u64) 4294967295)) : Int)))) : Int)) 10 * 2 ^ min 32 (IntKind.bits .u64))) ||| BitVec.ofInt (IntKind.bits .u64) (IntKind.wrap .u64 (↑(BitVec.toNat (BitVec.ofInt (IntKind.bits .u64) (Int.fdiv a3 (2 ^ min 0 (IntKind.bits .u64))) &&& BitVec.ofInt (IntKind.bits .u64) 4294967295)) : Int)))) : Int)) 10 * 2 ^ min 32 (IntKind.bits .u64))) ||| BitVec.ofInt (IntKind.bits .u64) (IntKind.wrap .u64 (↑(BitVec.toNat (BitVec.ofInt (IntKind.bits .u64) (Int.fdiv a2 (2 ^ min 32 (IntKind.bits .u64))) &&& BitVec.ofInt (IntKind.bits .u64) 4294967295)) : Int)))) : Int)) 10 * 2 ^ min 32 (IntKind.bits .u64))) ||| BitVec.ofInt (IntKind.bits .u64) (IntKind.wrap .u64 (↑(BitVec.toNat (BitVec.ofInt (IntKind.bits .u64) (Int.fdiv a2 (2 ^ min 0 (IntKind.bits .u64))) &&& BitVec.ofInt (IntKind.bits .u64) 4294967295)) : Int)))) : Int)) 10 * 2 ^ min 32 (IntKind.bits .u64))) ||| BitVec.ofInt (IntKind.bits .u64) (IntKind.wrap .u64 (↑(BitVec.toNat (BitVec.ofInt (IntKind.bits .u64) (Int.fdiv a1 (2 ^ min 32 (IntKind.bits .u64))) &&& BitVec.ofInt (IntKind.bits .u64) 4294967295)) : Int)))) : Int)) 10 * 2 ^ min 32 (IntKind.bits .u64))) ||| BitVec.ofInt (IntKind.bits .u64) (IntKind.wrap .u64 (↑(BitVec.toNat (BitVec.ofInt (IntKind.bits .u64) (Int.fdiv a1 (2 ^ min 0 (IntKind.bits .u64))) &&& BitVec.ofInt (IntKind.bits .u64) 4294967295)) : Int)))) : Int)) 10)))) : Int)), AV.int .u64 (IntKind.wrap .u64 (↑(BitVec.toNat (BitVec.ofInt (IntKind.bits .u64) (IntKind.wrap .u64 (IntKind.wrap .u64 (↑(BitVec.toNat (BitVec.ofInt (IntKind.bits .u64) 0 ||| BitVec.ofInt (IntKind.bits .u64) (IntKind.wrap .u64 (Int.tdiv (IntKind.wrap .u64 (↑(BitVec.toNat (BitVec.ofInt (IntKind.bits .u64) (IntKind.wrap .u64 (Int.tmod (IntKind.wrap .u64 (↑(BitVec.toNat (BitVec.ofInt (IntKind.bits .u64) (IntKind.wrap .u64 (Int.tmod (IntKind.wrap .u64 (↑(BitVec.toNat (BitVec.ofInt (IntKind.bits .u64) 0 ||| BitVec.ofInt (IntKind.bits .u64) (IntKind.wrap .u64 (↑(BitVec.toNat (BitVec.ofInt (IntKind.bits .u64) (Int.fdiv a3 (2 ^ min 32 (IntKind.bits .u64))) &&& BitVec.ofInt (IntKind.bits .u64) 4294967295)) : Int)))) : Int)) 10 * 2 ^ min 32 (IntKind.bits .u64))) ||| BitVec.ofInt (IntKind.bits .u64) (IntKind.wrap .u64 (↑(BitVec.toNat (BitVec.ofInt (IntKind.bits .u64) (Int.fdiv a3 (2 ^ min 0 (IntKind.bits .u64))) &&& BitVec.ofInt (IntKind.bits .u64) 4294967295)) : Int)))) : Int)) 10 * 2 ^ min 32 (IntKind.bits .u64))) ||| BitVec.ofInt (IntKind.bits .u64) (IntKind.wrap .u64 (↑(BitVec.toNat (BitVec.ofInt (IntKind.bits .u64) (Int.fdiv a2 (2 ^ min 32 (IntKind.bits .u64))) &&& BitVec.ofInt (IntKind.bits .u64) 4294967295)) : Int)))) : Int)) 10)))) : Int) * 2 ^ min 32 (IntKind.bits .u64))) ||| BitVec.ofInt (IntKind.bits .u64) (IntKind.wrap .u64 (Int.tdiv (IntKind.wrap .u64 (↑(BitVec.toNat (BitVec.ofInt (IntKind.bits .u64) (IntKind.wrap .u64 (Int.tmod (IntKind.wrap .u64 (↑(BitVec.toNat (BitVec.ofInt (IntKind.bits .u64) (IntKind.wrap .u64 (Int.tmod (IntKind.wrap .u64 (↑(BitVec.toNat (BitVec.ofInt (IntKind.bits .u64) (IntKind.wrap .u64 (Int.tmod (IntKind.wrap .u64 (↑(BitVec.toNat (BitVec.ofInt (IntKind.bits .u64) 0 ||| BitVec.ofInt (IntKind.bits .u64) (IntKind.wrap .u64 (↑(BitVec.toNat (BitVec.ofInt (IntKind.bits .u64) (Int.fdiv a3 (2 ^ min 32 (IntKind.bits .u64))) &&& BitVec.ofInt (IntKind.bits .u64) 4294967295)) : Int)))) : Int)) 10 * 2 ^ min 32 (IntKind.bits .u64))) ||| BitVec.ofInt (IntKind.bits .u64) (IntKind.wrap .u64 (↑(BitVec.toNat (BitVec.ofInt (IntKind.bits .u64) (Int.fdiv a3 (2 ^ min 0 (IntKind.bits .u64))) &&& BitVec.ofInt (IntKind.bits .u64) 4294967295)) : Int)))) : Int)) 10 * 2 ^ min 32 (IntKind.bits .u64))) ||| BitVec.ofInt (IntKind.bits .u64) (IntKind.wrap .u64 (↑(BitVec.toNat (BitVec.ofInt (IntKind.bits .u64) (Int.fdiv a2 (2 ^ min 32 (IntKind.bits .u64))) &&& BitVec.ofInt (IntKind.bits .u64) 4294967295)) : Int)))) : Int)) 10 * 2 ^ min 32 (IntKind.bits .u64))) ||| BitVec.ofInt (IntKind.bits .u64) (IntKind.wrap .u64 (↑(BitVec.toNat (BitVec.ofInt (IntKind.bits .u64) (Int.fdiv a2 (2 ^ min 0 (IntKind.bits .u64))) &&& BitVec.ofInt (IntKind.bits .u64) 4294967295)) : Int)))) : Int)) 10)))) : Int)), AV.int .u64 (IntKind.wrap .u64 (↑(BitVec.toNat (BitVec.ofInt (IntKind.bits .u64) (IntKind.wrap .u64 (IntKind.wrap .u64 (↑(BitVec.toNat (BitVec.ofInt (IntKind.bits .u64) 0 ||| BitVec.ofInt (IntKind.bits .u64) (IntKind.wrap .u64 (Int.tdiv (IntKind.wrap .u64 (↑(BitVec.toNat (BitVec.ofInt (IntKind.bits .u64) 0 ||| BitVec.ofInt (IntKind.bits .u64) (IntKind.wrap .u64 (↑(BitVec.toNat (BitVec.ofInt (IntKind.bits .u64) (Int.fdiv a3 (2 ^ min 32 (IntKind.bits .u64))) &&& BitVec.ofInt (IntKind.bits .u64) 4294967295)) : Int)))) : Int)) 10)))) : Int) * 2 ^ min 32 (IntKind.bits .u64))) ||| BitVec.ofInt (IntKind.bits .u64) (IntKind.wrap .u64 (Int.tdiv (IntKind.wrap .u64 (↑(BitVec.toNat (BitVec.ofInt (IntKind.bits .u64) (IntKind.wrap .u64 (Int.tmod (IntKind.wrap .u64 (↑(BitVec.toNat (BitVec.ofInt (IntKind.bits .u64) 0 ||| BitVec.ofInt (IntKind.bits .u64) (IntKind.wrap .u64 (↑(BitVec.toNat (BitVec.ofInt (IntKind.bits .u64) (Int.fdiv a3 (2 ^ min 32 (IntKind.bits .u64))) &&& BitVec.ofInt (IntKind.bits .u64) 4294967295)) : Int)))) : Int)) 10 * 2 ^ min 32 (IntKind.bits .u64))) ||| BitVec.ofInt (IntKind.bits .u64) (IntKind.wrap .u64 (↑(BitVec.toNat (BitVec.ofInt (IntKind.bits .u64) (Int.fdiv a3 (2 ^ min 0 (IntKind.bits .u64))) &&& BitVec.ofInt (IntKind.bits .u64) 4294967295)) : Int)))) : Int)) 10)))) : Int))], AObj.row 24 4 [AV.int .u64 (IntKind.wrap .u64 (↑(BitVec.toNat (BitVec.ofInt (IntKind.bits .u64) (IntKind.wrap .u64 (IntKind.wrap .u64 (↑(BitVec.toNat (BitVec.ofInt (IntKind.bits .u64) 0 ||| BitVec.ofInt (IntKind.bits .u64) (IntKind.wrap .u64 (Int.tdiv (IntKind.wrap .u64 (↑(BitVec.toNat (BitVec.ofInt (IntKind.bits .u64) (IntKind.wrap .u64 (Int.tmod (IntKind.wrap .u64 (↑(BitVec.toNat (BitVec.ofInt (IntKind.bits .u64) (IntKind.wrap .u64 (Int.tmod (IntKind.wrap .u64 (↑(BitVec.toNat (BitVec.ofInt (IntKind.bits .u64) (IntKind.wrap .u64 (Int.tmod (IntKind.wrap .u64 (↑(BitVec.toNat (BitVec.ofInt (IntKind.bits .u64) (IntKind.wrap .u64 (Int.tmod (IntKind.wrap .u64 (↑(BitVec.toNat (BitVec.ofInt (IntKind.bits .u64) (IntKind.wrap .u64 (Int.tmod (IntKind.wrap .u64 (↑(BitVec.toNat (BitVec.ofInt (IntKind.bits .u64) (IntKind.wrap .u64 (Int.tmod (IntKind.wrap .u64 (↑(BitVec.toNat (BitVec.ofInt (IntKind.bits .u64) 0 ||| BitVec.ofInt (IntKind.bits .u64) (IntKind.wrap .u64 (↑(BitVec.toNat (BitVec.ofInt (IntKind.bits .u64) (Int.fdiv a3 (2 ^ min 32 (IntKind.bits .u64))) &&& BitVec.ofInt (IntKind.bits .u64) 4294967295)) : Int)))) : Int)) 10 * 2 ^ min 32 (IntKind.bits .u64))) ||| BitVec.ofInt (IntKind.bits .u64) (IntKind.wrap .u64 (↑(BitVec.toNat (BitVec.ofInt (IntKind.bits .u64) (Int.fdiv a3 (2 ^ min 0 (IntKind.bits .u64))) &&& BitVec.ofInt (IntKind.bits .u64) 4294967295)) : Int)))) : Int)) 10 * 2 ^ min 32 (IntKind.bits .u64))) ||| BitVec.ofInt (IntKind.bits .u64) (IntKind.wrap .u64 (↑(BitVec.toNat (BitVec.ofInt (IntKind.bits .u64) (Int.fdiv a2 (2 ^ min 32 (IntKind.bits .u64))) &&& BitVec.ofInt (IntKind.bits .u64) 4294967295)) : Int)))) : Int)) 10 * 2 ^ min 32 (IntKind.bits .u64))) ||| BitVec.ofInt (IntKind.bits .u64) (IntKind.wrap .u64 (↑(BitVec.toNat (BitVec.ofInt (IntKind.bits .u64) (Int.fdiv a2 (2 ^ min 0 (IntKind.bits .u64))) &&& BitVec.ofInt (IntKind.bits .u64) 4294967295)) : Int)))) : Int)) 10 * 2 ^ min 32 (IntKind.bits .u64))) ||| BitVec.ofInt (IntKind.bits .u64) (IntKind.wrap .u64 (↑(BitVec.toNat (BitVec.ofInt (IntKind.bits .u64) (Int.fdiv a1 (2 ^ min 32 (IntKind.bits .u64))) &&& BitVec.ofInt (IntKind.bits .u64) 4294967295)) : Int)))) : Int)) 10 * 2 ^ min 32 (IntKind.bits .u64))) ||| BitVec.ofInt (IntKind.bits .u64) (IntKind.wrap .u64 (↑(BitVec.toNat (BitVec.ofInt (IntKind.bits .u64) (Int.fdiv a1 (2 ^ min 0 (IntKind.bits .u64))) &&& BitVec.ofInt (IntKind.bits .u64) 4294967295)) : Int)))) : Int)) 10 * 2 ^ min 32 (IntKind.bits .u64))) ||| BitVec.ofInt (IntKind.bits .u64) (IntKind.wrap .u64 (↑(BitVec.toNat (BitVec.ofInt (IntKind.bits .u64) (Int.fdiv a0 (2 ^ min 32 (IntKind.bits .u64))) &&& BitVec.ofInt (IntKind.bits .u64) 4294967295)) : Int)))) : Int)) 10)))) : Int) * 2 ^ min 32 (IntKind.bits .u64))) ||| BitVec.ofInt (IntKind.bits .u64) (IntKind.wrap .u64 (Int.tdiv (IntKind.wrap .u64 (↑(BitVec.toNat (BitVec.ofInt (IntKind.bits .u64) (IntKind.wrap .u64 (Int.tmod (IntKind.wrap .u64 (↑(BitVec.toNat (BitVec.ofInt (IntKind.bits .u64) (IntKind.wrap .u64 (Int.tmod (IntKind.wrap .u64 (↑(BitVec.toNat (BitVec.ofInt (IntKind.bits .u64) (IntKind.wrap .u64 (Int.tmod (IntKind.wrap .u64 (↑(BitVec.toNat (BitVec.ofInt (IntKind.bits .u64) (IntKind.wrap .u64 (Int.tmod (IntKind.wrap .u64 (↑(BitVec.toNat (BitVec.ofInt (IntKind.bits .u64) (IntKind.wrap .u64 (Int.tmod (IntKind.wrap .u64 (↑(BitVec.toNat (BitVec.ofInt (IntKind.bits .u64) (IntKind.wrap .u64 (Int.tmod (IntKind.wrap .u64 (↑(BitVec.toNat (BitVec.ofInt (IntKind.bits .u64) (IntKind.wrap .u64 (Int.tmod (IntKind.wrap .u64 (↑(BitVec.toNat (BitVec.ofInt (IntKind.bits .u64) 0 ||| BitVec.ofInt (IntKind.bits .u64) (IntKind.wrap .u64 (↑(BitVec.toNat (BitVec.ofInt (IntKind.bits .u64) (Int.fdiv a3 (2 ^ min 32 (IntKind.bits .u64))) &&& BitVec.ofInt (IntKind.bits .u64) 4294967295)) : Int)))) : Int)) 10 * 2 ^ min 32 (IntKind.bits .u64))) ||| BitVec.ofInt (IntKind.bits .u64) (IntKind.wrap .u64 (↑(BitVec.toNat (BitVec.ofInt (IntKind.bits .u64) (Int.fdiv a3 (2 ^ min 0 (IntKind.bits .u64))) &&& BitVec.ofInt (IntKind.bits .u64) 4294967295)) : Int)))) : Int)) 10 * 2 ^ min 32 (IntKind.bits .u64))) ||| BitVec.ofInt (IntKind.bits .u64) (IntKind.wrap .u64 (↑(BitVec.toNat (BitVec.ofInt (IntKind.bits .u64) (Int.fdiv a2 (2 ^ min 32 (IntKind.bits .u64))) &&& BitVec.ofInt (IntKind.bits .u64) 4294967295)) : Int)))) : Int)) 10 * 2 ^ min 32 (IntKind.bits .u64))) ||| BitVec.ofInt (IntKind.bits .u64) (IntKind.wrap .u64 (↑(BitVec.toNat (BitVec.ofInt (IntKind.bits .u64) (Int.fdiv a2 (2 ^ min 0 (IntKind.bits .u64))) &&& BitVec.ofInt (IntKind.bits .u64) 4294967295)) : Int)))) : Int)) 10 * 2 ^ min 32 (IntKind.bits .u64))) ||| BitVec.ofInt (IntKind.bits .u64) (IntKind.wrap .u64 (↑(BitVec.toNat (BitVec.ofInt (IntKind.bits .u64) (Int.fdiv a1 (2 ^ min 32 (IntKind.bits .u64))) &&& BitVec.ofInt (IntKind.bits .u64) 4294967295)) : Int)))) : Int)) 10 * 2 ^ min 32 (IntKind.bits .u64))) ||| BitVec.ofInt (IntKind.bits .u64) (IntKind.wrap .u64 (↑(BitVec.toNat (BitVec.ofInt (IntKind.bits .u64) (Int.fdiv a1 (2 ^ min 0 (IntKind.bits .u64))) &&& BitVec.ofInt (IntKind.bits .u64) 4294967295)) : Int)))) : Int)) 10 * 2 ^ min 32 (IntKind.bits .u64))) ||| BitVec.ofInt (IntKind.bits .u64) (IntKind.wrap .u64 (↑(BitVec.toNat (BitVec.ofInt (IntKind.bits .u64) (Int.fdiv a0 (2 ^ min 32 (IntKind.bits .u64))) &&& BitVec.ofInt (IntKind.bits .u64) 4294967295)) : Int)))) : Int)) 10 * 2 ^ min 32 (IntKind.bits .u64))) ||| BitVec.ofInt (IntKind.bits .u64) (IntKind.wrap .u64 (↑(BitVec.toNat (BitVec.ofInt (IntKind.bits .u64) (Int.fdiv a0 (2 ^ min 0 (IntKind.bits .u64))) &&& BitVec.ofInt (IntKind.bits .u64) 4294967295)) : Int)))) : Int)) 10)))) : Int)), AV.int .u64 (IntKind.wrap .u64 (↑(BitVec.toNat (BitVec.ofInt (IntKind.bits .u64) (IntKind.wrap .u64 (IntKind.wrap .u64 (↑(BitVec.toNat (BitVec.ofInt (IntKind.bits .u64) 0 ||| BitVec.ofInt (IntKind.bits .u64) (IntKind.wrap .u64 (Int.tdiv (IntKind.wrap .u64 (↑(BitVec.toNat (BitVec.ofInt (IntKind.bits .u64) (IntKind.wrap .u64 (Int.tmod (IntKind.wrap .u64 (↑(BitVec.toNat (BitVec.ofInt (IntKind.bits .u64) (IntKind.wrap .u64 (Int.tmod (IntKind.wrap .u64 (↑(BitVec.toNat (BitVec.ofInt (IntKind.bits .u64) (IntKind.wrap .u64 (Int.tmod (IntKind.wrap .u64 (↑(BitVec.toNat (BitVec.ofInt (IntKind.bits .u64) (IntKind.wrap .u64 (Int.tmod (IntKind.wrap .u64 (↑(BitVec.toNat (BitVec.ofInt (IntKind.bits .u64) 0 ||| BitVec.ofInt (IntKind.bits .u64) (IntKind.wrap .u64 (↑(BitVec.toNat (BitVec.ofInt (IntKind.bits .u64) (Int.fdiv a3 (2 ^ min 32 (IntKind.bits .u64))) &&& BitVec.ofInt (IntKind.bits .u64) 4294967295)) : Int)))) : Int)) 10 * 2 ^ min 32 (IntKind.bits .u64))) ||| BitVec.ofInt (IntKind.bits .u64) (IntKind.wrap .u64 (↑(BitVec.toNat (BitVec.ofInt (IntKind.bits .u64) (Int.fdiv a3 (2 ^ min 0 (IntKind.bits .u64))) &&& BitVec.ofInt (IntKind.bits .u64) 4294967295)) : Int)))) : Int)) 10 * 2 ^ min 32 (IntKind.bits .u64))) ||| BitVec.ofInt (IntKind.bits .u64) (IntKind.wrap .u64 (↑(BitVec.toNat (BitVec.ofInt (IntKind.bits .u64) (Int.fdiv a2 (2 ^ min 32 (IntKind.bits .u64))) &&& BitVec.ofInt (IntKind.bits .u64) 4294967295)) : Int)))) : Int)) 10 * 2 ^ min 32 (IntKind.bits .u64))) ||| BitVec.ofInt (IntKind.bits .u64) (IntKind.wrap .u64 (↑(BitVec.toNat (BitVec.ofInt (IntKind.bits .u64) (Int.fdiv a2 (2 ^ min 0 (IntKind.bits .u64))) &&& BitVec.ofInt (IntKind.bits .u64) 4294967295)) : Int)))) : Int)) 10 * 2 ^ min 32 (IntKind.bits .u64))) ||| BitVec.ofInt (IntKind.bits .u64) (IntKind.wrap .u64 (↑(BitVec.toNat (BitVec.ofInt (IntKind.bits .u64) (Int.fdiv a1 (2 ^ min 32 (IntKind.bits .u64))) &&& BitVec.ofInt (IntKind.bits .u64) 4294967295)) : Int)))) : Int)) 10)))) : Int) * 2 ^ min 32 (IntKind.bits .u64))) ||| BitVec.ofInt (IntKind.bits .u64) (IntKind.wrap .u64 (Int.tdiv (IntKind.wrap .u64 (↑(BitVec.toNat (BitVec.ofInt (IntKind.bits .u64) (IntKind.wrap .u64 (Int.tmod (IntKind.wrap .u64 (↑(BitVec.toNat (BitVec.ofInt (IntKind.bits .u64) (IntKind.wrap .u64 (Int.tmod (IntKind.wrap .u64 (↑(BitVec.toNat (BitVec.ofInt (IntKind.bits .u64) (IntKind.wrap .u64 (Int.tmod (IntKind.wrap .u64 (↑(BitVec.toNat (BitVec.ofInt (IntKind.bits .u64) (IntKind.wrap .u64 (Int.tmod (IntKind.wrap .u64 (↑(BitVec.toNat (BitVec.ofInt (IntKind.bits .u64) (IntKind.wrap .u64 (Int.tmod (IntKind.wrap .u64 (↑(BitVec.toNat (BitVec.ofInt (IntKind.bits .u64) 0 ||| BitVec.ofInt (IntKind.bits .u64) (IntKind.wrap .u64 (↑(BitVec.toNat (BitVec.ofInt (IntKind.bits .u64) (Int.fdiv a3 (2 ^ min 32 (IntKind.bits .u64))) &&& BitVec.ofInt (IntKind.bits .u64) 4294967295)) : Int)))) : Int)) 10 * 2 ^ min 32 (IntKind.bits .u64))) ||| BitVec.ofInt (IntKind.bits .u64) (IntKind.wrap .u64 (↑(BitVec.toNat (BitVec.ofInt (IntKind.bits .u64) (Int.fdiv a3 (2 ^ min 0 (IntKind.bits .u64))) &&& BitVec.ofInt (IntKind.bits .u64) 4294967295)) : Int)))) : Int)) 10 * 2 ^ min 32 (IntKind.bits .u64))) ||| BitVec.ofInt (IntKind.bits .u64) (IntKind.wrap .u64 (↑(BitVec.toNat (BitVec.ofInt (IntKind.bits .u64) (Int.fdiv a2 (2 ^ min 32 (IntKind.bits .u64))) &&& BitVec.ofInt (IntKind.bits .u64) 4294967295)) : Int)))) : Int)) 10 * 2 ^ min 32 (IntKind.bits .u64))) ||| BitVec.ofInt (IntKind.bits .u64) (IntKind.wrap .u64 (↑(BitVec.toNat (BitVec.ofInt (IntKind.bits .u64) (Int.fdiv a2 (2 ^ min 0 (IntKind.bits .u64))) &&& BitVec.ofInt (IntKind.bits .u64) 4294967295)) : Int)))) : Int)) 10 * 2 ^ min 32 (IntKind.bits .u64))) ||| BitVec.ofInt (IntKind.bits .u64) (IntKind.wrap .u64 (↑(BitVec.toNat (BitVec.ofInt (IntKind.bits .u64) (Int.fdiv a1 (2 ^ min 32 (IntKind.bits .u64))) &&& BitVec.ofInt (IntKind.bits .u64) 4294967295)) : Int)))) : Int)) 10 * 2 ^ min 32 (IntKind.bits .u64))) ||| BitVec.ofInt (IntKind.bits .u64) (IntKind.wrap .u64 (↑(BitVec.toNat (BitVec.ofInt (IntKind.bits .u64) (Int.fdiv a1 (2 ^ min 0 (IntKind.bits .u64))) &&& BitVec.ofInt (IntKind.bits .u64) 4294967295)) : Int)))) : Int)) 10)))) : Int)), AV.int .u64 (IntKind.wrap .u64 (↑(BitVec.toNat (BitVec.ofInt (IntKind.bits .u64) (IntKind.wrap .u64 (IntKind.wrap .u64 (↑(BitVec.toNat (BitVec.ofInt (IntKind.bits .u64) 0 ||| BitVec.ofInt (IntKind.bits .u64) (IntKind.wrap .u64 (Int.tdiv (IntKind.wrap .u64 (↑(BitVec.toNat (BitVec.ofInt (IntKind.bits .u64) (IntKind.wrap .u64 (Int.tmod (IntKind.wrap .u64 (↑(BitVec.toNat (BitVec.ofInt (IntKind.bits .u64) (IntKind.wrap .u64 (Int.tmod (IntKind.wrap .u64 (↑(BitVec.toNat (BitVec.ofInt (IntKind.bits .u64) 0 ||| BitVec.ofInt (IntKind.bits .u64) (IntKind.wrap .u64 (↑(BitVec.toNat (BitVec.ofInt (IntKind.bits .u64) (Int.fdiv a3 (2 ^ min 32 (IntKind.bits .u64))) &&& BitVec.ofInt (IntKind.bits .u64) 4294967295)) : Int)))) : Int)) 10 * 2 ^ min 32 (IntKind.bits .u64))) ||| BitVec.ofInt (IntKind.bits .u64) (IntKind.wrap .u64 (↑(BitVec.toNat (BitVec.ofInt (IntKind.bits .u64) (Int.fdiv a3 (2 ^ min 0 (IntKind.bits .u64))) &&& BitVec.ofInt (IntKind.bits .u64) 4294967295)) : Int)))) : Int)) 10 * 2 ^ min 32 (IntKind.bits .u64))) ||| BitVec.ofInt (IntKind.bits .u64) (IntKind.wrap .u64 (↑(BitVec.toNat (BitVec.ofInt (IntKind.bits .u64) (Int.fdiv a2 (2 ^ min 32 (IntKind.bits .u64))) &&& BitVec.ofInt (IntKind.bits .u64) 4294967295)) : Int)))) : Int)) 10)))) : Int) * 2 ^ min 32 (IntKind.bits .u64))) ||| BitVec.ofInt (IntKind.bits .u64) (IntKind.wrap .u64 (Int.tdiv (IntKind.wrap .u64 (↑(BitVec.toNat (BitVec.ofInt (IntKind.bits .u64) (IntKind.wrap .u64 (Int.tmod (IntKind.wrap .u64 (↑(BitVec.toNat (BitVec.ofInt (IntKind.bits .u64) (IntKind.wrap .u64 (Int.tmod (IntKind.wrap .u64 (↑(BitVec.toNat (BitVec.ofInt (IntKind.bits .u64) (IntKind.wrap .u64 (Int.tmod (IntKind.wrap .u64 (↑(BitVec.toNat (BitVec.ofInt (IntKind.bits .u64) 0 ||| BitVec.ofInt (IntKind.bits .u64) (IntKind.wrap .u64 (↑(BitVec.toNat (BitVec.ofInt (IntKind.bits .u64) (Int.fdiv a3 (2 ^ min 32 (IntKind.bits .u64))) &&& BitVec.ofInt (IntKind.bits .u64) 4294967295)) : Int)))) : Int)) 10 * 2 ^ min 32 (IntKind.bits .u64))) ||| BitVec.ofInt (IntKind.bits .u64) (IntKind.wrap .u64 (↑(BitVec.toNat (BitVec.ofInt (IntKind.bits .u64) (Int.fdiv a3 (2 ^ min 0 (IntKind.bits .u64))) &&& BitVec.ofInt (IntKind.bits .u64) 4294967295)) : Int)))) : Int)) 10 * 2 ^ min 32 (IntKind.bits .u64))) ||| BitVec.ofInt (IntKind.bits .u64) (IntKind.wrap .u64 (↑(BitVec.toNat (BitVec.ofInt (IntKind.bits .u64) (Int.fdiv a2 (2 ^ min 32 (IntKind.bits .u64))) &&& BitVec.ofInt (IntKind.bits .u64) 4294967295)) : Int)))) : Int)) 10 * 2 ^ min 32 (IntKind.bits .u64))) ||| BitVec.ofInt (IntKind.bits .u64) (IntKind.wrap .u64 (↑(BitVec.toNat (BitVec.ofInt (IntKind.bits .u64) (Int.fdiv a2 (2 ^ min 0 (IntKind.bits .u64))) &&& BitVec.ofInt (IntKind.bits .u64) 4294967295)) : Int)))) : Int)) 10)))) : Int)), AV.int .u64 (IntKind.wrap .u64 (↑(BitVec.toNat (BitVec.ofInt (IntKind.bits .u64) (IntKind.wrap .u64 (IntKind.wrap .u64 (↑(BitVec.toNat (BitVec.ofInt (IntKind.bits .u64) 0 ||| BitVec.ofInt (IntKind.bits .u64) (IntKind.wrap .u64 (Int.tdiv (IntKind.wrap .u64 (↑(BitVec.toNat (BitVec.ofInt (IntKind.bits .u64) 0 ||| BitVec.ofInt (IntKind.bits .u64) (IntKind.wrap .u64 (↑(BitVec.toNat (BitVec.ofInt (IntKind.bits .u64) (Int.fdiv a3 (2 ^ min 32 (IntKind.bits .u64))) &&& BitVec.ofInt (IntKind.bits .u64) 4294967295)) : Int)))) : Int)) 10)))) : Int) * 2 ^ min 32 (IntKind.bits .u64))) ||| BitVec.ofInt (IntKind.bits .u64) (IntKind.wrap .u64 (Int.tdiv (IntKind.wrap .u64 (↑(BitVec.toNat (BitVec.ofInt (IntKind.bits .u64) (IntKind.wrap .u64 (Int.tmod (IntKind.wrap .u64 (↑(BitVec.toNat (BitVec.ofInt (IntKind.bits .u64) 0 ||| BitVec.ofInt (IntKind.bits .u64) (IntKind.wrap .u64 (↑(BitVec.toNat (BitVec.ofInt (IntKind.bits .u64) (Int.fdiv a3 (2 ^ min 32 (IntKind.bits .u64))) &&& BitVec.ofInt (IntKind.bits .u64) 4294967295)) : Int)))) : Int)) 10 * 2 ^ min 32 (IntKind.bits .u64))) ||| BitVec.ofInt (IntKind.bits .u64) (IntKind.wrap .u64 (↑(BitVec.toNat (BitVec.ofInt (IntKind.bits .u64) (Int.fdiv a3 (2 ^ min 0 (IntKind.bits .u64))) &&& BitVec.ofInt (IntKind.bits .u64) 4294967295)) : Int)))) : Int)) 10)))) : Int))]]) = (wpF Tryd.prog C0t 400 pz43 [.agg [.int .u64 a0, .int .u64 a1, .int .u64 a2, .int .u64 a3], .int .u64 10] [] R) := by kernel_rfl
theorem v22t_0 (v m : Nat) (u at1 : Int) (cs : List AV) (K : AExit → St → Prop) : (∃ (n : Int), ∃ (n_1 : Int), ∃ (n_2 : Int), ∃ (n_3 : Int), ∃ (n_4 : Int), sSmall [AV.agg [AV.int .u64 (u % 18446744073709551616), AV.int .u64 (u / 18446744073709551616 % 18446744073709551616), AV.int .u64 (u / 18446744073709551616 / 18446744073709551616 % 18446744073709551616), AV.int .u64 (u / 18446744073709551616 / 18446744073709551616 / 18446744073709551616 % 18446744073709551616)], AV.int .u64 10] = some (AV.tup [AV.agg [AV.int .u64 n, AV.int .u64 n_1, AV.int .u64 n_2, AV.int .u64 n_3], AV.int .u64 n_4]) ∧ chkW (decide (0 ≤ IntKind.wrap .i64 (at1 - 1))) (chkW (decide (IntKind.wrap .i64 (at1 - 1) < 80)) (∃ (t : TypeId), ∃ (s : Nat), ∃ (cs_1 : List AV), some (AObj.row 64 80 cs) = some (AObj.row t s cs_1) ∧ chkW (decide (0 + Int.toNat (IntKind.wrap .i64 (at1 - 1)) * 1 + 1 ≤ List.length cs_1)) (askB (!(n == 0 && (n_1 == 0 && (n_2 == 0 && (n_3 == 0 && true))))) (chkW (objClosed (AObj.row t s (spliceA cs_1 (0 + Int.toNat (IntKind.wrap .i64 (at1 - 1)) * 1) (AV.cells (AV.int .u8 (IntKind.wrap .u8 (IntKind.wrap .u64 (48 + n_4)))))))) (∃ (u : Nat), ∃ (acc : List UInt8), (envOf 26 [(1, AV.ptr (some (0, 0))), (3, AV.ptr (some (1, 0))), (4, AV.int .i64 (IntKind.wrap .i64 (at1 - 1)))], [AObj.row 24 4 [AV.int .u64 n, AV.int .u64 n_1, AV.int .u64 n_2, AV.int .u64 n_3], AObj.row t s (spliceA cs_1 (0 + Int.toNat (IntKind.wrap .i64 (at1 - 1)) * 1) (AV.cells (AV.int .u8 (IntKind.wrap .u8 (IntKind.wrap .u64 (48 + n_4))))))]) = (envOf 26 [(1, AV.ptr (some (0, 0))), (3, AV.ptr (some (1, 0))), (4, AV.int .i64 (80 - (↑(List.length acc) : Int)))], [AObj.row 24 4 [AV.int .u64 ((↑u : Int) % 18446744073709551616), AV.int .u64 ((↑u : Int) / 18446744073709551616 % 18446744073709551616), AV.int .u64 ((↑u : Int) / 18446744073709551616 / 18446744073709551616 % 18446744073709551616), AV.int .u64 ((↑u : Int) / 18446744073709551616 / 18446744073709551616 / 18446744073709551616 % 18446744073709551616)], AObj.row 64 80 (c80 acc)]) ∧ (u ≠ 0 ∧ List.reverse (lsb u) ++ acc = textN v ∧ List.length acc + List.length (lsb u) ≤ 78 ∧ 0 < List.length acc ∧ u < 115792089237316195423570985008687907853269984665640564039457584007913129639936 ∧ u < m) ∧ K AExit.ret (envOf 26 [(2, AV.str (textN v)), (3, AV.ptr (some (0, 0))), (4, AV.int .i64 (80 - (↑(List.length (textN v)) : Int))), (23, AV.int .i64 (80 - (↑(List.length (textN v)) : Int))), (24, AV.sl (some (0, Int.toNat (80 - (↑(List.length (textN v)) : Int)))) (List.length (textN v)) (ACap.fix (List.length (textN v)))), (25, AV.str (textN v))], [AObj.row 64 80 (c80 (textN v))]))) (chkW (objClosed (AObj.row t s (spliceA cs_1 (0 + Int.toNat (IntKind.wrap .i64 (at1 - 1)) * 1) (AV.cells (AV.int .u8 (IntKind.wrap .u8 (IntKind.wrap .u64 (48 + n_4)))))))) (chkW (decide (0 ≤ IntKind.wrap .i64 (at1 - 1))) (chkW (decide (IntKind.wrap .i64 (at1 - 1) ≤ 80)) (chkW (decide ((if Int.toNat (IntKind.wrap .i64 (at1 - 1)) = 80 then 0 else 0 + Int.toNat (IntKind.wrap .i64 (at1 - 1)) * 1) + (80 - Int.toNat (IntKind.wrap .i64 (at1 - 1))) ≤ List.length (spliceA cs_1 (0 + Int.toNat (IntKind.wrap .i64 (at1 - 1)) * 1) (AV.cells (AV.int .u8 (IntKind.wrap .u8 (IntKind.wrap .u64 (48 + n_4)))))))) (chkW (List.all (List.take (80 - Int.toNat (IntKind.wrap .i64 (at1 - 1))) (List.drop (if Int.toNat (IntKind.wrap .i64 (at1 - 1)) = 80 then 0 else 0 + Int.toNat (IntKind.wrap .i64 (at1 - 1)) * 1) (spliceA cs_1 (0 + Int.toNat (IntKind.wrap .i64 (at1 - 1)) * 1) (AV.cells (AV.int .u8 (IntKind.wrap .u8 (IntKind.wrap .u64 (48 + n_4)))))))) (isInt .u8)) (K AExit.ret (envOf 26 [(2, AV.str (bytesOf (List.take (80 - Int.toNat (IntKind.wrap .i64 (at1 - 1))) (List.drop (if Int.toNat (IntKind.wrap .i64 (at1 - 1)) = 80 then 0 else 0 + Int.toNat (IntKind.wrap .i64 (at1 - 1)) * 1) (spliceA cs_1 (0 + Int.toNat (IntKind.wrap .i64 (at1 - 1)) * 1) (AV.cells (AV.int .u8 (IntKind.wrap .u8 (IntKind.wrap .u64 (48 + n_4)))))))))), (3, AV.ptr (some (0, 0))), (4, AV.int .i64 (IntKind.wrap .i64 (at1 - 1))), (23, AV.int .i64 (IntKind.wrap .i64 (at1 - 1))), (24, AV.sl (some (0, if Int.toNat (IntKind.wrap .i64 (at1 - 1)) = 80 then 0 else 0 + Int.toNat (IntKind.wrap .i64 (at1 - 1)) * 1)) (80 - Int.toNat (IntKind.wrap .i64 (at1 - 1))) (ACap.fix (80 - Int.toNat (IntKind.wrap .i64 (at1 - 1))))), (25, AV.str (bytesOf (List.take (80 - Int.toNat (IntKind.wrap .i64 (at1 - 1))) (List.drop (if Int.toNat (IntKind.wrap .i64 (at1 - 1)) = 80 then 0 else 0 + Int.toNat (IntKind.wrap .i64 (at1 - 1)) * 1) (spliceA cs_1 (0 + Int.toNat (IntKind.wrap .i64 (at1 - 1)) * 1) (AV.cells (AV.int .u8 (IntKind.wrap .u8 (IntKind.wrap .u64 (48 + n_4))))))))))], [AObj.row t s (spliceA cs_1 (0 + Int.toNat (IntKind.wrap .i64 (at1 - 1)) * 1) (AV.cells (AV.int .u8 (IntKind.wrap .u8 (IntKind.wrap .u64 (48 + n_4))))))]))))))))))) = (wpP Tryd.prog { C22 with gw := G22 v m } 80 (.inr (sc22, (findP sc22 0).getD .skip)) (q22 u at1 cs) K) := by kernel_rfl
theorem v22t (a0 a1 a2 a3 : Int) (v m : Nat) (R : AV → AHeap → Prop) : (∃ (n : Int), ∃ (n_1 : Int), ∃ (n_2 : Int), ∃ (n_3 : Int), ∃ (n_4 : Int), sSmall [AV.agg [AV.int .u64 a0, AV.int .u64 a1, AV.int .u64 a2, AV.int .u64 a3], AV.int .u64 10] = some (AV.tup [AV.agg [AV.int .u64 n, AV.int .u64 n_1, AV.int .u64 n_2, AV.int .u64 n_3], AV.int .u64 n_4]) ∧ ∃ (t : TypeId), ∃ (s : Nat), ∃ (cs : List AV), some (AObj.row 64 80 [AV.int .u8 0, AV.int .u8 0, AV.int .u8 0, AV.int .u8 0, AV.int .u8 0, AV.int .u8 0, AV.int .u8 0, AV.int .u8 0, AV.int .u8 0, AV.int .u8 0, AV.int .u8 0, AV.int .u8 0, AV.int .u8 0, AV.int .u8 0, AV.int .u8 0, AV.int .u8 0, AV.int .u8 0, AV.int .u8 0, AV.int .u8 0, AV.int .u8 0, AV.int .u8 0, AV.int .u8 0, AV.int .u8 0, AV.int .u8 0, AV.int .u8 0, AV.int .u8 0, AV.int .u8 0, AV.int .u8 0, AV.int .u8 0, AV.int .u8 0, AV.int .u8 0, AV.int .u8 0, AV.int .u8 0, AV.int .u8 0, AV.int .u8 0, AV.int .u8 0, AV.int .u8 0, AV.int .u8 0, AV.int .u8 0, AV.int .u8 0, AV.int .u8 0, AV.int .u8 0, AV.int .u8 0, AV.int .u8 0, AV.int .u8 0, AV.int .u8 0, AV.int .u8 0, AV.int .u8 0, AV.int .u8 0, AV.int .u8 0, AV.int .u8 0, AV.int .u8 0, AV.int .u8 0, AV.int .u8 0, AV.int .u8 0, AV.int .u8 0, AV.int .u8 0, AV.int .u8 0, AV.int .u8 0, AV.int .u8 0, AV.int .u8 0, AV.int .u8 0, AV.int .u8 0, AV.int .u8 0, AV.int .u8 0, AV.int .u8 0, AV.int .u8 0, AV.int .u8 0, AV.int .u8 0, AV.int .u8 0, AV.int .u8 0, AV.int .u8 0, AV.int .u8 0, AV.int .u8 0, AV.int .u8 0, AV.int .u8 0, AV.int .u8 0, AV.int .u8 0, AV.int .u8 0, AV.int .u8 0]) = some (AObj.row t s cs) ∧ chkW (decide (80 ≤ List.length cs)) (askB (!(n == 0 && (n_1 == 0 && (n_2 == 0 && (n_3 == 0 && true))))) (chkW (objClosed (AObj.row t s (spliceA cs 79 (AV.cells (AV.int .u8 (IntKind.wrap .u8 (IntKind.wrap .u64 (48 + n_4)))))))) (∃ (u : Nat), ∃ (acc : List UInt8), (envOf 26 [(1, AV.ptr (some (0, 0))), (3, AV.ptr (some (1, 0))), (4, AV.int .i64 79)], [AObj.row 24 4 [AV.int .u64 n, AV.int .u64 n_1, AV.int .u64 n_2, AV.int .u64 n_3], AObj.row t s (spliceA cs 79 (AV.cells (AV.int .u8 (IntKind.wrap .u8 (IntKind.wrap .u64 (48 + n_4))))))]) = (envOf 26 [(1, AV.ptr (some (0, 0))), (3, AV.ptr (some (1, 0))), (4, AV.int .i64 (80 - (↑(List.length acc) : Int)))], [AObj.row 24 4 [AV.int .u64 ((↑u : Int) % 18446744073709551616), AV.int .u64 ((↑u : Int) / 18446744073709551616 % 18446744073709551616), AV.int .u64 ((↑u : Int) / 18446744073709551616 / 18446744073709551616 % 18446744073709551616), AV.int .u64 ((↑u : Int) / 18446744073709551616 / 18446744073709551616 / 18446744073709551616 % 18446744073709551616)], AObj.row 64 80 (c80 acc)]) ∧ (u ≠ 0 ∧ List.reverse (lsb u) ++ acc = textN v ∧ List.length acc + List.length (lsb u) ≤ 78 ∧ 0 < List.length acc ∧ u < 115792089237316195423570985008687907853269984665640564039457584007913129639936 ∧ u < m) ∧ R (AV.str (textN v)) [AObj.row 64 80 (c80 (textN v))])) (chkW (objClosed (AObj.row t s (spliceA cs 79 (AV.cells (AV.int .u8 (IntKind.wrap .u8 (IntKind.wrap .u64 (48 + n_4)))))))) (chkW (decide (80 ≤ List.length (spliceA cs 79 (AV.cells (AV.int .u8 (IntKind.wrap .u8 (IntKind.wrap .u64 (48 + n_4)))))))) (chkW (List.all (List.take 1 (List.drop 79 (spliceA cs 79 (AV.cells (AV.int .u8 (IntKind.wrap .u8 (IntKind.wrap .u64 (48 + n_4)))))))) (isInt .u8)) (R (AV.str (bytesOf (List.take 1 (List.drop 79 (spliceA cs 79 (AV.cells (AV.int .u8 (IntKind.wrap .u8 (IntKind.wrap .u64 (48 + n_4)))))))))) [AObj.row t s (spliceA cs 79 (AV.cells (AV.int .u8 (IntKind.wrap .u8 (IntKind.wrap .u64 (48 + n_4))))))])))))) = (wpF Tryd.prog { C22 with gw := G22 v m } 80 pz22 [.agg [.int .u64 a0, .int .u64 a1, .int .u64 a2, .int .u64 a3]] [] R) := by kernel_rfl
theorem v9t (neg : Bool) (a0 a1 a2 a3 sc : Int) (R : AV → AHeap → Prop) : (∃ (n : Int), some (AV.int .i64 (if (decide (sc < 0) || decide (sc > 18) || neg && !nz4 a0 a1 a2 a3) = true then 20 else 0)) = some (AV.int .i64 n) ∧ askB (n != 0) (R (AV.str [63]) [AObj.row 26 6 [AV.bool neg, AV.int .u64 a0, AV.int .u64 a1, AV.int .u64 a2, AV.int .u64 a3, AV.int .i64 sc]]) (∃ (s : List UInt8), sText [AV.agg [AV.int .u64 a0, AV.int .u64 a1, AV.int .u64 a2, AV.int .u64 a3]] = some (AV.str s) ∧ askB (decide ((↑(List.length s) : Int) ≤ sc)) (∃ (s_1 : List UInt8), sRep [AV.str [48], AV.int .i64 (IntKind.wrap .i64 (IntKind.wrap .i64 (sc + 1) - (↑(List.length s) : Int)))] = some (AV.str s_1) ∧ chkW (decide (List.length s_1 + List.length s ≤ 9223372036854775807)) (askB (decide (sc > 0)) (chkW (decide (0 ≤ IntKind.wrap .i64 ((↑(List.length (s_1 ++ s)) : Int) - sc))) (chkW (decide (IntKind.wrap .i64 ((↑(List.length (s_1 ++ s)) : Int) - sc) ≤ (↑(List.length (s_1 ++ s)) : Int))) (chkW (decide (List.length (List.drop 0 (List.take (Int.toNat (IntKind.wrap .i64 ((↑(List.length (s_1 ++ s)) : Int) - sc))) (s_1 ++ s))) + List.length (Array.toList (ByteArray.data { data := #[46] })) ≤ 9223372036854775807)) (chkW (decide (0 ≤ IntKind.wrap .i64 ((↑(List.length (s_1 ++ s)) : Int) - sc))) (chkW (decide (IntKind.wrap .i64 ((↑(List.length (s_1 ++ s)) : Int) - sc) ≤ (↑(List.length (s_1 ++ s)) : Int))) (chkW (decide (List.length (List.drop 0 (List.take (Int.toNat (IntKind.wrap .i64 ((↑(List.length (s_1 ++ s)) : Int) - sc))) (s_1 ++ s)) ++ Array.toList (ByteArray.data { data := #[46] })) + List.length (List.drop (Int.toNat (IntKind.wrap .i64 ((↑(List.length (s_1 ++ s)) : Int) - sc))) (List.take (List.length (s_1 ++ s)) (s_1 ++ s))) ≤ 9223372036854775807)) (askB neg (chkW (decide (List.length (Array.toList (ByteArray.data { data := #[45] })) + List.length (List.drop 0 (List.take (Int.toNat (IntKind.wrap .i64 ((↑(List.length (s_1 ++ s)) : Int) - sc))) (s_1 ++ s)) ++ Array.toList (ByteArray.data { data := #[46] }) ++ List.drop (Int.toNat (IntKind.wrap .i64 ((↑(List.length (s_1 ++ s)) : Int) - sc))) (List.take (List.length (s_1 ++ s)) (s_1 ++ s))) ≤ 9223372036854775807)) (R (AV.str (Array.toList (ByteArray.data { data := #[45] }) ++ (List.drop 0 (List.take (Int.toNat (IntKind.wrap .i64 ((↑(List.length (s_1 ++ s)) : Int) - sc))) (s_1 ++ s)) ++ Array.toList (ByteArray.data { data := #[46] }) ++ List.drop (Int.toNat (IntKind.wrap .i64 ((↑(List.length (s_1 ++ s)) : Int) - sc))) (List.take (List.length (s_1 ++ s)) (s_1 ++ s))))) [AObj.row 26 6 [AV.bool neg, AV.int .u64 a0, AV.int .u64 a1, AV.int .u64 a2, AV.int .u64 a3, AV.int .i64 sc]])) (R (AV.str (List.drop 0 (List.take (Int.toNat (IntKind.wrap .i64 ((↑(List.length (s_1 ++ s)) : Int) - sc))) (s_1 ++ s)) ++ Array.toList (ByteArray.data { data := #[46] }) ++ List.drop (Int.toNat (IntKind.wrap .i64 ((↑(List.length (s_1 ++ s)) : Int) - sc))) (List.take (List.length (s_1 ++ s)) (s_1 ++ s)))) [AObj.row 26 6 [AV.bool neg, AV.int .u64 a0, AV.int .u64 a1, AV.int .u64 a2, AV.int .u64 a3, AV.int .i64 sc]])))))))) (askB neg (chkW (decide (List.length (Array.toList (ByteArray.data { data := #[45] })) + List.length (s_1 ++ s) ≤ 9223372036854775807)) (R (AV.str (Array.toList (ByteArray.data { data := #[45] }) ++ (s_1 ++ s))) [AObj.row 26 6 [AV.bool neg, AV.int .u64 a0, AV.int .u64 a1, AV.int .u64 a2, AV.int .u64 a3, AV.int .i64 sc]])) (R (AV.str (s_1 ++ s)) [AObj.row 26 6 [AV.bool neg, AV.int .u64 a0, AV.int .u64 a1, AV.int .u64 a2, AV.int .u64 a3, AV.int .i64 sc]])))) (askB (decide (sc > 0)) (chkW (decide (0 ≤ IntKind.wrap .i64 ((↑(List.length s) : Int) - sc))) (chkW (decide (IntKind.wrap .i64 ((↑(List.length s) : Int) - sc) ≤ (↑(List.length s) : Int))) (chkW (decide (List.length (List.drop 0 (List.take (Int.toNat (IntKind.wrap .i64 ((↑(List.length s) : Int) - sc))) s)) + List.length (Array.toList (ByteArray.data { data := #[46] })) ≤ 9223372036854775807)) (chkW (decide (0 ≤ IntKind.wrap .i64 ((↑(List.length s) : Int) - sc))) (chkW (decide (IntKind.wrap .i64 ((↑(List.length s) : Int) - sc) ≤ (↑(List.length s) : Int))) (chkW (decide (List.length (List.drop 0 (List.take (Int.toNat (IntKind.wrap .i64 ((↑(List.length s) : Int) - sc))) s) ++ Array.toList (ByteArray.data { data := #[46] })) + List.length (List.drop (Int.toNat (IntKind.wrap .i64 ((↑(List.length s) : Int) - sc))) (List.take (List.length s) s)) ≤ 9223372036854775807)) (askB neg (chkW (decide (List.length (Array.toList (ByteArray.data { data := #[45] })) + List.length (List.drop 0 (List.take (Int.toNat (IntKind.wrap .i64 ((↑(List.length s) : Int) - sc))) s) ++ Array.toList (ByteArray.data { data := #[46] }) ++ List.drop (Int.toNat (IntKind.wrap .i64 ((↑(List.length s) : Int) - sc))) (List.take (List.length s) s)) ≤ 9223372036854775807)) (R (AV.str (Array.toList (ByteArray.data { data := #[45] }) ++ (List.drop 0 (List.take (Int.toNat (IntKind.wrap .i64 ((↑(List.length s) : Int) - sc))) s) ++ Array.toList (ByteArray.data { data := #[46] }) ++ List.drop (Int.toNat (IntKind.wrap .i64 ((↑(List.length s) : Int) - sc))) (List.take (List.length s) s)))) [AObj.row 26 6 [AV.bool neg, AV.int .u64 a0, AV.int .u64 a1, AV.int .u64 a2, AV.int .u64 a3, AV.int .i64 sc]])) (R (AV.str (List.drop 0 (List.take (Int.toNat (IntKind.wrap .i64 ((↑(List.length s) : Int) - sc))) s) ++ Array.toList (ByteArray.data { data := #[46] }) ++ List.drop (Int.toNat (IntKind.wrap .i64 ((↑(List.length s) : Int) - sc))) (List.take (List.length s) s))) [AObj.row 26 6 [AV.bool neg, AV.int .u64 a0, AV.int .u64 a1, AV.int .u64 a2, AV.int .u64 a3, AV.int .i64 sc]])))))))) (askB neg (chkW (decide (List.length (Array.toList (ByteArray.data { data := #[45] })) + List.length s ≤ 9223372036854775807)) (R (AV.str (Array.toList (ByteArray.data { data := #[45] }) ++ s)) [AObj.row 26 6 [AV.bool neg, AV.int .u64 a0, AV.int .u64 a1, AV.int .u64 a2, AV.int .u64 a3, AV.int .i64 sc]])) (R (AV.str s) [AObj.row 26 6 [AV.bool neg, AV.int .u64 a0, AV.int .u64 a1, AV.int .u64 a2, AV.int .u64 a3, AV.int .i64 sc]]))))) = (wpF Tryd.prog (tbC Q tb9 (fun _ => false) kdU) 80 pz9 [.agg [.bool neg, .int .u64 a0, .int .u64 a1, .int .u64 a2, .int .u64 a3, .int .i64 sc]] [] R) := by kernel_rfl
theorem v11t (neg : Bool) (a0 a1 a2 a3 sc : Int) (R : AV → AHeap → Prop) : (∃ (s : List UInt8), sTextD [AV.agg [AV.bool neg, AV.int .u64 a0, AV.int .u64 a1, AV.int .u64 a2, AV.int .u64 a3, AV.int .i64 sc]] = some (AV.str s) ∧ ∃ (n : Int), some (AV.int .i64 (Lib.indexByte s (Nat.toUInt8 46))) = some (AV.int .i64 n) ∧ askB (decide (n < 0)) (R (AV.str s) [AObj.row 26 6 [AV.bool neg, AV.int .u64 a0, AV.int .u64 a1, AV.int .u64 a2, AV.int .u64 a3, AV.int .i64 sc]]) (∃ (s_1 : List UInt8), sTrimR [AV.str s, AV.str [48]] = some (AV.str s_1) ∧ ∃ (s : List UInt8), sTrimS [AV.str s_1, AV.str [46]] = some (AV.str s) ∧ R (AV.str s) [AObj.row 26 6 [AV.bool neg, AV.int .u64 a0, AV.int .u64 a1, AV.int .u64 a2, AV.int .u64 a3, AV.int .i64 sc]])) = (wpF Tryd.prog (tbC Q tb11 (fun _ => false) kdU) 80 pz11 [.agg [.bool neg, .int .u64 a0, .int .u64 a1, .int .u64 a2, .int .u64 a3, .int .i64 sc]] [] R) := by kernel_rfl
theorem v19t (neg : Bool) (a0 a1 a2 a3 sc : Int) (R : AV → AHeap → Prop) : (askB (decide (sc < 0)) (R (AV.int .i64 20) [AObj.row 26 6 [AV.bool neg, AV.int .u64 a0, AV.int .u64 a1, AV.int .u64 a2, AV.int .u64 a3, AV.int .i64 sc]]) (askB (decide (sc > 18)) (R (AV.int .i64 20) [AObj.row 26 6 [AV.bool neg, AV.int .u64 a0, AV.int .u64 a1, AV.int .u64 a2, AV.int .u64 a3, AV.int .i64 sc]]) (askB neg (askB (a0 == 0 && (a1 == 0 && (a2 == 0 && (a3 == 0 && true)))) (R (AV.int .i64 20) [AObj.row 26 6 [AV.bool neg, AV.int .u64 a0, AV.int .u64 a1, AV.int .u64 a2, AV.int .u64 a3, AV.int .i64 sc]]) (R (AV.int .i64 0) [AObj.row 26 6 [AV.bool neg, AV.int .u64 a0, AV.int .u64 a1, AV.int .u64 a2, AV.int .u64 a3, AV.int .i64 sc]])) (R (AV.int .i64 0) [AObj.row 26 6 [AV.bool neg, AV.int .u64 a0, AV.int .u64 a1, AV.int .u64 a2, AV.int .u64 a3, AV.int .i64 sc]])))) = (wpF Tryd.prog (tbC Q [] (fun _ => false) kdU) 80 pz19 [.agg [.bool neg, .int .u64 a0, .int .u64 a1, .int .u64 a2, .int .u64 a3, .int .i64 sc]] [] R) := by kernel_rfl
theorem s_or {x y : Int} (h0 : 0 ≤ x) (h1 : x < 4294967296) (h2 : 0 ≤ y) (h3 : y < 4294967296) : IntKind.wrap .u64 (↑(BitVec.toNat (BitVec.ofInt (IntKind.bits .u64) (IntKind.wrap .u64 (x * 2 ^ min 32 (IntKind.bits .u64))) ||| BitVec.ofInt (IntKind.bits .u64) y)) : Int) = x * 4294967296 + y := by
  have e : IntKind.wrap .u64 (x * 2 ^ min 32 (IntKind.bits .u64)) = x * 4294967296 := by
    show IntKind.wrap .u64 (x * 4294967296) = _
    rw [IntKind.wrap_u64]; omega
  rw [e, or32 h0 h1 h2 h3]
theorem s_or0 {y : Int} (h2 : 0 ≤ y) (h3 : y < 4294967296) : IntKind.wrap .u64 (↑(BitVec.toNat (BitVec.ofInt (IntKind.bits .u64) 0 ||| BitVec.ofInt (IntKind.bits .u64) y)) : Int) = y := by
  have := or32 (x := 0) (y := y) (by decide) (by decide) h2 h3
  rw [Int.zero_mul, Int.zero_add] at this
  exact this
theorem s_div {x : Int} (h0 : 0 ≤ x) (h1 : x < 18446744073709551616) : IntKind.wrap .u64 (Int.tdiv x 10) = x / 10 := by
  rw [Int.tdiv_eq_ediv_of_nonneg h0, IntKind.wrap_u64]; omega
theorem s_mod' {x : Int} (h0 : 0 ≤ x) : Int.tmod x 10 = x % 10 := Int.tmod_eq_emod_of_nonneg h0
theorem p0 : (2 : Int) ^ min 0 (IntKind.bits .u64) = 1 := rfl
/-- One limb. -/
theorem limb_div {r a : Int} (hr : 0 ≤ r) (hr2 : r < 10) (h0 : 0 ≤ a) (h1 : a < 18446744073709551616) : (r * 4294967296 + a / 4294967296 % 4294967296) / 10 * 4294967296 + ((r * 4294967296 + a / 4294967296 % 4294967296) % 10 * 4294967296 + a % 4294967296) / 10 = (r * 18446744073709551616 + a) / 10 ∧ ((r * 4294967296 + a / 4294967296 % 4294967296) % 10 * 4294967296 + a % 4294967296) % 10 = (r * 18446744073709551616 + a) % 10 := by
  have e : a / 4294967296 % 4294967296 = a / 4294967296 := by omega
  rw [e]
  obtain ⟨x, hx⟩ : ∃ x, x = a / 4294967296 := ⟨_, rfl⟩
  obtain ⟨y, hy⟩ : ∃ y, y = a % 4294967296 := ⟨_, rfl⟩
  rw [← hx, ← hy]
  have ha : a = x * 4294967296 + y := by omega
  have : 0 ≤ y ∧ y < 4294967296 ∧ 0 ≤ x ∧ x < 4294967296 := by omega
  clear hx hy
  subst ha
  omega
theorem num_div {a0 a1 a2 a3 : Int} (h0 : 0 ≤ a0) (g0 : a0 < 18446744073709551616) (h1 : 0 ≤ a1) (g1 : a1 < 18446744073709551616) (h2 : 0 ≤ a2) (g2 : a2 < 18446744073709551616) (h3 : 0 ≤ a3) (g3 : a3 < 18446744073709551616) :
    ∃ q3 q2 q1 q0 r3 r2 r1 r0 : Int, q3 = a3 / 10 ∧ r3 = a3 % 10 ∧ q2 = (r3 * 18446744073709551616 + a2) / 10 ∧ r2 = (r3 * 18446744073709551616 + a2) % 10 ∧ q1 = (r2 * 18446744073709551616 + a1) / 10 ∧ r1 = (r2 * 18446744073709551616 + a1) % 10 ∧ q0 = (r1 * 18446744073709551616 + a0) / 10 ∧ r0 = (r1 * 18446744073709551616 + a0) % 10 ∧
    limbs (num4 a0 a1 a2 a3 / 10) = [.int .u64 q0, .int .u64 q1, .int .u64 q2, .int .u64 q3] ∧ num4 a0 a1 a2 a3 % 10 = r0 := by
  refine ⟨_, _, _, _, _, _, _, _, rfl, rfl, rfl, rfl, rfl, rfl, rfl, rfl, ?_⟩
  obtain ⟨q3, e3⟩ : ∃ q, q = a3 / 10 := ⟨_, rfl⟩
  obtain ⟨r3, f3⟩ : ∃ q, q = a3 % 10 := ⟨_, rfl⟩
  rw [← e3, ← f3]
  obtain ⟨q2, e2⟩ : ∃ q, q = (r3 * 18446744073709551616 + a2) / 10 := ⟨_, rfl⟩
  obtain ⟨r2, f2⟩ : ∃ q, q = (r3 * 18446744073709551616 + a2) % 10 := ⟨_, rfl⟩
  rw [← e2, ← f2]
  obtain ⟨q1, e1⟩ : ∃ q, q = (r2 * 18446744073709551616 + a1) / 10 := ⟨_, rfl⟩
  obtain ⟨r1, f1⟩ : ∃ q, q = (r2 * 18446744073709551616 + a1) % 10 := ⟨_, rfl⟩
  rw [← e1, ← f1]
  obtain ⟨q0, e0⟩ : ∃ q, q = (r1 * 18446744073709551616 + a0) / 10 := ⟨_, rfl⟩
  obtain ⟨r0, f0⟩ : ∃ q, q = (r1 * 18446744073709551616 + a0) % 10 := ⟨_, rfl⟩
  rw [← e0, ← f0]
  have c3 : a3 = 10 * q3 + r3 := by omega
  have c2 : r3 * 18446744073709551616 + a2 = 10 * q2 + r2 := by omega
  have c1 : r2 * 18446744073709551616 + a1 = 10 * q1 + r1 := by omega
  have c0 : r1 * 18446744073709551616 + a0 = 10 * q0 + r0 := by omega
  have b3 : 0 ≤ r3 ∧ r3 < 10 := by omega
  have b2 : 0 ≤ r2 ∧ r2 < 10 := by omega
  have b1 : 0 ≤ r1 ∧ r1 < 10 := by omega
  have b0 : 0 ≤ r0 ∧ r0 < 10 := by omega
  have d3 : 0 ≤ q3 ∧ q3 < 18446744073709551616 := by omega
  have d2 : 0 ≤ q2 ∧ q2 < 18446744073709551616 := by omega
  have d1 : 0 ≤ q1 ∧ q1 < 18446744073709551616 := by omega
  have d0 : 0 ≤ q0 ∧ q0 < 18446744073709551616 := by omega
  clear e3 f3 e2 f2 e1 f1 e0 f0 h0 g0 h1 g1 h2 g2 h3 g3
  have hN : num4 a0 a1 a2 a3 = 10 * num4 q0 q1 q2 q3 + r0 := by unfold num4; omega
  have hq : num4 a0 a1 a2 a3 / 10 = num4 q0 q1 q2 q3 := by omega
  refine ⟨?_, by omega⟩
  rw [hq, ← (limbs_num (a0 := q0) (a1 := q1) (a2 := q2) (a3 := q3) (by simp only [u64s, u64B, Bool.and_eq_true, decide_eq_true_eq]; omega)).1]
theorem small43_ok : QuietOK Tryd.prog 43 fun vs _ => sSmall vs := quiet_plain htz43 fun args v h => by
  unfold sSmall at h
  split at h
  · rename_i a0 a1 a2 a3 b
    split at h
    · rename_i hs
      cases h
      refine ⟨rfl, rfl, ?_⟩
      obtain ⟨hs, rfl⟩ := hs
      have hS : (tbS Q []).OK Tryd.prog := tbS_ok quietText (by simp)
      obtain ⟨u, h', rfl, hsem⟩ := sem_vc mixed (C := C0t) hS (tbS_q _ _) (tbW_ok rfl) htz43 cz43 (fun x _ => part_none (fun _ => rfl) (fun _ => rfl) x) (v43t a0 a1 a2 a3 fun u _ => u = .tup [.agg (limbs (num4 a0 a1 a2 a3 / 10)), .int .u64 (num4 a0 a1 a2 a3 % 10)]) (by
        simp only [u64s, u64B, Bool.and_eq_true, decide_eq_true_eq] at hs
        obtain ⟨⟨⟨⟨h0, g0⟩, h1, g1⟩, h2, g2⟩, h3, g3⟩ := hs
        obtain ⟨q3, q2, q1, q0, r3, r2, r1, r0, e3, f3, e2, f2, e1, f1, e0, f0, hL, hM⟩ := num_div h0 g0 h1 g1 h2 g2 h3 g3
        rw [hL, hM]
        simp (disch := omega) only [fdiv32, fdiv0, and32, s_or0, s_div, s_mod', s_or, wrap64]
        have l3 := limb_div (r := 0) (a := a3) (by decide) (by decide) h3 g3
        simp only [Int.zero_mul, Int.zero_add] at l3
        rw [l3.1, l3.2, ← e3, ← f3]
        have l2 := limb_div (r := r3) (a := a2) (by omega) (by omega) h2 g2
        rw [l2.1, l2.2, ← e2, ← f2]
        have l1 := limb_div (r := r2) (a := a1) (by omega) (by omega) h1 g1
        rw [l1.1, l1.2, ← e1, ← f1]
        have l0 := limb_div (r := r1) (a := a0) (by omega) (by omega) h0 g0
        rw [l0.1, l0.2, ← e0, ← f0])
      exact ⟨h', hsem⟩
    · cases h
  · cases h
theorem small_at {u : Int} (h0 : 0 ≤ u) (h1 : u < 115792089237316195423570985008687907853269984665640564039457584007913129639936) : sSmall [.agg [.int .u64 (u % 18446744073709551616), .int .u64 (u / 18446744073709551616 % 18446744073709551616), .int .u64 (u / 18446744073709551616 / 18446744073709551616 % 18446744073709551616), .int .u64 (u / 18446744073709551616 / 18446744073709551616 / 18446744073709551616 % 18446744073709551616)], .int .u64 10] = some (.tup [.agg (limbs (u / 10)), .int .u64 (u % 10)]) := by
  unfold sSmall
  simp only [u64_limbs, num_limbs h0 h1]
  rfl
theorem c80_len {acc : List UInt8} (h : acc.length ≤ 80) : (c80 acc).length = 80 := by
  unfold c80
  rw [List.length_append, List.length_replicate, bv_len]; omega
theorem c80_closed (acc : List UInt8) : (c80 acc).all AV.closed = true := by
  rw [List.all_eq_true]
  intro x hx
  rcases List.mem_append.1 hx with hx | hx
  · rw [List.eq_of_mem_replicate hx]; rfl
  · obtain ⟨c, _, rfl⟩ := List.mem_map.1 hx
    rfl
theorem c80_put {acc : List UInt8} (h : acc.length < 80) (c : UInt8) : spliceA (c80 acc) (79 - acc.length) [.int .u8 c.toNat] = c80 (c :: acc) := by
  unfold spliceA c80
  have e1 : 80 - acc.length = (79 - acc.length) + 1 := by omega
  have e2 : 80 - (c :: acc).length = 79 - acc.length := by simp only [List.length_cons]; omega
  rw [e2, e1, List.take_append_of_le_length (by rw [List.length_replicate]; omega), List.take_replicate, Nat.min_eq_left (by omega)]
  have e3 : (List.replicate (79 - acc.length + 1) (AV.int .u8 0) ++ bv acc).drop (79 - acc.length + [AV.int .u8 (c.toNat : Int)].length) = bv acc := by
    rw [List.drop_append_of_le_length (by rw [List.length_replicate]; simp), List.drop_replicate]
    simp
  rw [e3, List.append_assoc]
  rfl
theorem c80_take {acc : List UInt8} (h : acc.length ≤ 80) : (c80 acc).drop (80 - acc.length) = bv acc := by
  unfold c80
  rw [List.drop_append_of_le_length (by rw [List.length_replicate]; omega), List.drop_replicate]
  simp
theorem bv_isInt (l : List UInt8) : List.all (bv l) (isInt .u8) = true := by
  rw [List.all_eq_true]
  intro x hx
  obtain ⟨c, _, rfl⟩ := List.mem_map.1 hx
  have := c.toNat_lt
  simp only [isInt, beq_self_eq_true, Bool.true_and, Bool.and_eq_true, decide_eq_true_eq]
theorem bytes_bv (l : List UInt8) : bytesOf (bv l) = l := by
  have h := bytesOf_ok _ (bv_isInt l)
  rw [bv_back] at h
  exact (Option.some.inj h).symm
theorem nz_nat {q : Nat} (h : q < 115792089237316195423570985008687907853269984665640564039457584007913129639936) : (!(((q : Int) % 18446744073709551616) == 0 && (((q : Int) / 18446744073709551616 % 18446744073709551616) == 0 && (((q : Int) / 18446744073709551616 / 18446744073709551616 % 18446744073709551616) == 0 && (((q : Int) / 18446744073709551616 / 18446744073709551616 / 18446744073709551616 % 18446744073709551616) == 0 && true))))) = decide (q ≠ 0) := by
  have := nz_limbs (x := (q : Int)) (by omega) (by omega)
  unfold nz4 at this
  rw [this]
  congr 1
  simp only [ne_eq, eq_iff_iff]
  omega
theorem chr10 (d : Nat) : IntKind.wrap .u8 (IntKind.wrap .u64 (48 + ((d : Int) % 10))) = (((48 + d % 10).toUInt8.toNat : Nat) : Int) := by
  have h := dig_u8 (d % 10) (by omega)
  rw [h, IntKind.wrap_u64, IntKind.wrap_u8]; omega
theorem small_nat {u : Nat} (h : u < 115792089237316195423570985008687907853269984665640564039457584007913129639936) : sSmall [.agg [.int .u64 ((u : Int) % 18446744073709551616), .int .u64 ((u : Int) / 18446744073709551616 % 18446744073709551616), .int .u64 ((u : Int) / 18446744073709551616 / 18446744073709551616 % 18446744073709551616), .int .u64 ((u : Int) / 18446744073709551616 / 18446744073709551616 / 18446744073709551616 % 18446744073709551616)], .int .u64 10] = some (.tup [.agg [.int .u64 (((u / 10 : Nat) : Int) % 18446744073709551616), .int .u64 (((u / 10 : Nat) : Int) / 18446744073709551616 % 18446744073709551616), .int .u64 (((u / 10 : Nat) : Int) / 18446744073709551616 / 18446744073709551616 % 18446744073709551616), .int .u64 (((u / 10 : Nat) : Int) / 18446744073709551616 / 18446744073709551616 / 18446744073709551616 % 18446744073709551616)], .int .u64 ((u : Int) % 10)]) := by
  have hS := small_at (u := (u : Int)) (by omega) (by omega)
  have hd : ((u : Int) / 10) = ((u / 10 : Nat) : Int) := by omega
  rw [hd] at hS
  exact hS
/-- One digit more. -/
theorem text_step {v u : Nat} {acc : List UInt8} (h1 : u ≠ 0) (h2 : (lsb u).reverse ++ acc = textN v) : (lsb (u / 10)).reverse ++ (48 + u % 10).toUInt8 :: acc = textN v := by
  rw [← h2, lsb_pos h1]; simp
theorem tb22_ok : (tbS Q tb22).OK Tryd.prog := tbS_ok quietText (by
  intro x hx
  simp only [tb22, List.mem_cons, List.not_mem_nil, or_false] at hx
  subst hx
  exact small43_ok)
theorem gotos22 (v : Nat) : ∀ m, PartOK Tryd.prog { C22 with gw := G22 v m } (.scope sc22) := by
  have hcw : CwOK C22.S C22.cw := tbW_ok (Q := Q) (l := tb22) rfl
  refine part_gotos (P := Tryd.prog) (C := C22) hcw (a := sc22) (by
    have e : partsIn sc22 = [] := rfl
    rw [e]; intro x hx; cases hx) (G22 v) ?_
  intro m l T r st K hT hf ht
  unfold G22 at hT
  split at hT
  · rename_i hl
    subst hl
    cases hT
    obtain ⟨u, acc, rfl, ⟨h1, h2, h3, h4, h5, h6⟩, hk⟩ := ht
    have hr : r = (findP sc22 0).getD .skip := by rw [hf]; rfl
    subst hr
    have hL := congrArg List.length (lsb_pos h1)
    rw [List.length_cons] at hL
    refine ⟨u, 80, h6, ?_⟩
    have hv := v22t_0 v u (u : Int) (80 - (acc.length : Int)) (c80 acc) K
    refine Eq.subst (motive := fun p => p) hv ?_
    clear hv
    have w1 : IntKind.wrap .i64 (80 - (acc.length : Int) - 1) = ((79 - acc.length : Nat) : Int) := by rw [IntKind.wrap_i64]; omega
    refine ⟨((u / 10 : Nat) : Int) % 18446744073709551616, ((u / 10 : Nat) : Int) / 18446744073709551616 % 18446744073709551616, ((u / 10 : Nat) : Int) / 18446744073709551616 / 18446744073709551616 % 18446744073709551616, ((u / 10 : Nat) : Int) / 18446744073709551616 / 18446744073709551616 / 18446744073709551616 % 18446744073709551616, (u : Int) % 10, by (try dsimp only); exact small_nat (by omega), ?_⟩
    rw [w1, nz_nat (by omega), chr10 u, Int.toNat_natCast, Nat.mul_one, Nat.zero_add]
    have hput := c80_put (acc := acc) (by omega) (48 + u % 10).toUInt8
    refine chkI (decide_eq_true (by omega)) (chkI (decide_eq_true (by omega)) ⟨64, 80, c80 acc, rfl, chkI (decide_eq_true (by rw [c80_len (by omega)]; omega)) ?_⟩)
    have hput' : spliceA (c80 acc) (79 - acc.length) (AV.cells (.int .u8 (((48 + u % 10).toUInt8.toNat : Nat) : Int))) = c80 ((48 + u % 10).toUInt8 :: acc) := hput
    rw [hput']
    have hcl : objClosed (.row 64 80 (c80 ((48 + u % 10).toUInt8 :: acc))) = true := closedL (c80_closed _)
    have hst := text_step (v := v) h1 h2
    refine askI (fun g => ?_) fun g => ?_
    · simp only [decide_eq_true_eq] at g
      refine chkI hcl ⟨u / 10, (48 + u % 10).toUInt8 :: acc, ?_, ⟨g, hst, by simp only [List.length_cons]; omega, by simp, by omega, by omega⟩, hk⟩
      have e : ((79 - acc.length : Nat) : Int) = 80 - (((48 + u % 10).toUInt8 :: acc).length : Int) := by simp only [List.length_cons]; omega
      rw [e]
    · simp only [decide_eq_false_iff_not, ne_eq, Decidable.not_not] at g
      rw [g, lsb_zero] at hst
      have hst' : (48 + u % 10).toUInt8 :: acc = textN v := hst
      rw [hst']
      have hlen : (textN v).length = acc.length + 1 := by rw [← hst']; rfl
      have e80 : 79 - acc.length = 80 - (textN v).length := by omega
      have e81 : 80 - (80 - (textN v).length) = (textN v).length := by omega
      have e82 : ¬ (80 - (textN v).length = 80) := by omega
      have e83 : ((80 - (textN v).length : Nat) : Int) = 80 - ((textN v).length : Int) := by omega
      have e84 : (80 - ((textN v).length : Int)).toNat = 80 - (textN v).length := by omega
      have htk : List.take (textN v).length (List.drop (80 - (textN v).length) (c80 (textN v))) = bv (textN v) := by
        rw [c80_take (by omega), List.take_of_length_le (by rw [bv_len]; exact Nat.le_refl _)]
      rw [e80, e81, if_neg e82, htk, bytes_bv, e83]
      refine chkI (by rw [← hst']; exact hcl) (chkI (decide_eq_true (by omega)) (chkI (decide_eq_true (by omega)) (chkI (decide_eq_true (by rw [c80_len (by omega)]; omega)) (chkI (bv_isInt _) ?_))))
      have hk2 : K .ret (e22 (80 - ((textN v).length : Int)) (textN v).length (textN v) (c80 (textN v))) := hk
      unfold e22 at hk2
      rw [e84] at hk2
      exact hk2
  · cases hT
theorem num_nat {a0 a1 a2 a3 : Int} (h : u64s a0 a1 a2 a3 = true) : ∃ v : Nat, v < 115792089237316195423570985008687907853269984665640564039457584007913129639936 ∧ (num4 a0 a1 a2 a3).toNat = v ∧ num4 a0 a1 a2 a3 = v ∧ ([.int .u64 a0, .int .u64 a1, .int .u64 a2, .int .u64 a3] : List AV) = limbs (v : Int) := by
  obtain ⟨e, h0, h1⟩ := limbs_num h
  refine ⟨(num4 a0 a1 a2 a3).toNat, by omega, rfl, by omega, ?_⟩
  rw [e, Int.toNat_of_nonneg h0]
theorem limbs_eq {a0 a1 a2 a3 : Int} {v : Nat} (h : ([.int .u64 a0, .int .u64 a1, .int .u64 a2, .int .u64 a3] : List AV) = limbs (v : Int)) : a0 = (v : Int) % 18446744073709551616 ∧ a1 = (v : Int) / 18446744073709551616 % 18446744073709551616 ∧ a2 = (v : Int) / 18446744073709551616 / 18446744073709551616 % 18446744073709551616 ∧ a3 = (v : Int) / 18446744073709551616 / 18446744073709551616 / 18446744073709551616 % 18446744073709551616 := by
  unfold limbs at h
  simpa using h
theorem text22_ok : QuietOK Tryd.prog 22 fun vs _ => sText vs := quiet_plain htz22 fun args v h => by
  unfold sText at h
  split at h
  · rename_i a0 a1 a2 a3
    split at h
    · rename_i hs
      cases h
      refine ⟨rfl, rfl, ?_⟩
      obtain ⟨v, hv, e1, e2, e3⟩ := num_nat hs
      rw [e1]
      obtain ⟨rfl, rfl, rfl, rfl⟩ := limbs_eq e3
      clear e1 e2 e3 hs
      obtain ⟨w, h', rfl, hsem⟩ := sem_vc mixed (C := { C22 with gw := G22 v (v + 1) }) tb22_ok (tbS_q _ _) (tbW_ok rfl) htz22 cz22 (fun x hx => by
        have e : partsIn pz22.body = [.scope sc22] := rfl
        rw [e, List.mem_singleton] at hx
        subst hx
        exact gotos22 v (v + 1)) (v22t _ _ _ _ v (v + 1) fun u _ => u = .str (textN v)) (by
        have hput := c80_put (acc := []) (by decide) (48 + v % 10).toUInt8
        have hput' : spliceA (c80 []) 79 (AV.cells (.int .u8 (((48 + v % 10).toUInt8.toNat : Nat) : Int))) = c80 [(48 + v % 10).toUInt8] := hput
        have hcl : objClosed (.row 64 80 (c80 [(48 + v % 10).toUInt8])) = true := closedL (c80_closed _)
        refine ⟨((v / 10 : Nat) : Int) % 18446744073709551616, ((v / 10 : Nat) : Int) / 18446744073709551616 % 18446744073709551616, ((v / 10 : Nat) : Int) / 18446744073709551616 / 18446744073709551616 % 18446744073709551616, ((v / 10 : Nat) : Int) / 18446744073709551616 / 18446744073709551616 / 18446744073709551616 % 18446744073709551616, (v : Int) % 10, by (try dsimp only); exact small_nat hv, 64, 80, c80 [], rfl, chkI (decide_eq_true (by rw [c80_len (by decide)]; decide)) ?_⟩
        rw [nz_nat (by omega), chr10 v, hput']
        refine askI (fun g => ?_) fun g => ?_
        · simp only [decide_eq_true_eq] at g
          have h0 : v ≠ 0 := by omega
          have hL := congrArg List.length (lsb_pos h0)
          rw [List.length_cons] at hL
          have h78 := lsb_78 hv
          have hst := text_step (v := v) (acc := []) h0 (by rw [List.append_nil]; exact (if_neg h0).symm)
          exact chkI hcl ⟨v / 10, [(48 + v % 10).toUInt8], rfl, ⟨g, hst, by simp only [List.length_cons, List.length_nil]; omega, by simp, by omega, by omega⟩, rfl⟩
        · simp only [decide_eq_false_iff_not, ne_eq, Decidable.not_not] at g
          have hT : textN v = [(48 + v % 10).toUInt8] := by
            by_cases h0 : v = 0
            · subst h0; rfl
            · have hst := text_step (v := v) (acc := []) h0 (by rw [List.append_nil]; exact (if_neg h0).symm)
              rw [g, lsb_zero] at hst
              exact hst.symm
          have htk : List.take 1 (List.drop 79 (c80 [(48 + v % 10).toUInt8])) = bv [(48 + v % 10).toUInt8] := by
            have := c80_take (acc := [(48 + v % 10).toUInt8]) (by simp)
            rw [show 79 = 80 - [(48 + v % 10).toUInt8].length from rfl, this]
            rfl
          rw [htk, bytes_bv, hT]
          exact chkI hcl (chkI (decide_eq_true (by rw [c80_len (by simp)]; decide)) (chkI (bv_isInt _) rfl)))
      exact ⟨h', hsem⟩
    · cases h
  · cases h
theorem refCheck_ok : QuietOK Tryd.prog 19 fun vs _ => sCheck vs := quiet_plain htz19 fun args v h => by
  unfold sCheck at h
  split at h
  · rename_i neg l0 l1 l2 l3 sc
    cases h
    refine ⟨rfl, rfl, ?_⟩
    have hS : (tbS Q []).OK Tryd.prog := tbS_ok quietText (by simp)
    obtain ⟨u, h', rfl, hsem⟩ := sem_vc mixed (C := tbC Q [] (fun _ => false) kdU) hS (tbS_q _ _) (tbW_ok rfl) htz19 cz19 (no_parts rfl) (v19t neg l0 l1 l2 l3 sc fun u _ => u = .int .i64 (if decide (sc < 0) || decide (sc > 18) || (neg && !(nz4 l0 l1 l2 l3)) then 20 else 0)) (by
      refine askI (fun g1 => ?_) fun g1 => askI (fun g2 => ?_) fun g2 => askI (fun g3 => askI (fun g4 => ?_) fun g4 => ?_) fun g3 => ?_
      · rw [g1]; rfl
      · rw [g1, g2]; rfl
      · have e : nz4 l0 l1 l2 l3 = false := by unfold nz4; rw [g4]; rfl
        rw [g1, g2, g3, e]; rfl
      · have e : nz4 l0 l1 l2 l3 = true := by unfold nz4; rw [g4]; rfl
        rw [g1, g2, g3, e]; rfl
      · rw [g1, g2, g3]; rfl)
    exact ⟨h', hsem⟩
  · cases h
theorem htR23 : HasText Tryd.prog 23 Tryd.f23 := ⟨Tryd.func23, rfl, by decide⟩
theorem rep_rep : ∀ n, Lib.repeatL [48] n = List.replicate n 48
  | 0 => rfl
  | n + 1 => by
    show [48] ++ Lib.repeatL [48] n = _
    rw [rep_rep n]; rfl
theorem rep_ok : QuietOK Tryd.prog 23 fun vs _ => sRep vs := quiet_plain htR23 fun args v h => by
  unfold sRep at h
  split at h
  · rename_i n
    split at h
    · rename_i hn
      cases h
      refine ⟨rfl, rfl, _, sem_below rfl fun ρ w => ?_⟩
      have := Tryd.strings_Repeat ⟨#[48]⟩ n.toNat w (by omega) (by show 1 * n.toNat ≤ _; omega)
      have e : ((n.toNat : Nat) : Int) = n := by omega
      rw [e] at this
      rw [show (⟨#[48]⟩ : ByteArray).data.toList = [48] from rfl, rep_rep] at this
      exact this
    · cases h
  · cases h
theorem trimR_ok : QuietOK Tryd.prog 27 fun vs _ => sTrimR vs := quiet_plain htz27 fun args v h => by
  unfold sTrimR at h
  split at h
  · rename_i s
    split at h
    · rename_i hn
      cases h
      exact ⟨rfl, rfl, _, sem_below rfl fun ρ w => (Tryd.strings_TrimRight_one ⟨s.toArray⟩ 48 (by decide) w (by show s.toArray.size ≤ _; simpa using hn)).mono fun e w' ⟨h1, h2⟩ => ⟨h1, h2 ▸ Below.refl _ _⟩⟩
    · cases h
  · cases h
theorem trimS_ok : QuietOK Tryd.prog 26 fun vs _ => sTrimS vs := quiet_plain htz26 fun args v h => by
  unfold sTrimS at h
  split at h
  · rename_i s
    split at h
    · rename_i hn
      cases h
      exact ⟨rfl, rfl, _, sem_below rfl fun ρ w => (Tryd.strings_TrimSuffix ⟨s.toArray⟩ ⟨#[46]⟩ w (by show s.toArray.size ≤ _; simpa using hn)).mono fun e w' ⟨h1, h2⟩ => ⟨h1, h2 ▸ Below.refl _ _⟩⟩
    · cases h
  · cases h
theorem text_at {a0 a1 a2 a3 : Int} (h : u64s a0 a1 a2 a3 = true) : sText [.agg [.int .u64 a0, .int .u64 a1, .int .u64 a2, .int .u64 a3]] = some (.str (textN (num4 a0 a1 a2 a3).toNat)) := if_pos h
theorem rep_at {n : Nat} (h : n ≤ 100) : sRep [.str [48], .int .i64 (n : Int)] = some (.str (List.replicate n 48)) := by
  show (if 0 ≤ (n : Int) ∧ (n : Int) ≤ 100 then some (AV.str (List.replicate (n : Int).toNat 48)) else none) = _
  rw [if_pos (by omega), Int.toNat_natCast]
theorem padD_len {t : List UInt8} {k : Nat} (h1 : 1 ≤ t.length) (h2 : t.length ≤ 78) (hk : k ≤ 18) : k + 1 ≤ (padD t k).length ∧ (padD t k).length ≤ 97 := by
  unfold padD
  rw [List.length_append, List.length_replicate]; omega
theorem bad_yes {neg : Bool} {a0 a1 a2 a3 sc : Int} (h : badD neg a0 a1 a2 a3 sc = true) : (if (decide (sc < 0) || decide (sc > 18) || neg && !nz4 a0 a1 a2 a3) = true then (20 : Int) else 0) = 20 := if_pos h
theorem bad_no {neg : Bool} {a0 a1 a2 a3 sc : Int} (h : badD neg a0 a1 a2 a3 sc = false) : (if (decide (sc < 0) || decide (sc > 18) || neg && !nz4 a0 a1 a2 a3) = true then (20 : Int) else 0) = 0 := if_neg (by unfold badD at h; rw [h]; decide)
theorem bad_sc {neg : Bool} {a0 a1 a2 a3 sc : Int} (h : badD neg a0 a1 a2 a3 sc = false) : 0 ≤ sc ∧ sc ≤ 18 := by
  unfold badD at h
  simp only [Bool.or_eq_false_iff, decide_eq_false_iff_not] at h
  omega
theorem textD9_ok : QuietOK Tryd.prog 9 fun vs _ => sTextD vs := quiet_plain htz9 fun args v h => by
  unfold sTextD at h
  split at h
  · rename_i neg a0 a1 a2 a3 sc
    split at h
    · rename_i hs
      cases h
      refine ⟨rfl, rfl, ?_⟩
      have hS : (tbS Q tb9).OK Tryd.prog := tbS_ok quietText (by
        intro x hx
        simp only [tb9, List.mem_cons, List.not_mem_nil, or_false] at hx
        rcases hx with rfl | rfl | rfl
        · exact check_ok
        · exact text22_ok
        · exact rep_ok)
      obtain ⟨v, hv, e1, e2, e3⟩ := num_nat hs
      obtain ⟨u, h', rfl, hsem⟩ := sem_vc mixed (C := tbC Q tb9 (fun _ => false) kdU) hS (tbS_q _ _) (tbW_ok rfl) htz9 cz9 (no_parts rfl) (v9t neg a0 a1 a2 a3 sc fun u _ => u = .str (if badD neg a0 a1 a2 a3 sc then [63] else textD neg (num4 a0 a1 a2 a3).toNat sc.toNat)) (by
        rw [e1]
        have htx := text_at hs
        rw [e1] at htx
        obtain ⟨t1, t2⟩ := textN_len hv
        cases hb : badD neg a0 a1 a2 a3 sc with
        | true =>
          rw [bad_yes hb]
          exact ⟨_, rfl, askT rfl rfl⟩
        | false =>
          rw [bad_no hb]
          obtain ⟨s0, s1⟩ := bad_sc hb
          obtain ⟨k, rfl⟩ : ∃ k : Nat, sc = k := ⟨sc.toNat, by omega⟩
          rw [Int.toNat_natCast]
          have hpd := padD_len t1 t2 (k := k) (by omega)
          refine ⟨_, rfl, askF rfl ⟨_, htx, askI (fun f => ?_) fun f => ?_⟩⟩
          · simp only [decide_eq_true_eq] at f
            have w0 : IntKind.wrap .i64 (IntKind.wrap .i64 ((k : Int) + 1) - ((textN v).length : Int)) = ((k + 1 - (textN v).length : Nat) : Int) := by rw [IntKind.wrap_i64, IntKind.wrap_i64]; omega
            rw [w0]
            refine ⟨_, rep_at (by omega), chkI (decide_eq_true (by rw [List.length_replicate]; omega)) ?_⟩
            obtain ⟨p, hp⟩ : ∃ p, p = List.replicate (k + 1 - (textN v).length) 48 ++ textN v := ⟨_, rfl⟩
            rw [← hp]
            have hp : p = padD (textN v) k := hp
            rw [← hp] at hpd
            refine askI (fun g => ?_) fun g => ?_
            · simp only [decide_eq_true_eq] at g
              have w : IntKind.wrap .i64 ((p.length : Int) - (k : Int)) = ((p.length - k : Nat) : Int) := by rw [IntKind.wrap_i64]; omega
              rw [w, Int.toNat_natCast, List.drop_zero, List.take_length]
              have hl1 : (p.take (p.length - k)).length = p.length - k := by rw [List.length_take]; omega
              have hl2 : (p.drop (p.length - k)).length = k := by rw [List.length_drop]; omega
              have hpt : pointD p k = p.take (p.length - k) ++ 46 :: p.drop (p.length - k) := if_neg (by omega)
              have hE : p.take (p.length - k) ++ Array.toList (ByteArray.data { data := #[46] }) ++ p.drop (p.length - k) = pointD p k := by rw [hpt]; simp
              have hEl : (pointD p k).length = p.length + 1 := by rw [hpt, List.length_append, List.length_cons, hl1, hl2]; omega
              have h1 : (Array.toList (ByteArray.data { data := #[46] })).length = 1 := rfl
              have h2 : (Array.toList (ByteArray.data { data := #[45] })).length = 1 := rfl
              rw [hE, List.length_append, hl1, hl2, h1, h2, hEl]
              refine chkI (decide_eq_true (by omega)) (chkI (decide_eq_true (by omega)) (chkI (decide_eq_true (by omega)) (chkI (decide_eq_true (by omega)) (chkI (decide_eq_true (by omega)) (chkI (decide_eq_true (by omega)) (askI (fun hn => chkI (decide_eq_true (by omega)) ?_) fun hn => ?_))))))
              · subst hn; subst hp; rfl
              · subst hn; subst hp; rfl
            · simp only [decide_eq_false_iff_not] at g
              have hk0 : k = 0 := by omega
              have h2 : (Array.toList (ByteArray.data { data := #[45] })).length = 1 := rfl
              rw [h2]
              subst hk0
              refine askI (fun hn => chkI (decide_eq_true (by omega)) ?_) fun hn => ?_
              · subst hn; subst hp; rfl
              · subst hn; subst hp; rfl
          · simp only [decide_eq_false_iff_not] at f
            obtain ⟨p, hp⟩ : ∃ p, p = textN v := ⟨_, rfl⟩
            rw [← hp]
            have hp : p = padD (textN v) k := by
              rw [hp]; unfold padD
              rw [show k + 1 - (textN v).length = 0 by omega]; rfl
            rw [← hp] at hpd
            refine askI (fun g => ?_) fun g => ?_
            · simp only [decide_eq_true_eq] at g
              have w : IntKind.wrap .i64 ((p.length : Int) - (k : Int)) = ((p.length - k : Nat) : Int) := by rw [IntKind.wrap_i64]; omega
              rw [w, Int.toNat_natCast, List.drop_zero, List.take_length]
              have hl1 : (p.take (p.length - k)).length = p.length - k := by rw [List.length_take]; omega
              have hl2 : (p.drop (p.length - k)).length = k := by rw [List.length_drop]; omega
              have hpt : pointD p k = p.take (p.length - k) ++ 46 :: p.drop (p.length - k) := if_neg (by omega)
              have hE : p.take (p.length - k) ++ Array.toList (ByteArray.data { data := #[46] }) ++ p.drop (p.length - k) = pointD p k := by rw [hpt]; simp
              have hEl : (pointD p k).length = p.length + 1 := by rw [hpt, List.length_append, List.length_cons, hl1, hl2]; omega
              have h1 : (Array.toList (ByteArray.data { data := #[46] })).length = 1 := rfl
              have h2 : (Array.toList (ByteArray.data { data := #[45] })).length = 1 := rfl
              rw [hE, List.length_append, hl1, hl2, h1, h2, hEl]
              refine chkI (decide_eq_true (by omega)) (chkI (decide_eq_true (by omega)) (chkI (decide_eq_true (by omega)) (chkI (decide_eq_true (by omega)) (chkI (decide_eq_true (by omega)) (chkI (decide_eq_true (by omega)) (askI (fun hn => chkI (decide_eq_true (by omega)) ?_) fun hn => ?_))))))
              · subst hn; subst hp; rfl
              · subst hn; subst hp; rfl
            · simp only [decide_eq_false_iff_not] at g
              have hk0 : k = 0 := by omega
              have h2 : (Array.toList (ByteArray.data { data := #[45] })).length = 1 := rfl
              rw [h2]
              subst hk0
              refine askI (fun hn => chkI (decide_eq_true (by omega)) ?_) fun hn => ?_
              · subst hn; subst hp; rfl
              · subst hn; subst hp; rfl)
      exact ⟨h', hsem⟩
    · cases h
  · cases h
theorem pad_done {s : List UInt8} {k : Nat} (h : k < s.length) : padD s k = s := by
  unfold padD
  rw [show k + 1 - s.length = 0 by omega]; rfl
theorem lsb_dig : ∀ (n v : Nat), v ≤ n → ∀ c ∈ lsb v, isD c = true
  | n, v, h, c, hc => by
    by_cases h0 : v = 0
    · rw [h0, lsb_zero] at hc; cases hc
    · rw [lsb_pos h0] at hc
      rcases List.mem_cons.1 hc with rfl | hc
      · have h := dig_u8 (v % 10) (by omega)
        have h' : (48 + v % 10).toUInt8.toNat = 48 + v % 10 := by omega
        unfold isD
        simp only [Bool.and_eq_true, decide_eq_true_eq]
        omega
      · match n, h with
        | n + 1, h => exact lsb_dig n (v / 10) (by omega) c hc
        | 0, h => exact absurd h (by omega)
theorem textN_dig (v : Nat) : ∀ c ∈ textN v, isD c = true := fun c hc => by
  unfold textN at hc
  split at hc
  · rw [List.mem_singleton] at hc; subst hc; rfl
  · exact lsb_dig v v (Nat.le_refl _) c (by simpa using hc)
theorem padD_dig (v k : Nat) : ∀ c ∈ padD (textN v) k, isD c = true := fun c hc => by
  rcases List.mem_append.1 hc with hc | hc
  · rw [List.eq_of_mem_replicate hc]; rfl
  · exact textN_dig v c hc
theorem textD_chr (neg : Bool) (v k : Nat) : ∀ c ∈ textD neg v k, c = 45 ∨ (c = 46 ∧ k ≠ 0) ∨ isD c = true := fun c hc => by
  unfold textD at hc
  rcases List.mem_append.1 hc with hc | hc
  · cases neg
    · cases hc
    · rw [if_pos rfl, List.mem_singleton] at hc; exact .inl hc
  · unfold pointD at hc
    split at hc
    · exact .inr (.inr (padD_dig v k c hc))
    · rename_i hk
      rcases List.mem_append.1 hc with hc | hc
      · exact .inr (.inr (padD_dig v k c (List.mem_of_mem_take hc)))
      · rcases List.mem_cons.1 hc with rfl | hc
        · exact .inr (.inl ⟨rfl, hk⟩)
        · exact .inr (.inr (padD_dig v k c (List.mem_of_mem_drop hc)))
theorem textD_no46 (neg : Bool) (v : Nat) : (46 : UInt8) ∉ textD neg v 0 := fun h => by
  rcases textD_chr neg v 0 46 h with h | ⟨_, h⟩ | h
  · cases h
  · exact h rfl
  · cases h
theorem textD_46 (neg : Bool) (v k : Nat) (hk : k ≠ 0) : (46 : UInt8) ∈ textD neg v k := by
  unfold textD pointD
  rw [if_neg hk]
  simp
theorem textD_len {neg : Bool} {v k : Nat} (hv : v < 115792089237316195423570985008687907853269984665640564039457584007913129639936) (hk : k ≤ 18) : (textD neg v k).length ≤ 99 := by
  obtain ⟨t1, t2⟩ := textN_len hv
  have hp := padD_len t1 t2 hk
  unfold textD
  rw [List.length_append]
  have h1 : (if neg = true then [45] else [] : List UInt8).length ≤ 1 := by cases neg <;> simp
  have h2 : (pointD (padD (textN v) k) k).length ≤ (padD (textN v) k).length + 1 := by
    unfold pointD
    split
    · omega
    · rw [List.length_append, List.length_cons, List.length_take, List.length_drop]; omega
  omega
theorem ib_neg : ∀ (l : List UInt8) (c : UInt8), c ∉ l → Lib.indexByte l c = -1
  | [], _, _ => rfl
  | b :: l, c, h => by
    have hb : (b == c) = false := by rw [beq_eq_false_iff_ne]; exact fun e => h (by simp [e])
    have := ib_neg l c fun h' => h (List.mem_cons_of_mem _ h')
    show (if (b == c) = true then (0 : Int) else if (Lib.indexByte l c == -1) = true then -1 else Lib.indexByte l c + 1) = -1
    rw [hb, this]; rfl
theorem ib_pos : ∀ (l : List UInt8) (c : UInt8), c ∈ l → 0 ≤ Lib.indexByte l c
  | b :: l, c, h => by
    show 0 ≤ (if (b == c) = true then (0 : Int) else if (Lib.indexByte l c == -1) = true then -1 else Lib.indexByte l c + 1)
    split
    · omega
    · rename_i hb
      have hm : c ∈ l := by
        rcases List.mem_cons.1 h with rfl | h
        · exact absurd (beq_self_eq_true _) hb
        · exact h
      have := ib_pos l c hm
      rw [if_neg (by rw [beq_iff_eq]; omega)]
      omega
theorem tr_snoc48 (l : List UInt8) : Lib.trimRightB (l ++ [48]) 48 = Lib.trimRightB l 48 := by
  unfold Lib.trimRightB
  simp [List.dropWhile_cons]
theorem tr_snoc {c : UInt8} (h : (c == 48) = false) (l : List UInt8) : Lib.trimRightB (l ++ [c]) 48 = l ++ [c] := by
  unfold Lib.trimRightB
  simp [List.dropWhile_cons, h]
theorem snoc_of {s : List UInt8} (h : 0 < s.length) : s = s.take (s.length - 1) ++ [s.getD (s.length - 1) 0] := by
  have e : s.getD (s.length - 1) 0 = s[s.length - 1] := by rw [List.getD_eq_getElem?_getD, List.getElem?_eq_getElem (by omega)]; rfl
  rw [e, ← List.take_succ_eq_append_getElem, show s.length - 1 + 1 = s.length by omega, List.take_length]
theorem ts_snoc (l : List UInt8) (c : UInt8) : Lib.trimSuffix (l ++ [c]) [46] = if (c == 46) = true then l else l ++ [c] := by
  have e : Lib.hasSuffix (l ++ [c]) [46] = (c == 46) := by
    unfold Lib.hasSuffix
    show List.isPrefixOf [46] (l ++ [c]).reverse = _
    rw [List.reverse_append]
    show ((46 : UInt8) == c && true) = (c == 46)
    rw [Bool.and_true, Bool.eq_iff_iff, beq_iff_eq, beq_iff_eq]
    exact eq_comm
  unfold Lib.trimSuffix
  rw [e]
  split
  · rw [List.length_append]; simp
  · rfl
theorem textD_at {neg : Bool} {a0 a1 a2 a3 sc : Int} (h : u64s a0 a1 a2 a3 = true) : sTextD [.agg [.bool neg, .int .u64 a0, .int .u64 a1, .int .u64 a2, .int .u64 a3, .int .i64 sc]] = some (.str (if badD neg a0 a1 a2 a3 sc then [63] else textD neg (num4 a0 a1 a2 a3).toNat sc.toNat)) := if_pos h
theorem shortD_at {neg : Bool} {a0 a1 a2 a3 sc : Int} (h : u64s a0 a1 a2 a3 = true) : sShortD [.agg [.bool neg, .int .u64 a0, .int .u64 a1, .int .u64 a2, .int .u64 a3, .int .i64 sc]] = some (.str (if badD neg a0 a1 a2 a3 sc then [63] else shortD neg (num4 a0 a1 a2 a3).toNat sc.toNat)) := if_pos h
theorem tr_len (l : List UInt8) : (Lib.trimRightB l 48).length ≤ l.length := by
  unfold Lib.trimRightB
  rw [List.length_reverse]
  have := (List.dropWhile_sublist (l := l.reverse) (· == (48 : UInt8))).length_le
  rw [List.length_reverse] at this
  exact this
theorem shortD11_ok : QuietOK Tryd.prog 11 fun vs _ => sShortD vs := quiet_plain htz11 fun args v h => by
  unfold sShortD at h
  split at h
  · rename_i neg a0 a1 a2 a3 sc
    split at h
    · rename_i hs
      cases h
      refine ⟨rfl, rfl, ?_⟩
      have hS : (tbS Q tb11).OK Tryd.prog := tbS_ok quietText (by
        intro x hx
        simp only [tb11, List.mem_cons, List.not_mem_nil, or_false] at hx
        rcases hx with rfl | rfl | rfl | rfl
        · exact textD9_ok
        · exact indexByte_ok
        · exact trimR_ok
        · exact trimS_ok)
      obtain ⟨v, hv, e1, e2, e3⟩ := num_nat hs
      obtain ⟨u, h', rfl, hsem⟩ := sem_vc mixed (C := tbC Q tb11 (fun _ => false) kdU) hS (tbS_q _ _) (tbW_ok rfl) htz11 cz11 (no_parts rfl) (v11t neg a0 a1 a2 a3 sc fun u _ => u = .str (if badD neg a0 a1 a2 a3 sc then [63] else shortD neg (num4 a0 a1 a2 a3).toNat sc.toNat)) (by
        have htx := textD_at (neg := neg) (sc := sc) hs
        rw [e1] at htx ⊢
        refine ⟨_, htx, _, rfl, ?_⟩
        cases hb : badD neg a0 a1 a2 a3 sc with
        | true => exact askT rfl rfl
        | false =>
          obtain ⟨s0, s1⟩ := bad_sc hb
          obtain ⟨k, rfl⟩ : ∃ k : Nat, sc = k := ⟨sc.toNat, by omega⟩
          rw [Int.toNat_natCast]
          have hl := textD_len (neg := neg) (v := v) (k := k) hv (by omega)
          by_cases hk : k = 0
          · subst hk
            have hi := ib_neg _ _ (textD_no46 neg v)
            refine askT ?_ rfl
            show decide (Lib.indexByte (textD neg v 0) 46 < 0) = true
            rw [hi]; rfl
          · have hi := ib_pos _ _ (textD_46 neg v k hk)
            refine askF ?_ ?_
            · show decide (Lib.indexByte (textD neg v k) 46 < 0) = false
              exact decide_eq_false (by omega)
            · have hl2 := tr_len (textD neg v k)
              have x1 : sTrimR [.str (textD neg v k), .str [48]] = some (.str (Lib.trimRightB (textD neg v k) 48)) := if_pos (by omega)
              have x2 : sTrimS [.str (Lib.trimRightB (textD neg v k) 48), .str [46]] = some (.str (Lib.trimSuffix (Lib.trimRightB (textD neg v k) 48) [46])) := if_pos (by omega)
              refine ⟨_, x1, _, x2, ?_⟩
              have : shortD neg v k = Lib.trimSuffix (Lib.trimRightB (textD neg v k) 48) [46] := if_neg hk
              rw [this]; rfl)
      exact ⟨h', hsem⟩
    · cases h
  · cases h

end Go.Proofs.YtddalcnajejibaaDoor
