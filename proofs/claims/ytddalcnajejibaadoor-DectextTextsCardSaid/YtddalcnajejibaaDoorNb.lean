/- Written by merging: Rt Rta Ru Rv Rw Rx Ry Rz Rza. -/
import Derived.Test.YtddalcnajejibaaDoorNa
import Derived.Lib.Repeat
import Derived.OpenShut
import Derived.WideShapes
import Derived.ChangeOld
namespace Go.Proofs.YtddalcnajejibaaDoor
open Go Go.Am Go.RowKit Go.WideShapes
set_option maxRecDepth 100000
set_option maxHeartbeats 4000000
set_option linter.unusedVariables false
set_option linter.unusedSimpArgs false

/-- A number's digits, the last one first. -/
def lsb (v : Nat) : List UInt8 := if h : v = 0 then [] else (48 + v % 10).toUInt8 :: lsb (v / 10)
termination_by v
decreasing_by omega
def textN (v : Nat) : List UInt8 := if v = 0 then [48] else (lsb v).reverse
def sSmall : List AV → Option AV
  | [.agg [.int .u64 a0, .int .u64 a1, .int .u64 a2, .int .u64 a3], .int .u64 b] => if u64s a0 a1 a2 a3 = true ∧ b = 10 then some (.tup [.agg (limbs (num4 a0 a1 a2 a3 / 10)), .int .u64 (num4 a0 a1 a2 a3 % 10)]) else none
  | _ => none
def sText : List AV → Option AV
  | [.agg [.int .u64 a0, .int .u64 a1, .int .u64 a2, .int .u64 a3]] => if u64s a0 a1 a2 a3 = true then some (.str (textN (num4 a0 a1 a2 a3).toNat)) else none
  | _ => none
def sRep : List AV → Option AV
  | [.str [48], .int .i64 n] => if 0 ≤ n ∧ n ≤ 100 then some (.str (List.replicate n.toNat 48)) else none
  | _ => none
def padD (t : List UInt8) (sc : Nat) : List UInt8 := List.replicate (sc + 1 - t.length) 48 ++ t
def pointD (p : List UInt8) (sc : Nat) : List UInt8 := if sc = 0 then p else p.take (p.length - sc) ++ 46 :: p.drop (p.length - sc)
def textD (neg : Bool) (v sc : Nat) : List UInt8 := (if neg then [45] else []) ++ pointD (padD (textN v) sc) sc
def shortD (neg : Bool) (v sc : Nat) : List UInt8 := if sc = 0 then textD neg v 0 else Lib.trimSuffix (Lib.trimRightB (textD neg v sc) 48) [46]
def badD (neg : Bool) (a0 a1 a2 a3 sc : Int) : Bool := decide (sc < 0) || decide (sc > 18) || (neg && !(nz4 a0 a1 a2 a3))
def sTextD : List AV → Option AV
  | [.agg [.bool neg, .int .u64 a0, .int .u64 a1, .int .u64 a2, .int .u64 a3, .int .i64 sc]] => if u64s a0 a1 a2 a3 = true then some (.str (if badD neg a0 a1 a2 a3 sc then [63] else textD neg (num4 a0 a1 a2 a3).toNat sc.toNat)) else none
  | _ => none
def sShortD : List AV → Option AV
  | [.agg [.bool neg, .int .u64 a0, .int .u64 a1, .int .u64 a2, .int .u64 a3, .int .i64 sc]] => if u64s a0 a1 a2 a3 = true then some (.str (if badD neg a0 a1 a2 a3 sc then [63] else shortD neg (num4 a0 a1 a2 a3).toNat sc.toNat)) else none
  | _ => none
def sTrimR : List AV → Option AV
  | [.str s, .str [48]] => if s.length ≤ 9223372036854775807 then some (.str (Lib.trimRightB s 48)) else none
  | _ => none
def sTrimS : List AV → Option AV
  | [.str s, .str [46]] => if s.length ≤ 9223372036854775807 then some (.str (Lib.trimSuffix s [46])) else none
  | _ => none
def C0t : Cfg := tbC Q [] (fun _ => false) kdU
-- ref small
def tb50 : List TbE := [⟨69, fun vs _ => sHalfR vs, .of i64⟩]
-- limb.Text
def tb22 : List TbE := [⟨43, fun vs _ => sSmall vs, .tup [ag4, i64]⟩]
def sc22 : PC := (match pz22.body with | .seq _ (.scope a) => a | _ => .skip)
def c80 (acc : List UInt8) : List AV := List.replicate (80 - acc.length) (.int .u8 0) ++ bv acc
def q22 (u at' : Int) (cs : List AV) : St := (envOf 26 [(1, .ptr (some (0, 0))), (3, .ptr (some (1, 0))), (4, .int .i64 at')], [tn4 u, .row 64 80 cs])
def e22 (at' : Int) (n : Nat) (t : List UInt8) (cs : List AV) : St := (envOf 26 [(2, .str t), (3, .ptr (some (0, 0))), (4, .int .i64 at'), (23, .int .i64 at'), (24, .sl (some (0, at'.toNat)) n (.fix n)), (25, .str t)], [.row 64 80 cs])
def C22 : Cfg := { tbC Q tb22 (fun k => k == 1) kdU with
  F := fun id => if id = 8 then ⟨dropT 26 [3, 4], .auto⟩ else if id = 1000000 then ⟨dropT 26 [1, 3, 4], .auto⟩ else ⟨[], .all⟩ }
def G22 (v m : Nat) (l : Nat) : Option (St → (AExit → St → Prop) → Prop) :=
  if l = 0 then some fun st K => ∃ (u : Nat) (acc : List UInt8), st = q22 u (80 - (acc.length : Int)) (c80 acc) ∧ (u ≠ 0 ∧ (lsb u).reverse ++ acc = textN v ∧ acc.length + (lsb u).length ≤ 78 ∧ 0 < acc.length ∧ u < 115792089237316195423570985008687907853269984665640564039457584007913129639936 ∧ u < m) ∧ K .ret (e22 (80 - ((textN v).length : Int)) (textN v).length (textN v) (c80 (textN v))) else none
-- ref Text
def tb24 : List TbE := [⟨50, fun vs _ => sSmall vs, .tup [ag4, i64]⟩]
def n24 (u : Int) : St := (envOf 52 [(1, .ptr (some (0, 0))), (3, .sl none 0 (.fix 0))], [tn4 u])
def h24 (u : Int) (ls : List UInt8) : St := (envOf 52 [(1, .ptr (some (0, 0))), (3, .sl (some (1, 0)) ls.length (.rel 0))], [tn4 u, .row 5 1 (bv ls)])
def t24 : Tidy := ⟨dropT 52 [1, 3], .auto⟩
def x24 : Tidy := ⟨dropT 52 [3], .rows [0, 1]⟩
def x24r : Tidy := ⟨dropT 52 [3], .all⟩
def C24n : Cfg := { tbC Q tb24 (fun _ => false) kdU with b0 := 0 }
def C24m : Cfg := { tbC Q tb24 (fun k => k == 1 || k == 4) kdU with b0 := 0 }
/-- A row whose first i cells from either end have been turned. -/
def swp (l : List UInt8) (i : Nat) : List UInt8 := (List.range l.length).map fun j => if j < i ∨ l.length - i ≤ j then l.getD (l.length - 1 - j) 0 else l.getD j 0
def q24 (n : Nat) (l : List UInt8) (i k : Int) : St := (envOf 52 [(3, .sl (some (1, 0)) n (.rel 0)), (6, .int .i64 i), (7, .int .i64 k)], [tn4 0, .row 5 1 (bv l)])
def t24r : Tidy := ⟨dropT 52 [3, 6, 7], .all⟩
def kd8 (_ : Nat) : Kd := .one (.int .u8)
def C24r : Cfg := { tbC Q tb24 (fun k => k == 1) kd8 with b0 := 0 }
def C24 (v : Nat) : Cfg := { tbC Q tb24 (fun k => k == 1) kdU with
  lw := fun id => if id = 4 then some fun st K => st = n24 v ∧ v ≠ 0 ∧ K (.exit 0) (envOf 52 [(3, .sl (some (1, 0)) (lsb v).length (.rel 0))], [tn4 0, .row 5 1 (bv (lsb v))])
    else if id = 9 then some fun st K => st = q24 (lsb v).length (lsb v) 0 (((lsb v).length : Int) - 1) ∧ 0 < (lsb v).length ∧ K (.exit 2) (envOf 52 [(3, .sl (some (1, 0)) (lsb v).length (.rel 0))], [tn4 0, .row 5 1 (bv (lsb v).reverse)]) else none
  F := fun id => if id = 4 then t24 else if id = 9 then t24r else ⟨[], .all⟩ }
-- dectext.Text
def tb9 : List TbE := [⟨21, fun vs _ => sCheck vs, .of (.one (.int .i64))⟩, ⟨22, fun vs _ => sText vs, .of (.one .str)⟩, ⟨23, fun vs _ => sRep vs, .of (.one .str)⟩]
-- ref Text of decimals
def tb10 : List TbE := [⟨19, fun vs _ => sCheck vs, .of (.one (.int .i64))⟩, ⟨24, fun vs _ => sText vs, .of (.one .str)⟩]
def rowD (neg : Bool) (a0 a1 a2 a3 sc : Int) : AObj := .row 26 6 [.bool neg, .int .u64 a0, .int .u64 a1, .int .u64 a2, .int .u64 a3, .int .i64 sc]
def q10 (neg : Bool) (a0 a1 a2 a3 sc : Int) (s : List UInt8) : St := (envOf 41 [(1, .ptr (some (0, 0))), (3, .str s)], [rowD neg a0 a1 a2 a3 sc])
def t10 : Tidy := ⟨dropT 41 [1, 3], .all⟩
def C10 (neg : Bool) (a0 a1 a2 a3 sc : Int) : Cfg := { tbC Q tb10 (fun _ => false) kdU with
  lw := fun id => if id = 4 then some fun st K => ∃ t, st = q10 neg a0 a1 a2 a3 sc t ∧ t.length ≤ 100 ∧ (0 ≤ sc ∧ sc ≤ 18) ∧ K (.exit 0) (q10 neg a0 a1 a2 a3 sc (padD t sc.toNat)) else none
  F := fun id => if id = 4 then t10 else ⟨[], .all⟩ }
-- Short
def tb11 : List TbE := [⟨9, fun vs _ => sTextD vs, .of (.one .str)⟩, ⟨25, fun vs _ => sIndexByte vs, .of (.one (.int .i64))⟩, ⟨27, fun vs _ => sTrimR vs, .of (.one .str)⟩, ⟨26, fun vs _ => sTrimS vs, .of (.one .str)⟩]
def tb12 : List TbE := [⟨10, fun vs _ => sTextD vs, .of (.one .str)⟩]
def q12 (s : List UInt8) : St := (envOf 37 [(3, .str s)], [])
def t12t : Tidy := ⟨dropT 37 [3], .rows []⟩
def C12 : Cfg := { tbC Q tb12 (fun _ => false) kdU with
  lw := fun id => if id = 4 then some fun st K => ∃ t, st = q12 t ∧ (0 < (Lib.trimRightB t 48).length ∧ t.length ≤ 1000) ∧ K (.exit 0) (q12 (Lib.trimRightB t 48)) else none
  F := fun id => if id = 4 then t12t else ⟨[], .all⟩ }
-- the law
noncomputable def tb3t : List TbE := [⟨8, sLive, .of (.one .bool)⟩, ⟨9, fun vs _ => sTextD vs, .of (.one .str)⟩, ⟨10, fun vs _ => sTextD vs, .of (.one .str)⟩, ⟨11, fun vs _ => sShortD vs, .of (.one .str)⟩, ⟨12, fun vs _ => sShortD vs, .of (.one .str)⟩]
theorem lsb_zero : lsb 0 = [] := by rw [lsb]; rfl
theorem lsb_pos {v : Nat} (h : v ≠ 0) : lsb v = (48 + v % 10).toUInt8 :: lsb (v / 10) := by rw [lsb, dif_neg h]
theorem lsb_len : ∀ (n v : Nat), v < 10 ^ n → (lsb v).length ≤ n
  | 0, v, h => by
    have : v = 0 := by simpa using h
    subst this; rw [lsb_zero]; simp
  | n + 1, v, h => by
    by_cases h0 : v = 0
    · subst h0; rw [lsb_zero]; simp
    · rw [lsb_pos h0, List.length_cons]
      have : v / 10 < 10 ^ n := by rw [Nat.pow_succ] at h; omega
      have := lsb_len n (v / 10) this
      omega
theorem lsb_78 {v : Nat} (h : v < 115792089237316195423570985008687907853269984665640564039457584007913129639936) : (lsb v).length ≤ 78 := lsb_len 78 v (Nat.lt_trans h (by decide))
theorem textN_len {v : Nat} (h : v < 115792089237316195423570985008687907853269984665640564039457584007913129639936) : 1 ≤ (textN v).length ∧ (textN v).length ≤ 78 := by
  unfold textN
  split
  · simp
  · rename_i h0
    have := lsb_78 h
    rw [List.length_reverse]
    rw [lsb_pos h0, List.length_cons] at this ⊢
    omega
theorem dig_u8 (d : Nat) (h : d < 10) : (((48 + d).toUInt8.toNat : Nat) : Int) = 48 + d := by
  have : (48 + d).toUInt8.toNat = 48 + d := by simp; omega
  rw [this]; omega
/-- A row, turned. -/
theorem swp_zero (l : List UInt8) : swp l 0 = l := by
  unfold swp
  apply List.ext_getElem
  · simp
  · intro j h1 h2
    simp only [List.length_map, List.length_range] at h1
    simp only [List.getElem_map, List.getElem_range]
    rw [if_neg (by omega), List.getD_eq_getElem?_getD, List.getElem?_eq_getElem h2]; rfl
theorem swp_len (l : List UInt8) (i : Nat) : (swp l i).length = l.length := by unfold swp; simp
theorem swp_get {l : List UInt8} {i j : Nat} (hj : j < l.length) : (swp l i)[j]? = some (if j < i ∨ l.length - i ≤ j then l.getD (l.length - 1 - j) 0 else l.getD j 0) := by
  unfold swp
  rw [List.getElem?_map, List.getElem?_range hj]; rfl
theorem swp_all {l : List UInt8} {i : Nat} (h : l.length ≤ 2 * i + 1) : swp l i = l.reverse := by
  apply List.ext_getElem?
  intro j
  rcases Nat.lt_or_ge j l.length with hj | hj
  · rw [swp_get hj, List.getElem?_reverse hj]
    have h1 : l.length - 1 - j < l.length := by omega
    rw [List.getElem?_eq_getElem h1]
    split
    · rw [List.getD_eq_getElem?_getD, List.getElem?_eq_getElem h1]; rfl
    · rename_i h2
      have : j = l.length - 1 - j := by omega
      rw [List.getD_eq_getElem?_getD, List.getElem?_eq_getElem hj]
      simp only [Option.getD_some]
      congr 2
  · rw [List.getElem?_eq_none (by rw [swp_len]; exact hj), List.getElem?_eq_none (by rw [List.length_reverse]; exact hj)]
theorem swp_step {l : List UInt8} {i : Nat} (h : 2 * i + 1 < l.length) : ((swp l i).set i (l.getD (l.length - 1 - i) 0)).set (l.length - 1 - i) (l.getD i 0) = swp l (i + 1) := by
  apply List.ext_getElem?
  intro j
  rcases Nat.lt_or_ge j l.length with hj | hj
  · rw [swp_get hj, List.getElem?_set, List.getElem?_set, List.length_set, swp_len]
    by_cases e1 : l.length - 1 - i = j
    · rw [if_pos e1, if_pos (by omega), if_pos (by omega)]
      congr 2; omega
    · rw [if_neg e1]
      by_cases e2 : i = j
      · rw [if_pos e2, if_pos (by omega), if_pos (by omega), e2]
      · rw [if_neg e2, swp_get hj]
        by_cases e3 : j < i ∨ l.length - i ≤ j
        · rw [if_pos e3, if_pos (by omega)]
        · rw [if_neg e3, if_neg (by omega)]
  · rw [List.getElem?_eq_none (by rw [List.length_set, List.length_set, swp_len]; exact hj), List.getElem?_eq_none (by rw [swp_len]; exact hj)]
theorem v43t (a0 a1 a2 a3 : Int) (R : AV → AHeap → Prop) : (R (AV.tup [AV.agg [AV.int .u64 (IntKind.wrap .u64 (↑(BitVec.toNat (BitVec.ofInt (IntKind.bits .u64) (IntKind.wrap .u64 (IntKind.wrap .u64 (↑(BitVec.toNat (BitVec.ofInt (IntKind.bits .u64) 0 ||| BitVec.ofInt (IntKind.bits .u64) (IntKind.wrap .u64 (Int.tdiv (IntKind.wrap .u64 (↑(BitVec.toNat (BitVec.ofInt (IntKind.bits .u64) (IntKind.wrap .u64 (Int.tmod (IntKind.wrap .u64 (↑(BitVec.toNat (BitVec.ofInt (IntKind.bits .u64) (IntKind.wrap .u64 (Int.tmod (IntKind.wrap .u64 (↑(BitVec.toNat (BitVec.ofInt (IntKind.bits .u64) (IntKind.wrap .u64 (Int.tmod (IntKind.wrap .u64 (↑(BitVec.toNat (BitVec.ofInt (IntKind.bits .u64) (IntKind.wrap .u64 (Int.tmod (IntKind.wrap .u64 (↑(BitVec.toNat (BitVec.ofInt (IntKind.bits .u64) (IntKind.wrap .u64 (Int.tmod (IntKind.wrap .u64 (↑(BitVec.toNat (BitVec.ofInt (IntKind.bits .u64) (IntKind.wrap .u64 (Int.tmod (IntKind.wrap .u64 (↑(BitVec.toNat (BitVec.ofInt (IntKind.bits .u64) 0 ||| BitVec.ofInt (IntKind.bits .u64) (IntKind.wrap .u64 (↑(BitVec.toNat (BitVec.ofInt (IntKind.bits .u64) (Int.fdiv a3 (2 ^ min 32 (IntKind.bits .u64))) &&& BitVec.ofInt (IntKind.bits .u64) 4294967295)) : Int)))) : Int)) 10 * 2 ^ min 32 (IntKind.bits .u64))) ||| BitVec.ofInt (IntKind.bits .u64) (IntKind.wrap .u64 (↑(BitVec.toNat (BitVec.ofInt (IntKind.bits .u64) (Int.fdiv a3 (2 ^ min 0 (IntKind.bits .u64))) &&& BitVec.ofInt (IntKind.bits .u64) 4294967295)) : Int)))) : Int)) 10 * 2 ^ min 32 (IntKind.bits .u64))) ||| BitVec.ofInt (IntKind.bits .u64) (IntKind.wrap .u64 (↑(BitVec.toNat (BitVec.ofInt (IntKind.bits .u64) (Int.fdiv a2 (2 ^ min 32 (IntKind.bits .u64))) &&& BitVec.ofInt (IntKind.bits .u64) 4294967295)) : Int)))) : Int)) 10 * 2 ^ min 32 (IntKind.bits .u64))) ||| BitVec.ofInt (IntKind.bits .u64) (IntKind.wrap .u64 (↑(BitVec.toNat (BitVec.ofInt (IntKind.bits .u64) (Int.fdiv a2 (2 ^ min 0 (IntKind.bits .u64))) &&& BitVec.ofInt (IntKind.bits .u64) 4294967295)) : Int)))) : Int)) 10 * 2 ^ min 32 (IntKind.bits .u64))) ||| BitVec.ofInt (IntKind.bits .u64) (IntKind.wrap .u64 (↑(BitVec.toNat (BitVec.ofInt (IntKind.bits .u64) (Int.fdiv a1 (2 ^ min 32 (IntKind.bits .u64))) &&& BitVec.ofInt (IntKind.bits .u64) 4294967295)) : Int)))) : Int)) 10 * 2 ^ min 32 (IntKind.bits .u64))) ||| BitVec.ofInt (IntKind.bits .u64) (IntKind.wrap .u64 (↑(BitVec.toNat (BitVec.ofInt (IntKind.bits .u64) (Int.fdiv a1 (2 ^ min 0 (IntKind.bits .u64))) &&& BitVec.ofInt (IntKind.bits .u64) 4294967295)) : Int)))) : Int)) 10 * 2 ^ min 32 (IntKind.bits .u64))) ||| BitVec.ofInt (IntKind.bits .u64) (IntKind.wrap .u64 (↑(BitVec.toNat (BitVec.ofInt (IntKind.bits .u64) (Int.fdiv a0 (2 ^ min 32 (IntKind.bits .u64))) &&& BitVec.ofInt (IntKind.bits .u64) 4294967295)) : Int)))) : Int)) 10)))) : Int) * 2 ^ min 32 (IntKind.bits .u64))) ||| BitVec.ofInt (IntKind.bits .u64) (IntKind.wrap .u64 (Int.tdiv (IntKind.wrap .u64 (↑(BitVec.toNat (BitVec.ofInt (IntKind.bits .u64) (IntKind.wrap .u64 (Int.tmod (IntKind.wrap .u64 (↑(BitVec.toNat (BitVec.ofInt (IntKind.bits .u64) (IntKind.wrap .u64 (Int.tmod (IntKind.wrap .u64 (↑(BitVec.toNat (BitVec.ofInt (IntKind.bits .u64) (IntKind.wrap .u64 (Int.tmod (IntKind.wrap .u64 (↑(BitVec.toNat (BitVec.ofInt (IntKind.bits .u64) (IntKind.wrap .u64 (Int.tmod (IntKind.wrap .u64 (↑(BitVec.toNat (BitVec.ofInt (IntKind.bits .u64) (IntKind.wrap .u64 (Int.tmod (IntKind.wrap .u64 (↑(BitVec.toNat (BitVec.ofInt (IntKind.bits .u64) (IntKind.wrap .u64 (Int.tmod (IntKind.wrap .u64 (↑(BitVec.toNat (BitVec.ofInt (IntKind.bits .u64) (IntKind.wrap .u64 (Int.tmod (IntKind.wrap .u64 (↑(BitVec.toNat (BitVec.ofInt (IntKind.bits .u64) 0 ||| BitVec.ofInt (IntKind.bits .u64) (IntKind.wrap .u64 (↑(BitVec.toNat (BitVec.ofInt (IntKind.bits .u64) (Int.fdiv a3 (2 ^ min 32 (IntKind.bits .u64))) &&& BitVec.ofInt (IntKind.bits .u64) 4294967295)) : Int)))) : Int)) 10 * 2 ^ min 32 (IntKind.bits .u64))) ||| BitVec.ofInt (IntKind.bits .u64) (IntKind.wrap .u64 (↑(BitVec.toNat (BitVec.ofInt (IntKind.bits .u64) (Int.fdiv a3 (2 ^ min 0 (IntKind.bits .u64))) &&& BitVec.ofInt (IntKind.bits .u64) 4294967295)) : Int)))) : Int)) 10 * 2 ^ min 32 (IntKind.bits .u64))) ||| BitVec.ofInt (IntKind.bits .u64) (IntKind.wrap .u64 (↑(BitVec.toNat (BitVec.ofInt (IntKind.bits .u64) (Int.fdiv a2 (2 ^ min 32 (IntKind.bits .u64))) &&& BitVec.ofInt (IntKind.bits .u64) 4294967295)) : Int)))) : Int)) 10 * 2 ^ min 32 (IntKind.bits .u64))) ||| BitVec.ofInt (IntKind.bits .u64) (IntKind.wrap .u64 (↑(BitVec.toNat (BitVec.ofInt (IntKind.bits .u64) (Int.fdiv a2 (2 ^ min 0 (IntKind.bits .u64))) &&& BitVec.ofInt (IntKind.bits .u64) 4294967295)) : Int)))) : Int)) 10 * 2 ^ min 32 (IntKind.bits .u64))) ||| BitVec.ofInt (IntKind.bits .u64) (IntKind.wrap .u64 (↑(BitVec.toNat (BitVec.ofInt (IntKind.bits .u64) (Int.fdiv a1 (2 ^ min 32 (IntKind.bits .u64))) &&& BitVec.ofInt (IntKind.bits .u64) 4294967295)) : Int)))) : Int)) 10 * 2 ^ min 32 (IntKind.bits .u64))) ||| BitVec.ofInt (IntKind.bits .u64) (IntKind.wrap .u64 (↑(BitVec.toNat (BitVec.ofInt (IntKind.bits .u64) (Int.fdiv a1 (2 ^ min 0 (IntKind.bits .u64))) &&& BitVec.ofInt (IntKind.bits .u64) 4294967295)) : Int)))) : Int)) 10 * 2 ^ min 32 (IntKind.bits .u64))) ||| BitVec.ofInt (IntKind.bits .u64) (IntKind.wrap .u64 (↑(BitVec.toNat (BitVec.ofInt (IntKind.bits .u64) (Int.fdiv a0 (2 ^ min 32 (IntKind.bits .u64))) &&& BitVec.ofInt (IntKind.bits .u64) 4294967295)) : Int)))) : Int)) 10 * 2 ^ min 32 (IntKind.bits .u64))) ||| BitVec.ofInt (IntKind.bits .u64) (IntKind.wrap .u64 (↑(BitVec.toNat (BitVec.ofInt (IntKind.bits .u64) (Int.fdiv a0 (2 ^ min 0 (IntKind.bits .u64))) &&& BitVec.ofInt (IntKind.bits .u64) 4294967295)) : Int)))) : Int)) 10)))) : Int)), AV.int .u64 (IntKind.wrap .u64 (↑(BitVec.toNat (BitVec.ofInt (IntKind.bits .u64) (IntKind.wrap .u64 (IntKind.wrap .u64 (↑(BitVec.toNat (BitVec.ofInt (IntKind.bits .u64) 0 ||| BitVec.ofInt (IntKind.bits .u64) (IntKind.wrap .u64 (Int.tdiv (IntKind.wrap .u64 (↑(BitVec.toNat (BitVec.ofInt (IntKind.bits .u64) (IntKind.wrap .u64 (Int.tmod (IntKind.wrap .u64 (↑(BitVec.toNat (BitVec.ofInt (IntKind.bits .u64) (IntKind.wrap .u64 (Int.tmod (IntKind.wrap .u64 (↑(BitVec.toNat (BitVec.ofInt (IntKind.bits .u64) (IntKind.wrap .u64 (Int.tmod (IntKind.wrap .u64 (↑(BitVec.toNat (BitVec.ofInt (IntKind.bits .u64) (IntKind.wrap .u64 (Int.tmod (IntKind.wrap .u64 (↑(BitVec.toNat (BitVec.ofInt (IntKind.bits .u64) 0 ||| BitVec.ofInt (IntKind.bits .u64) (IntKind.wrap .u64 (↑(BitVec.toNat (BitVec.ofInt (IntKind.bits .u64) (Int.fdiv a3 (2 ^ min 32 (IntKind.bits .u64))) &&& BitVec.ofInt (IntKind.bits .u64) 4294967295)) : Int)))) : Int)) 10 * 2 ^ min 32 (IntKind.bits .u64))) ||| BitVec.ofInt (IntKind.bits .u64) (IntKind.wrap .u64 (↑(BitVec.toNat (BitVec.ofInt (IntKind.bits .u64) (Int.fdiv a3 (2 ^ min 0 (IntKind.bits .u64))) &&& BitVec.ofInt (IntKind.bits .u64) 4294967295)) : Int)))) : Int)) 10 * 2 ^ min 32 (IntKind.bits .u64))) ||| BitVec.ofInt (IntKind.bits .u64) (IntKind.wrap .u64 (↑(BitVec.toNat (BitVec.ofInt (IntKind.bits .u64) (Int.fdiv a2 (2 ^ min 32 (IntKind.bits .u64))) &&& BitVec.ofInt (IntKind.bits .u64) 4294967295)) : Int)))) : Int)) 10 * 2 ^ min 32 (IntKind.bits .u64))) ||| BitVec.ofInt (IntKind.bits .u64) (IntKind.wrap .u64 (↑(BitVec.toNat (BitVec.ofInt (IntKind.bits .u64) (Int.fdiv a2 (2 ^ min 0 (IntKind.bits .u64))) &&& BitVec.ofInt (IntKind.bits .u64) 4294967295)) : Int)))) : Int)) 10 * 2 ^ min 32 (IntKind.bits .u64))) ||| BitVec.ofInt (IntKind.bits .u64) (IntKind.wrap .u64 (↑(BitVec.toNat (BitVec.ofInt (IntKind.bits .u64) (Int.fdiv a1 (2 ^ min 32 (IntKind.bits .u64))) &&& BitVec.ofInt (IntKind.bits .u64) 4294967295)) : Int)))) : Int)) 10)))) : Int) * 2 ^ min 32 (IntKind.bits .u64))) ||| BitVec.ofInt (IntKind.bits .u64) (IntKind.wrap .u64 (Int.tdiv (IntKind.wrap .u64 (↑(BitVec.toNat (BitVec.ofInt (IntKind.bits .u64) (IntKind.wrap .u64 (Int.tmod (IntKind.wrap .u64 (↑(BitVec.toNat (BitVec.ofInt (IntKind.bits .u64) (IntKind.wrap .u64 (Int.tmod (IntKind.wrap .u64 (↑(BitVec.toNat (BitVec.ofInt (IntKind.bits .u64) (IntKind.wrap .u64 (Int.tmod (IntKind.wrap .u64 (↑(BitVec.toNat (BitVec.ofInt (IntKind.bits .u64) (IntKind.wrap .u64 (Int.tmod (IntKind.wrap .u64 (↑(BitVec.toNat (BitVec.ofInt (IntKind.bits .u64) (IntKind.wrap .u64 (Int.tmod (IntKind.wrap .u64 (↑(BitVec.toNat (BitVec.ofInt (IntKind.bits .u64) 0 ||| BitVec.ofInt (IntKind.bits .u64) (IntKind.wrap .u64 (↑(BitVec.toNat (BitVec.ofInt (IntKind.bits .u64) (Int.fdiv a3 (2 ^ min 32 (IntKind.bits .u64))) &&& BitVec.ofInt (IntKind.bits .u64) 4294967295)) : Int)))) : Int)) 10 * 2 ^ min 32 (IntKind.bits .u64))) ||| BitVec.ofInt (IntKind.bits .u64) (IntKind.wrap .u64 (↑(BitVec.toNat (BitVec.ofInt (IntKind.bits .u64) (Int.fdiv a3 (2 ^ min 0 (IntKind.bits .u64))) &&& BitVec.ofInt (IntKind.bits .u64) 4294967295)) : Int)))) : Int)) 10 * 2 ^ min 32 (IntKind.bits .u64))) ||| BitVec.ofInt (IntKind.bits .u64) (IntKind.wrap .u64 (↑(BitVec.toNat (BitVec.ofInt (IntKind.bits .u64) (Int.fdiv a2 (2 ^ min 32 (IntKind.bits .u64))) &&& BitVec.ofInt (IntKind.bits .u64) 4294967295)) : Int)))) : Int)) 10 * 2 ^ min 32 (IntKind.bits .u64))) ||| BitVec.ofInt (IntKind.bits .u64) (IntKind.wrap .u64 (↑(BitVec.toNat (BitVec.ofInt (IntKind.bits .u64) (Int.fdiv a2 (2 ^ min 0 (IntKind.bits .u64))) &&& BitVec.ofInt (IntKind.bits .u64) 4294967295)) : Int)))) : Int)) 10 * 2 ^ min 32 (IntKind.bits .u64))) ||| BitVec.ofInt (IntKind.bits .u64) (IntKind.wrap .u64 (↑(BitVec.toNat (BitVec.ofInt (IntKind.bits .u64) (Int.fdiv a1 (2 ^ min 32 (IntKind.bits .u64))) &&& BitVec.ofInt (IntKind.bits .u64) 4294967295)) : Int)))) : Int)) 10 * 2 ^ min 32 (IntKind.bits .u64))) ||| BitVec.ofInt (IntKind.bits .u64) (IntKind.wrap .u64 (↑(BitVec.toNat (BitVec.ofInt (IntKind.bits .u64) (Int.fdiv a1 (2 ^ min 0 (IntKind.bits .u64))) &&& BitVec.ofInt (IntKind.bits .u64) 4294967295)) : Int)))) : Int)) 10)))) : Int)), AV.int .u64 (IntKind.wrap .u64 (↑(BitVec.toNat (BitVec.ofInt (IntKind.bits .u64) (IntKind.wrap .u64 (IntKind.wrap .u64 (↑(BitVec.toNat (BitVec.ofInt (IntKind.bits .u64) 0 ||| BitVec.ofInt (IntKind.bits .u64) (IntKind.wrap .u64 (Int.tdiv (IntKind.wrap .u64 (↑(BitVec.toNat (BitVec.ofInt (IntKind.bits .u64) (IntKind.wrap .u64 (Int.tmod (IntKind.wrap .u64 (↑(BitVec.toNat (BitVec.ofInt (IntKind.bits .u64) (IntKind.wrap .u64 (Int.tmod (IntKind.wrap .u64 (↑(BitVec.toNat (BitVec.ofInt (IntKind.bits .u64) 0 ||| BitVec.ofInt (IntKind.bits .u64) (IntKind.wrap .u64 (↑(BitVec.toNat (BitVec.ofInt (IntKind.bits .u64) (Int.fdiv a3 (2 ^ min 32 (IntKind.bits .u64))) &&& BitVec.ofInt (IntKind.bits .u64) 4294967295)) : Int)))) : Int)) 10 * 2 ^ min 32 (IntKind.bits .u64))) ||| BitVec.ofInt (IntKind.bits .u64) (IntKind.wrap .u64 (↑(BitVec.toNat (BitVec.ofInt (IntKind.bits .u64) (Int.fdiv a3 (2 ^ min 0 (IntKind.bits .u64))) &&& BitVec.ofInt (IntKind.bits .u64) 4294967295)) : Int)))) : Int)) 10 * 2 ^ min 32 (IntKind.bits .u64))) ||| BitVec.ofInt (IntKind.bits .u64) (IntKind.wrap .u64 (↑(BitVec.toNat (BitVec.ofInt (IntKind.bits .u64) (Int.fdiv a2 (2 ^ min 32 (IntKind.bits .u64))) &&& BitVec.ofInt (IntKind.bits .u64) 4294967295)) : Int)))) : Int)) 10)))) : Int) * 2 ^ min 32 (IntKind.bits .u64))) ||| BitVec.ofInt (IntKind.bits .u64) (IntKind.wrap .u64 (Int.tdiv (IntKind.wrap .u64 (↑(BitVec.toNat (BitVec.ofInt (IntKind.bits .u64) (IntKind.wrap .u64 (Int.tmod (IntKind.wrap .u64 (↑(BitVec.toNat (BitVec.ofInt (IntKind.bits .u64) (IntKind.wrap .u64 (Int.tmod (IntKind.wrap .u64 (↑(BitVec.toNat (BitVec.ofInt (IntKind.bits .u64) (IntKind.wrap .u64 (Int.tmod (IntKind.wrap .u64 (↑(BitVec.toNat (BitVec.ofInt (IntKind.bits .u64) 0 ||| BitVec.ofInt (IntKind.bits .u64) (IntKind.wrap .u64 (↑(BitVec.toNat (BitVec.ofInt (IntKind.bits .u64) (Int.fdiv a3 (2 ^ min 32 (IntKind.bits .u64))) &&& BitVec.ofInt (IntKind.bits .u64) 4294967295)) : Int)))) : Int)) 10 * 2 ^ min 32 (IntKind.bits .u64))) ||| BitVec.ofInt (IntKind.bits .u64) (IntKind.wrap .u64 (↑(BitVec.toNat (BitVec.ofInt (IntKind.bits .u64) (Int.fdiv a3 (2 ^ min 0 (IntKind.bits .u64))) &&& BitVec.ofInt (IntKind.bits .u64) 4294967295)) : Int)))) : Int)) 10 * 2 ^ min 32 (IntKind.bits .u64))) ||| BitVec.ofInt (IntKind.bits .u64) (IntKind.wrap .u64 (↑(BitVec.toNat (BitVec.ofInt (IntKind.bits .u64) (Int.fdiv a2 (2 ^ min 32 (IntKind.bits .u64))) &&& BitVec.ofInt (IntKind.bits .u64) 4294967295)) : Int)))) : Int)) 10 * 2 ^ min 32 (IntKind.bits .u64))) ||| BitVec.ofInt (IntKind.bits .u64) (IntKind.wrap .u64 (↑(BitVec.toNat (BitVec.ofInt (IntKind.bits .u64) (Int.fdiv a2 (2 ^ min 0 (IntKind.bits .u64))) &&& BitVec.ofInt (IntKind.bits .u64) 4294967295)) : Int)))) : Int)) 10)))) : Int)), AV.int .u64 (IntKind.wrap .u64 (↑(BitVec.toNat (BitVec.ofInt (IntKind.bits .u64) (IntKind.wrap .u64 (IntKind.wrap .u64 (↑(BitVec.toNat (BitVec.ofInt (IntKind.bits .u64) 0 ||| BitVec.ofInt (IntKind.bits .u64) (IntKind.wrap .u64 (Int.tdiv (IntKind.wrap .u64 (↑(BitVec.toNat (BitVec.ofInt (IntKind.bits .u64) 0 ||| BitVec.ofInt (IntKind.bits .u64) (IntKind.wrap .u64 (↑(BitVec.toNat (BitVec.ofInt (IntKind.bits .u64) (Int.fdiv a3 (2 ^ min 32 (IntKind.bits .u64))) &&& BitVec.ofInt (IntKind.bits .u64) 4294967295)) : Int)))) : Int)) 10)))) : Int) * 2 ^ min 32 (IntKind.bits .u64))) ||| BitVec.ofInt (IntKind.bits .u64) (IntKind.wrap .u64 (Int.tdiv (IntKind.wrap .u64 (↑(BitVec.toNat (BitVec.ofInt (IntKind.bits .u64) (IntKind.wrap .u64 (Int.tmod (IntKind.wrap .u64 (↑(BitVec.toNat (BitVec.ofInt (IntKind.bits .u64) 0 ||| BitVec.ofInt (IntKind.bits .u64) (IntKind.wrap .u64 (↑(BitVec.toNat (BitVec.ofInt (IntKind.bits .u64) (Int.fdiv a3 (2 ^ min 32 (IntKind.bits .u64))) &&& BitVec.ofInt (IntKind.bits .u64) 4294967295)) : Int)))) : Int)) 10 * 2 ^ min 32 (IntKind.bits .u64))) ||| BitVec.ofInt (IntKind.bits .u64) (IntKind.wrap .u64 (↑(BitVec.toNat (BitVec.ofInt (IntKind.bits .u64) (Int.fdiv a3 (2 ^ min 0 (IntKind.bits .u64))) &&& BitVec.ofInt (IntKind.bits .u64) 4294967295)) : Int)))) : Int)) 10)))) : Int))], AV.int .u64 (Int.tmod (IntKind.wrap .u64 (↑(BitVec.toNat (BitVec.ofInt (IntKind.bits .u64) (IntKind.wrap .u64 (Int.tmod (IntKind.wrap .u64 (↑(BitVec.toNat (BitVec.ofInt (IntKind.bits .u64) (IntKind.wrap .u64 (Int.tmod (IntKind.wrap .u64 (↑(BitVec.toNat (BitVec.ofInt (IntKind.bits .u64) (IntKind.wrap .u64 (Int.tmod (IntKind.wrap .u64 (↑(BitVec.toNat (BitVec.ofInt (IntKind.bits .u64) (IntKind.wrap .u64 (Int.tmod (IntKind.wrap .u64 (↑(BitVec.toNat (BitVec.ofInt (IntKind.bits .u64) (IntKind.wrap .u64 (Int.tmod (IntKind.wrap .u64 (↑(BitVec.toNat (BitVec.ofInt (IntKind.bits .u64) (IntKind.wrap .u64 (Int.tmod (IntKind.wrap .u64 (↑(BitVec.toNat (BitVec.ofInt (IntKind.bits .u64) (IntKind.wrap .u64 (Int.tmod (IntKind.wrap .u64 (↑(BitVec.toNat (BitVec.ofInt (IntKind.bits .u64) 0 ||| BitVec.ofInt (IntKind.bits .u64) (IntKind.wrap .u64 (↑(BitVec.toNat (BitVec.ofInt (IntKind.bits .u64) (Int.fdiv a3 (2 ^ min 32 (IntKind.bits .u64))) &&& BitVec.ofInt (IntKind.bits .u64) 4294967295)) : Int)))) : Int)) 10 * 2 ^ min 32 (IntKind.bits .u64))) ||| BitVec.ofInt (IntKind.bits .u64) (IntKind.wrap .u64 (↑(BitVec.toNat (BitVec.ofInt (IntKind.bits .u64) (Int.fdiv a3 (2 ^ min 0 (IntKind.bits .u64))) &&& BitVec.ofInt (IntKind.bits .u64) 4294967295)) : Int)))) : Int)) 10 * 2 ^ min 32 (IntKind.bits .u64))) ||| BitVec.ofInt (IntKind.bits .u64) (IntKind.wrap .u64 (↑(BitVec.toNat (BitVec.ofInt (IntKind.bits .u64) (Int.fdiv a2 (2 ^ min 32 (IntKind.bits .u64))) &&& BitVec.ofInt (IntKind.bits .u64) 4294967295)) : Int)))) : Int)) 10 * 2 ^ min 32 (IntKind.bits .u64))) ||| BitVec.ofInt (IntKind.bits .u64) (IntKind.wrap .u64 (↑(BitVec.toNat (BitVec.ofInt (IntKind.bits .u64) (Int.fdiv a2 (2 ^ min 0 (IntKind.bits .u64))) &&& BitVec.ofInt (IntKind.bits .u64) 4294967295)) : Int)))) : Int)) 10 * 2 ^ min 32 (IntKind.bits .u64))) ||| BitVec.ofInt (IntKind.bits .u64) (IntKind.wrap .u64 (↑(BitVec.toNat (BitVec.ofInt (IntKind.bits .u64) (Int.fdiv a1 (2 ^ min 32 (IntKind.bits .u64))) &&& BitVec.ofInt (IntKind.bits .u64) 4294967295)) : Int)))) : Int)) 10 * 2 ^ min 32 (IntKind.bits .u64))) ||| BitVec.ofInt (IntKind.bits .u64) (IntKind.wrap .u64 (↑(BitVec.toNat (BitVec.ofInt (IntKind.bits .u64) (Int.fdiv a1 (2 ^ min 0 (IntKind.bits .u64))) &&& BitVec.ofInt (IntKind.bits .u64) 4294967295)) : Int)))) : Int)) 10 * 2 ^ min 32 (IntKind.bits .u64))) ||| BitVec.ofInt (IntKind.bits .u64) (IntKind.wrap .u64 (↑(BitVec.toNat (BitVec.ofInt (IntKind.bits .u64) (Int.fdiv a0 (2 ^ min 32 (IntKind.bits .u64))) &&& BitVec.ofInt (IntKind.bits .u64) 4294967295)) : Int)))) : Int)) 10 * 2 ^ min 32 (IntKind.bits .u64))) ||| BitVec.ofInt (IntKind.bits .u64) (IntKind.wrap .u64 (↑(BitVec.toNat (BitVec.ofInt (IntKind.bits .u64) (Int.fdiv a0 (2 ^ min 0 (IntKind.bits .u64))) &&& BitVec.ofInt (IntKind.bits .u64) 4294967295)) : Int)))) : Int)) 10)]) [AObj.row 24 4 [AV.int .u64 (IntKind.wrap .u64 (↑(BitVec.toNat (BitVec.ofInt (IntKind.bits .u64) (IntKind.wrap .u64 (IntKind.wrap .u64 (↑(BitVec.toNat (BitVec.ofInt (IntKind.bits .u64) 0 ||| BitVec.ofInt (IntKind.bits .u64) (IntKind.wrap .u64 (Int.tdiv (IntKind.wrap .u64 (↑(BitVec.toNat (BitVec.ofInt (IntKind.bits .u64) (IntKind.wrap .u64 (Int.tmod (IntKind.wrap .u64 (↑(BitVec.toNat (BitVec.ofInt (IntKind.bits .u64) (IntKind.wrap .u64 (Int.tmod (IntKind.wrap .u64 (↑(BitVec.toNat (BitVec.ofInt (IntKind.bits .u64) (IntKind.wrap .u64 (Int.tmod (IntKind.wrap .u64 (↑(BitVec.toNat (BitVec.ofInt (IntKind.bits .u64) (IntKind.wrap .u64 (Int.tmod (IntKind.wrap .u64 (↑(BitVec.toNat (BitVec.ofInt (IntKind.bits .u64) (IntKind.wrap .u64 (Int.tmod (IntKind.wrap .u64 (↑(BitVec.toNat (BitVec.ofInt (IntKind.bits .u64) (IntKind.wrap .u64 (Int.tmod (IntKind.wrap .u64 (↑(BitVec.toNat (BitVec.ofInt (IntKind.bits .u64) 0 ||| BitVec.ofInt (IntKind.bits .u64) (IntKind.wrap .u64 (↑(BitVec.toNat (BitVec.ofInt (IntKind.bits .u64) (Int.fdiv a3 (2 ^ min 32 (IntKind.bits .u64))) &&& BitVec.ofInt (IntKind.bits .u64) 4294967295)) : Int)))) : Int)) 10 * 2 ^ min 32 (IntKind.bits .u64))) ||| BitVec.ofInt (IntKind.bits .u64) (IntKind.wrap .u64 (↑(BitVec.toNat (BitVec.ofInt (IntKind.bits .u64) (Int.fdiv a3 (2 ^ min 0 (IntKind.bits .u64))) &&& BitVec.ofInt (IntKind.bits .u64) 4294967295)) : Int)))) : Int)) 10 * 2 ^ min 32 (IntKind.bits .u64))) ||| BitVec.ofInt (IntKind.bits .u64) (IntKind.wrap .u64 (↑(BitVec.toNat (BitVec.ofInt (IntKind.bits .u64) (Int.fdiv a2 (2 ^ min 32 (IntKind.bits .u64))) &&& BitVec.ofInt (IntKind.bits .u64) 4294967295)) : Int)))) : Int)) 10 * 2 ^ min 32 (IntKind.bits .u64))) ||| BitVec.ofInt (IntKind.bits .u64) (IntKind.wrap .u64 (↑(BitVec.toNat (BitVec.ofInt (IntKind.bits .u64) (Int.fdiv a2 (2 ^ min 0 (IntKind.bits .u64))) &&& BitVec.ofInt (IntKind.bits .u64) 4294967295)) : Int)))) : Int)) 10 * 2 ^ min 32 (IntKind.bits .u64))) ||| BitVec.ofInt (IntKind.bits .u64) (IntKind.wrap .u64 (↑(BitVec.toNat (BitVec.ofInt (IntKind.bits .u64) (Int.fdiv a1 (2 ^ min 32 (IntKind.bits .u64))) &&& BitVec.ofInt (IntKind.bits .u64) 4294967295)) : Int)))) : Int)) 10 * 2 ^ min 32 (IntKind.bits .u64))) ||| BitVec.ofInt (IntKind.bits .u64) (IntKind.wrap .u64 (↑(BitVec.toNat (BitVec.ofInt (IntKind.bits .u64) (Int.fdiv a1 (2 ^ min 0 (IntKind.bits .u64))) &&& BitVec.ofInt (IntKind.bits .u64) 4294967295)) : Int)))) : Int)) 10 * 2 ^ min 32 (IntKind.bits .u64))) ||| BitVec.ofInt (IntKind.bits .u64) (IntKind.wrap .u64 (↑(BitVec.toNat (BitVec.ofInt (IntKind.bits .u64) (Int.fdiv a0 (2 ^ min 32 (IntKind.bits .u64))) &&& BitVec.ofInt (IntKind.bits .u64) 4294967295)) : Int)))) : Int)) 10)))) : Int) * 2 ^ min 32 (IntKind.bits .u64))) ||| BitVec.ofInt (IntKind.bits .u64) (IntKind.wrap .u64 (Int.tdiv (IntKind.wrap .u64 (↑(BitVec.toNat (BitVec.ofInt (IntKind.bits .u64) (IntKind.wrap .u64 (Int.tmod (IntKind.wrap .u64 (↑(BitVec.toNat (BitVec.ofInt (IntKind.bits .u64) (IntKind.wrap .u64 (Int.tmod (IntKind.wrap .u64 (↑(BitVec.toNat (BitVec.ofInt (IntKind.bits .u64) (IntKind.wrap .u64 (Int.tmod (IntKind.wrap .u64 (↑(BitVec.toNat (BitVec.ofInt (IntKind.bits .u64) (IntKind.wrap .u64 (Int.tmod (IntKind.wrap .u64 (↑(BitVec.toNat (BitVec.ofInt (IntKind.bits .u64) (IntKind.wrap .u64 (Int.tmod (IntKind.wrap .u64 (↑(BitVec.toNat (BitVec.ofInt (IntKind.bits .u64) (IntKind.wrap .u64 (Int.tmod (IntKind.wrap .u64 (↑(BitVec.toNat (BitVec.ofInt (IntKind.bits .u64) (IntKind.wrap .u64 (Int.tmod (IntKind.wrap .u64 (↑(BitVec.toNat (BitVec.ofInt (IntKind.bits .u64) 0 ||| BitVec.ofInt (IntKind.bits .u64) (IntKind.wrap .u64 (↑(BitVec.toNat (BitVec.ofInt (IntKind.bits .u64) (Int.fdiv a3 (2 ^ min 32 (IntKind.bits .u64))) &&& BitVec.ofInt (IntKind.bits .u64) 4294967295)) : Int)))) : Int)) 10 * 2 ^ min 32 (IntKind.bits .u64))) ||| BitVec.ofInt (IntKind.bits .u64) (IntKind.wrap .u64 (↑(BitVec.toNat (BitVec.ofInt (IntKind.bits .u64) (Int.fdiv a3 (2 ^ min 0 (IntKind.bits .u64))) &&& BitVec.ofInt (IntKind.bits .u64) 4294967295)) : Int)))) : Int)) 10 * 2 ^ min 32 (IntKind.bits .u64))) ||| BitVec.ofInt (IntKind.bits .u64) (IntKind.wrap .u64 (↑(BitVec.toNat (BitVec.ofInt (IntKind.bits .u64) (Int.fdiv a2 (2 ^ min 32 (IntKind.bits .u64))) &&& BitVec.ofInt (IntKind.bits .u64) 4294967295)) : Int)))) : Int)) 10 * 2 ^ min 32 (IntKind.bits .u64))) ||| BitVec.ofInt (IntKind.bits .u64) (IntKind.wrap .u64 (↑(BitVec.toNat (BitVec.ofInt (IntKind.bits .u64) (Int.fdiv a2 (2 ^ min 0 (IntKind.bits .u64))) &&& BitVec.ofInt (IntKind.bits .u64) 4294967295)) : Int)))) : Int)) 10 * 2 ^ min 32 (IntKind.bits .u64))) ||| BitVec.ofInt (IntKind.bits .u64) (IntKind.wrap .u64 (↑(BitVec.toNat (BitVec.ofInt (IntKind.bits .u64) (Int.fdiv a1 (2 ^ min 32 (IntKind.bits .u64))) &&& BitVec.ofInt (IntKind.bits .u64) 4294967295)) : Int)))) : Int)) 10 * 2 ^ min 32 (IntKind.bits .u64))) ||| BitVec.ofInt (IntKind.bits .u64) (IntKind.wrap .u64 (↑(BitVec.toNat (BitVec.ofInt (IntKind.bits .u64) (Int.fdiv a1 (2 ^ min 0 (IntKind.bits .u64))) &&& BitVec.ofInt (IntKind.bits .u64) 4294967295)) : Int)))) : Int)) 10 * 2 ^ min 32 (IntKind.bits .u64))) ||| BitVec.ofInt (IntKind.bits .u64) (IntKind.wrap .u64 (↑(BitVec.toNat (BitVec.ofInt (IntKind.bits .u64) (Int.fdiv a0 (2 ^ min 32 (IntKind.bits .u64))) &&& BitVec.ofInt (IntKind.bits .u64) 4294967295)) : Int)))) : Int)) 10 * 2 ^ min 32 (IntKind.bits .u64))) ||| BitVec.ofInt (IntKind.bits .u64) (IntKind.wrap .u64 (↑(BitVec.toNat (BitVec.ofInt (IntKind.bits .u64) (Int.fdiv a0 (2 ^ min 0 (IntKind.bits .u64))) &&& BitVec.ofInt (IntKind.bits .u64) 4294967295)) : Int)))) : Int)) 10)))) : Int)), AV.int .u64 (IntKind.wrap .u64 (↑(BitVec.toNat (BitVec.ofInt (IntKind.bits .u64) (IntKind.wrap .u64 (IntKind.wrap .u64 (↑(BitVec.toNat (BitVec.ofInt (IntKind.bits .u64) 0 ||| BitVec.ofInt (IntKind.bits .u64) (IntKind.wrap .u64 (Int.tdiv (IntKind.wrap .u64 (↑(BitVec.toNat (BitVec.ofInt (IntKind.bits .u64) (IntKind.wrap .u64 (Int.tmod (IntKind.wrap .u64 (↑(BitVec.toNat (BitVec.ofInt (IntKind.bits .u64) (IntKind.wrap .u64 (Int.tmod (IntKind.wrap .u64 (↑(BitVec.toNat (BitVec.ofInt (IntKind.bits .u64) (IntKind.wrap .u64 (Int.tmod (IntKind.wrap .u64 (↑(BitVec.toNat (BitVec.ofInt (IntKind.bits .u64) (IntKind.wrap .u64 (Int.tmod (IntKind.wrap .u64 (↑(BitVec.toNat (BitVec.ofInt (IntKind.bits .u64) 0 ||| BitVec.ofInt (IntKind.bits .u64) (IntKind.wrap .u64 (↑(BitVec.toNat (BitVec.ofInt (IntKind.bits .u64) (Int.fdiv a3 (2 ^ min 32 (IntKind.bits .u64))) &&& BitVec.ofInt (IntKind.bits .u64) 4294967295)) : Int)))) : Int)) 10 * 2 ^ min 32 (IntKind.bits .u64))) ||| BitVec.ofInt (IntKind.bits .u64) (IntKind.wrap .u64 (↑(BitVec.toNat (BitVec.ofInt (IntKind.bits .u64) (Int.fdiv a3 (2 ^ min 0 (IntKind.bits .u64))) &&& BitVec.ofInt (IntKind.bits .u64) 4294967295)) : Int)))) : Int)) 10 * 2 ^ min 32 (IntKind.bits .u64))) ||| BitVec.ofInt (IntKind.bits .u64) (IntKind.wrap .u64 (↑(BitVec.toNat (BitVec.ofInt (IntKind.bits .u64) (Int.fdiv a2 (2 ^ min 32 (IntKind.bits .u64))) &&& BitVec.ofInt (IntKind.bits .u64) 4294967295)) : Int)))) : Int)) 10 * 2 ^ min 32 (IntKind.bits .u64))) ||| BitVec.ofInt (IntKind.bits .u64) (IntKind.wrap .u64 (↑(BitVec.toNat (BitVec.ofInt (IntKind.bits .u64) (Int.fdiv a2 (2 ^ min 0 (IntKind.bits .u64))) &&& BitVec.ofInt (IntKind.bits .u64) 4294967295)) : Int)))) : Int)) 10 * 2 ^ min 32 (IntKind.bits .u64))) ||| BitVec.ofInt (IntKind.bits .u64) (IntKind.wrap .u64 (↑(BitVec.toNat (BitVec.ofInt (IntKind.bits .u64) (Int.fdiv a1 (2 ^ min 32 (IntKind.bits .u64))) &&& BitVec.ofInt (IntKind.bits .u64) 4294967295)) : Int)))) : Int)) 10)))) : Int) * 2 ^ min 32 (IntKind.bits .u64))) ||| BitVec.ofInt (IntKind.bits .u64) (IntKind.wrap .u64 (Int.tdiv (IntKind.wrap .u64 (↑(BitVec.toNat (BitVec.ofInt (IntKind.bits .u64) (IntKind.wrap .u64 (Int.tmod (IntKind.wrap .u64 (↑(BitVec.toNat (BitVec.ofInt (IntKind.bits .u64) (IntKind.wrap .u64 (Int.tmod (IntKind.wrap .u64 (↑(BitVec.toNat (BitVec.ofInt (IntKind.bits .u64) (IntKind.wrap .u64 (Int.tmod (IntKind.wrap .u64 (↑(BitVec.toNat (BitVec.ofInt (IntKind.bits .u64) (IntKind.wrap .u64 (Int.tmod (IntKind.wrap .u64 (↑(BitVec.toNat (BitVec.ofInt (IntKind.bits .u64) (IntKind.wrap .u64 (Int.tmod (IntKind.wrap .u64 (↑(BitVec.toNat (BitVec.ofInt (IntKind.bits .u64) 0 ||| BitVec.ofInt (IntKind.bits .u64) (IntKind.wrap .u64 (↑(BitVec.toNat (BitVec.ofInt (IntKind.bits .u64) (Int.fdiv a3 (2 ^ min 32 (IntKind.bits .u64))) &&& BitVec.ofInt (IntKind.bits .u64) 4294967295)) : Int)))) : Int)) 10 * 2 ^ min 32 (IntKind.bits .u64))) ||| BitVec.ofInt (IntKind.bits .u64) (IntKind.wrap .u64 (↑(BitVec.toNat (BitVec.ofInt (IntKind.bits .u64) (Int.fdiv a3 (2 ^ min 0 (IntKind.bits .u64))) &&& BitVec.ofInt (IntKind.bits .u64) 4294967295)) : Int)))) : Int)) 10 * 2 ^ min 32 (IntKind.bits .u64))) ||| BitVec.ofInt (IntKind.bits .u64) (IntKind.wrap .u64 (↑(BitVec.toNat (BitVec.ofInt (IntKind.bits .u64) (Int.fdiv a2 (2 ^ min 32 (IntKind.bits .u64))) &&& BitVec.ofInt (IntKind.bits .u64) 4294967295)) : Int)))) : Int)) 10 * 2 ^ min 32 (IntKind.bits .u64))) ||| BitVec.ofInt (IntKind.bits .u64) (IntKind.wrap .u64 (↑(BitVec.toNat (BitVec.ofInt (IntKind.bits .u64) (Int.fdiv a2 (2 ^ min 0 (IntKind.bits .u64))) &&& BitVec.ofInt (IntKind.bits .u64) 4294967295)) : Int)))) : Int)) 10 * 2 ^ min 32 (IntKind.bits .u64))) ||| BitVec.ofInt (IntKind.bits .u64) (IntKind.wrap .u64 (↑(BitVec.toNat (BitVec.ofInt (IntKind.bits .u64) (Int.fdiv a1 (2 ^ min 32 (IntKind.bits .u64))) &&& BitVec.ofInt (IntKind.bits .u64) 4294967295)) : Int)))) : Int)) 10 * 2 ^ min 32 (IntKind.bits .u64))) ||| BitVec.ofInt (IntKind.bits .u64) (IntKind.wrap .u64 (↑(BitVec.toNat (BitVec.ofInt (IntKind.bits .u64) (Int.fdiv a1 (2 ^ min 0 (IntKind.bits .u64))) &&& BitVec.ofInt (IntKind.bits .u64) 4294967295)) : Int)))) : Int)) 10)))) : Int)), AV.int .u64 (IntKind.wrap .u64 (↑(BitVec.toNat (BitVec.ofInt (IntKind.bits .u64) (IntKind.wrap .u64 (IntKind.wrap .u64 (↑(BitVec.toNat (BitVec.ofInt (IntKind.bits .u64) 0 ||| BitVec.ofInt (IntKind.bits .u64) (IntKind.wrap .u64 (Int.tdiv (IntKind.wrap .u64 (↑(BitVec.toNat (BitVec.ofInt (IntKind.bits .u64) (IntKind.wrap .u64 (Int.tmod (IntKind.wrap .u64 (↑(BitVec.toNat (BitVec.ofInt (IntKind.bits .u64) (IntKind.wrap .u64 (Int.tmod (IntKind.wrap .u64 (↑(BitVec.toNat (BitVec.ofInt (IntKind.bits .u64) 0 ||| BitVec.ofInt (IntKind.bits .u64) (IntKind.wrap .u64 (↑(BitVec.toNat (BitVec.ofInt (IntKind.bits .u64) (Int.fdiv a3 (2 ^ min 32 (IntKind.bits .u64))) &&& BitVec.ofInt (IntKind.bits .u64) 4294967295)) : Int)))) : Int)) 10 * 2 ^ min 32 (IntKind.bits .u64))) ||| BitVec.ofInt (IntKind.bits .u64) (IntKind.wrap .u64 (↑(BitVec.toNat (BitVec.ofInt (IntKind.bits .u64) (Int.fdiv a3 (2 ^ min 0 (IntKind.bits .u64))) &&& BitVec.ofInt (IntKind.bits .u64) 4294967295)) : Int)))) : Int)) 10 * 2 ^ min 32 (IntKind.bits .u64))) ||| BitVec.ofInt (IntKind.bits .u64) (IntKind.wrap .u64 (↑(BitVec.toNat (BitVec.ofInt (IntKind.bits .u64) (Int.fdiv a2 (2 ^ min 32 (IntKind.bits .u64))) &&& BitVec.ofInt (IntKind.bits .u64) 4294967295)) : Int)))) : Int)) 10)))) : Int) * 2 ^ min 32 (IntKind.bits .u64))) ||| BitVec.ofInt (IntKind.bits .u64) (IntKind.wrap .u64 (Int.tdiv (IntKind.wrap .u64 (↑(BitVec.toNat (BitVec.ofInt (IntKind.bits .u64) (IntKind.wrap .u64 (Int.tmod (IntKind.wrap .u64 (↑(BitVec.toNat (BitVec.ofInt (IntKind.bits .u64) (IntKind.wrap .u64 (Int.tmod (IntKind.wrap .u64 (↑(BitVec.toNat (BitVec.ofInt (IntKind.bits .u64) (IntKind.wrap .u64 (Int.tmod (IntKind.wrap .u64 (↑(BitVec.toNat (BitVec.ofInt (IntKind.bits .u64) 0 ||| BitVec.ofInt (IntKind.bits .u64) (IntKind.wrap .u64 (↑(BitVec.toNat (BitVec.ofInt (IntKind.bits .u64) (Int.fdiv a3 (2 ^ min 32 (IntKind.bits .u64))) &&& BitVec.ofInt (IntKind.bits .u64) 4294967295)) : Int)))) : Int)) 10 * 2 ^ min 32 (IntKind.bits .u64))) ||| BitVec.ofInt (IntKind.bits .u64) (IntKind.wrap .u64 (↑(BitVec.toNat (BitVec.ofInt (IntKind.bits .u64) (Int.fdiv a3 (2 ^ min 0 (IntKind.bits .u64))) &&& BitVec.ofInt (IntKind.bits .u64) 4294967295)) : Int)))) : Int)) 10 * 2 ^ min 32 (IntKind.bits .u64))) ||| BitVec.ofInt (IntKind.bits .u64) (IntKind.wrap .u64 (↑(BitVec.toNat (BitVec.ofInt (IntKind.bits .u64) (Int.fdiv a2 (2 ^ min 32 (IntKind.bits .u64))) &&& BitVec.ofInt (IntKind.bits .u64) 4294967295)) : Int)))) : Int)) 10 * 2 ^ min 32 (IntKind.bits .u64))) ||| BitVec.ofInt (IntKind.bits .u64) (IntKind.wrap .u64 (↑(BitVec.toNat (BitVec.ofInt (IntKind.bits .u64) (Int.fdiv a2 (2 ^ min 0 (IntKind.bits .u64))) &&& BitVec.ofInt (IntKind.bits .u64) 4294967295)) : Int)))) : Int)) 10)))) : Int)), AV.int .u64 (IntKind.wrap .u64 (↑(BitVec.toNat (BitVec.ofInt (IntKind.bits .u64) (IntKind.wrap .u64 (IntKind.wrap .u64 (↑(BitVec.toNat (BitVec.ofInt (IntKind.bits .u64) 0 ||| BitVec.ofInt (IntKind.bits .u64) (IntKind.wrap .u64 (Int.tdiv (IntKind.wrap .u64 (↑(BitVec.toNat (BitVec.ofInt (IntKind.bits .u64) 0 ||| BitVec.ofInt (IntKind.bits .u64) (IntKind.wrap .u64 (↑(BitVec.toNat (BitVec.ofInt (IntKind.bits .u64) (Int.fdiv a3 (2 ^ min 32 (IntKind.bits .u64))) &&& BitVec.ofInt (IntKind.bits .u64) 4294967295)) : Int)))) : Int)) 10)))) : Int) * 2 ^ min 32 (IntKind.bits .u64))) ||| BitVec.ofInt (IntKind.bits .u64) (IntKind.wrap .u64 (Int.tdiv (IntKind.wrap .u64 (↑(BitVec.toNat (BitVec.ofInt (IntKind.bits .u64) (IntKind.wrap .u64 (Int.tmod (IntKind.wrap .u64 (↑(BitVec.toNat (BitVec.ofInt (IntKind.bits .u64) 0 ||| BitVec.ofInt (IntKind.bits .u64) (IntKind.wrap .u64 (↑(BitVec.toNat (BitVec.ofInt (IntKind.bits .u64) (Int.fdiv a3 (2 ^ min 32 (IntKind.bits .u64))) &&& BitVec.ofInt (IntKind.bits .u64) 4294967295)) : Int)))) : Int)) 10 * 2 ^ min 32 (IntKind.bits .u64))) ||| BitVec.ofInt (IntKind.bits .u64) (IntKind.wrap .u64 (↑(BitVec.toNat (BitVec.ofInt (IntKind.bits .u64) (Int.fdiv a3 (2 ^ min 0 (IntKind.bits .u64))) &&& BitVec.ofInt (IntKind.bits .u64) 4294967295)) : Int)))) : Int)) 10)))) : Int))], AObj.row 24 4 [AV.int .u64 (IntKind.wrap .u64 (↑(BitVec.toNat (BitVec.ofInt (IntKind.bits .u64) (IntKind.wrap .u64 (IntKind.wrap .u64 (↑(BitVec.toNat (BitVec.ofInt (IntKind.bits .u64) 0 ||| BitVec.ofInt (IntKind.bits .u64) (IntKind.wrap .u64 (Int.tdiv (IntKind.wrap .u64 (↑(BitVec.toNat (BitVec.ofInt (IntKind.bits .u64) (IntKind.wrap .u64 (Int.tmod (IntKind.wrap .u64 (↑(BitVec.toNat (BitVec.ofInt (IntKind.bits .u64) (IntKind.wrap .u64 (Int.tmod (IntKind.wrap .u64 (↑(BitVec.toNat (BitVec.ofInt (IntKind.bits .u64) (IntKind.wrap .u64 (Int.tmod (IntKind.wrap .u64 (↑(BitVec.toNat (BitVec.ofInt (IntKind.bits .u64) (IntKind.wrap .u64 (Int.tmod (IntKind.wrap .u64 (↑(BitVec.toNat (BitVec.ofInt (IntKind.bits .u64) (IntKind.wrap .u64 (Int.tmod (IntKind.wrap .u64 (↑(BitVec.toNat (BitVec.ofInt (IntKind.bits .u64) (IntKind.wrap .u64 (Int.tmod (IntKind.wrap .u64 (↑(BitVec.toNat (BitVec.ofInt (IntKind.bits .u64) 0 ||| BitVec.ofInt (IntKind.bits .u64) (IntKind.wrap .u64 (↑(BitVec.toNat (BitVec.ofInt (IntKind.bits .u64) (Int.fdiv a3 (2 ^ min 32 (IntKind.bits .u64))) &&& BitVec.ofInt (IntKind.bits .u64) 4294967295)) : Int)))) : Int)) 10 * 2 ^ min 32 (IntKind.bits .u64))) ||| BitVec.ofInt (IntKind.bits .u64) (IntKind.wrap .u64 (↑(BitVec.toNat (BitVec.ofInt (IntKind.bits .u64) (Int.fdiv a3 (2 ^ min 0 (IntKind.bits .u64))) &&& BitVec.ofInt (IntKind.bits .u64) 4294967295)) : Int)))) : Int)) 10 * 2 ^ min 32 (IntKind.bits .u64))) ||| BitVec.ofInt (IntKind.bits .u64) (IntKind.wrap .u64 (↑(BitVec.toNat (BitVec.ofInt (IntKind.bits .u64) (Int.fdiv a2 (2 ^ min 32 (IntKind.bits .u64))) &&& BitVec.ofInt (IntKind.bits .u64) 4294967295)) : Int)))) : Int)) 10 * 2 ^ min 32 (IntKind.bits .u64))) ||| BitVec.ofInt (IntKind.bits .u64) (IntKind.wrap .u64 (↑(BitVec.toNat (BitVec.ofInt (IntKind.bits .u64) (Int.fdiv a2 (2 ^ min 0 (IntKind.bits .u64))) &&& BitVec.ofInt (IntKind.bits .u64) 4294967295)) : Int)))) : Int)) 10 * 2 ^ min 32 (IntKind.bits .u64))) ||| BitVec.ofInt (IntKind.bits .u64) (IntKind.wrap .u64 (↑(BitVec.toNat (BitVec.ofInt (IntKind.bits .u64) (Int.fdiv a1 (2 ^ min 32 (IntKind.bits .u64))) &&& BitVec.ofInt (IntKind.bits .u64) 4294967295)) : Int)))) : Int)) 10 * 2 ^ min 32 (IntKind.bits .u64))) ||| BitVec.ofInt (IntKind.bits .u64) (IntKind.wrap .u64 (↑(BitVec.toNat (BitVec.ofInt (IntKind.bits .u64) (Int.fdiv a1 (2 ^ min 0 (IntKind.bits .u64))) &&& BitVec.ofInt (IntKind.bits .u64) 4294967295)) : Int)))) : Int)) 10 * 2 ^ min 32 (IntKind.bits .u64))) ||| BitVec.ofInt (IntKind.bits .u64) (IntKind.wrap .u64 (↑(BitVec.toNat (BitVec.ofInt (IntKind.bits .u64) (Int.fdiv a0 (2 ^ min 32 (IntKind.bits .u64))) &&& BitVec.ofInt (IntKind.bits .u64) 4294967295)) : Int)))) : Int)) 10)))) : Int) * 2 ^ min 32 (IntKind.bits .u64))) ||| BitVec.ofInt (IntKind.bits .u64) (IntKind.wrap .u64 (Int.tdiv (IntKind.wrap .u64 (↑(BitVec.toNat (BitVec.ofInt (IntKind.bits .u64) (IntKind.wrap .u64 (Int.tmod (IntKind.wrap .u64 (↑(BitVec.toNat (BitVec.ofInt (IntKind.bits .u64) (IntKind.wrap .u64 (Int.tmod (IntKind.wrap .u64 (↑(BitVec.toNat (BitVec.ofInt (IntKind.bits .u64) (IntKind.wrap .u64 (Int.tmod (IntKind.wrap .u64 (↑(BitVec.toNat (BitVec.ofInt (IntKind.bits .u64) (IntKind.wrap .u64 (Int.tmod (IntKind.wrap .u64 (↑(BitVec.toNat (BitVec.ofInt (IntKind.bits .u64) (IntKind.wrap .u64 (Int.tmod (IntKind.wrap .u64 (↑(BitVec.toNat (BitVec.ofInt (IntKind.bits .u64) (IntKind.wrap .u64 (Int.tmod (IntKind.wrap .u64 (↑(BitVec.toNat (BitVec.ofInt (IntKind.bits .u64) (IntKind.wrap .u64 (Int.tmod (IntKind.wrap .u64 (↑(BitVec.toNat (BitVec.ofInt (IntKind.bits .u64) 0 ||| BitVec.ofInt (IntKind.bits .u64) (IntKind.wrap .u64 (↑(BitVec.toNat (BitVec.ofInt (IntKind.bits .u64) (Int.fdiv a3 (2 ^ min 32 (IntKind.bits .u64))) &&& BitVec.ofInt (IntKind.bits .u64) 4294967295)) : Int)))) : Int)) 10 * 2 ^ min 32 (IntKind.bits .u64))) ||| BitVec.ofInt (IntKind.bits .u64) (IntKind.wrap .u64 (↑(BitVec.toNat (BitVec.ofInt (IntKind.bits .u64) (Int.fdiv a3 (2 ^ min 0 (IntKind.bits .u64))) &&& BitVec.ofInt (IntKind.bits .u64) 4294967295)) : Int)))) : Int)) 10 * 2 ^ min 32 (IntKind.bits .u64))) ||| BitVec.ofInt (IntKind.bits .u64) (IntKind.wrap .u64 (↑(BitVec.toNat (BitVec.ofInt (IntKind.bits .u64) (Int.fdiv a2 (2 ^ min 32 (IntKind.bits .u64))) &&& BitVec.ofInt (IntKind.bits .u64) 4294967295)) : Int)))) : Int)) 10 * 2 ^ min 32 (IntKind.bits .u64))) ||| BitVec.ofInt (IntKind.bits .u64) (IntKind.wrap .u64 (↑(BitVec.toNat (BitVec.ofInt (IntKind.bits .u64) (Int.fdiv a2 (2 ^ min 0 (IntKind.bits .u64))) &&& BitVec.ofInt (IntKind.bits .u64) 4294967295)) : Int)))) : Int)) 10 * 2 ^ min 32 (IntKind.bits .u64))) ||| BitVec.ofInt (IntKind.bits .u64) (IntKind.wrap .u64 (↑(BitVec.toNat (BitVec.ofInt (IntKind.bits .u64) (Int.fdiv a1 (2 ^ min 32 (IntKind.bits .u64))) &&& BitVec.ofInt (IntKind.bits .u64) 4294967295)) : Int)))) : Int)) 10 * 2 ^ min 32 (IntKind.bits .u64))) ||| BitVec.ofInt (IntKind.bits .u64) (IntKind.wrap .u64 (↑(BitVec.toNat (BitVec.ofInt (IntKind.bits .u64) (Int.fdiv a1 (2 ^ min 0 (IntKind.bits .u64))) &&& BitVec.ofInt (IntKind.bits .u64) 4294967295)) : Int)))) : Int)) 10 * 2 ^ min 32 (IntKind.bits .u64))) ||| BitVec.ofInt (IntKind.bits .u64) (IntKind.wrap .u64 (↑(BitVec.toNat (BitVec.ofInt (IntKind.bits .u64) (Int.fdiv a0 (2 ^ min 32 (IntKind.bits .u64))) &&& BitVec.ofInt (IntKind.bits .u64) 4294967295)) : Int)))) : Int)) 10 * 2 ^ min 32 (IntKind.bits .u64))) ||| BitVec.ofInt (IntKind.bits .u64) (IntKind.wrap .u64 (↑(BitVec.toNat (BitVec.ofInt (IntKind.bits .u64) (Int.fdiv a0 (2 ^ min 0 (IntKind.bits .u64))) &&& BitVec.ofInt (IntKind.bits .u64) 4294967295)) : Int)))) : Int)) 10)))) : Int)), AV.int .u64 (IntKind.wrap .u64 (↑(BitVec.toNat (BitVec.ofInt (IntKind.bits .u64) (IntKind.wrap .u64 (IntKind.wrap .u64 (↑(BitVec.toNat (BitVec.ofInt (IntKind.bits .u64) 0 ||| BitVec.ofInt (IntKind.bits .u64) (IntKind.wrap .u64 (Int.tdiv (IntKind.wrap .u64 (↑(BitVec.toNat (BitVec.ofInt (IntKind.bits .u64) (IntKind.wrap .u64 (Int.tmod (IntKind.wrap .u64 (↑(BitVec.toNat (BitVec.ofInt (IntKind.bits .u64) (IntKind.wrap .u64 (Int.tmod (IntKind.wrap .u64 (↑(BitVec.toNat (BitVec.ofInt (IntKind.bits .u64) (IntKind.wrap .u64 (Int.tmod (IntKind.wrap .u64 (↑(BitVec.toNat (BitVec.ofInt (IntKind.bits .u64) (IntKind.wrap .u64 (Int.tmod (IntKind.wrap .u64 (↑(BitVec.toNat (BitVec.ofInt (IntKind.bits .u64) 0 ||| BitVec.ofInt (IntKind.bits .u64) (IntKind.wrap .u64 (↑(BitVec.toNat (BitVec.ofInt (IntKind.bits .u64) (Int.fdiv a3 (2 ^ min 32 (IntKind.bits .u64))) &&& BitVec.ofInt (IntKind.bits .u64) 4294967295)) : Int)))) : Int)) 10 * 2 ^ min 32 (IntKind.bits .u64))) ||| BitVec.ofInt (IntKind.bits .u64) (IntKind.wrap .u64 (↑(BitVec.toNat (BitVec.ofInt (IntKind.bits .u64) (Int.fdiv a3 (2 ^ min 0 (IntKind.bits .u64))) &&& BitVec.ofInt (IntKind.bits .u64) 4294967295)) : Int)))) : Int)) 10 * 2 ^ min 32 (IntKind.bits .u64))) ||| BitVec.ofInt (IntKind.bits .u64) (IntKind.wrap .u64 (↑(BitVec.toNat (BitVec.ofInt (IntKind.bits .u64) (Int.fdiv a2 (2 ^ min 32 (IntKind.bits .u64))) &&& BitVec.ofInt (IntKind.bits .u64) 4294967295)) : Int)))) : Int)) 10 * 2 ^ min 32 (IntKind.bits .u64))) ||| BitVec.ofInt (IntKind.bits .u64) (IntKind.wrap .u64 (↑(BitVec.toNat (BitVec.ofInt (IntKind.bits .u64) (Int.fdiv a2 (2 ^ min 0 (IntKind.bits .u64))) &&& BitVec.ofInt (IntKind.bits .u64) 4294967295)) : Int)))) : Int)) 10 * 2 ^ min 32 (IntKind.bits .u64))) ||| BitVec.ofInt (IntKind.bits .u64) (IntKind.wrap .u64 (↑(BitVec.toNat (BitVec.ofInt (IntKind.bits .u64) (Int.fdiv a1 (2 ^ min 32 (IntKind.bits .u64))) &&& BitVec.ofInt (IntKind.bits .u64) 4294967295)) : Int)))) : Int)) 10)))) : Int) * 2 ^ min 32 (IntKind.bits .u64))) ||| BitVec.ofInt (IntKind.bits .u64) (IntKind.wrap .u64 (Int.tdiv (IntKind.wrap .u64 (↑(BitVec.toNat (BitVec.ofInt (IntKind.bits .u64) (IntKind.wrap .u64 (Int.tmod (IntKind.wrap .u64 (↑(BitVec.toNat (BitVec.ofInt (IntKind.bits .u64) (IntKind.wrap .u64 (Int.tmod (IntKind.wrap .u64 (↑(BitVec.toNat (BitVec.ofInt (IntKind.bits .u64) (IntKind.wrap .u64 (Int.tmod (IntKind.wrap .u64 (↑(BitVec.toNat (BitVec.ofInt (IntKind.bits .u64) (IntKind.wrap .u64 (Int.tmod (IntKind.wrap .u64 (↑(BitVec.toNat (BitVec.ofInt (IntKind.bits .u64) (IntKind.wrap .u64 (Int.tmod (IntKind.wrap .u64 (↑(BitVec.toNat (BitVec.ofInt (IntKind.bits .u64) 0 ||| BitVec.ofInt (IntKind.bits .u64) (IntKind.wrap .u64 (↑(BitVec.toNat (BitVec.ofInt (IntKind.bits .u64) (Int.fdiv a3 (2 ^ min 32 (IntKind.bits .u64))) &&& BitVec.ofInt (IntKind.bits .u64) 4294967295)) : Int)))) : Int)) 10 * 2 ^ min 32 (IntKind.bits .u64))) ||| BitVec.ofInt (IntKind.bits .u64) (IntKind.wrap .u64 (↑(BitVec.toNat (BitVec.ofInt (IntKind.bits .u64) (Int.fdiv a3 (2 ^ min 0 (IntKind.bits .u64))) &&& BitVec.ofInt (IntKind.bits .u64) 4294967295)) : Int)))) : Int)) 10 * 2 ^ min 32 (IntKind.bits .u64))) ||| BitVec.ofInt (IntKind.bits .u64) (IntKind.wrap .u64 (↑(BitVec.toNat (BitVec.ofInt (IntKind.bits .u64) (Int.fdiv a2 (2 ^ min 32 (IntKind.bits .u64))) &&& BitVec.ofInt (IntKind.bits .u64) 4294967295)) : Int)))) : Int)) 10 * 2 ^ min 32 (IntKind.bits .u64))) ||| BitVec.ofInt (IntKind.bits .u64) (IntKind.wrap .u64 (↑(BitVec.toNat (BitVec.ofInt (IntKind.bits .u64) (Int.fdiv a2 (2 ^ min 0 (IntKind.bits .u64))) &&& BitVec.ofInt (IntKind.bits .u64) 4294967295)) : Int)))) : Int)) 10 * 2 ^ min 32 (IntKind.bits .u64))) ||| BitVec.ofInt (IntKind.bits .u64) (IntKind.wrap .u64 (↑(BitVec.toNat (BitVec.ofInt (IntKind.bits .u64) (Int.fdiv a1 (2 ^ min 32 (IntKind.bits .u64))) &&& BitVec.ofInt (IntKind.bits .u64) 4294967295)) : Int)))) : Int)) 10 * 2 ^ min 32 (IntKind.bits .u64))) ||| BitVec.ofInt (IntKind.bits .u64) (IntKind.wrap .u64 (↑(BitVec.toNat (BitVec.ofInt (IntKind.bits .u64) (Int.fdiv a1 (2 ^ min 0 (IntKind.bits .u64))) &&& BitVec.ofInt (IntKind.bits .u64) 4294967295)) : Int)))) : Int)) 10)))) : Int)), AV.int .u64 (IntKind.wrap .u64 (↑(BitVec.toNat (BitVec.ofInt (IntKind.bits .u64) (IntKind.wrap .u64 (IntKind.wrap .u64 (↑(BitVec.toNat (BitVec.ofInt (IntKind.bits .u64) 0 ||| BitVec.ofInt (IntKind.bits .u64) (IntKind.wrap .u64 (Int.tdiv (IntKind.wrap .u64 (↑(BitVec.toNat (BitVec.ofInt (IntKind.bits .u64) (IntKind.wrap .u64 (Int.tmod (IntKind.wrap .u64 (↑(BitVec.toNat (BitVec.ofInt (IntKind.bits .u64) (IntKind.wrap .u64 (Int.tmod (IntKind.wrap .u64 (↑(BitVec.toNat (BitVec.ofInt (IntKind.bits .u64) 0 ||| BitVec.ofInt (IntKind.bits .u64) (IntKind.wrap .u64 (↑(BitVec.toNat (BitVec.ofInt (IntKind.bits .u64) (Int.fdiv a3 (2 ^ min 32 (IntKind.bits .u64))) &&& BitVec.ofInt (IntKind.bits .u64) 4294967295)) : Int)))) : Int)) 10 * 2 ^ min 32 (IntKind.bits .u64))) ||| BitVec.ofInt (IntKind.bits .u64) (IntKind.wrap .u64 (↑(BitVec.toNat (BitVec.ofInt (IntKind.bits .u64) (Int.fdiv a3 (2 ^ min 0 (IntKind.bits .u64))) &&& BitVec.ofInt (IntKind.bits .u64) 4294967295)) : Int)))) : Int)) 10 * 2 ^ min 32 (IntKind.bits .u64))) ||| BitVec.ofInt (IntKind.bits .u64) (IntKind.wrap .u64 (↑(BitVec.toNat (BitVec.ofInt (IntKind.bits .u64) (Int.fdiv a2 (2 ^ min 32 (IntKind.bits .u64))) &&& BitVec.ofInt (IntKind.bits .u64) 4294967295)) : Int)))) : Int)) 10)))) : Int) * 2 ^ min 32 (IntKind.bits .u64))) ||| BitVec.ofInt (IntKind.bits .u64) (IntKind.wrap .u64 (Int.tdiv (IntKind.wrap .u64 (↑(BitVec.toNat (BitVec.ofInt (IntKind.bits .u64) (IntKind.wrap .u64 (Int.tmod (IntKind.wrap .u64 (↑(BitVec.toNat (BitVec.ofInt (IntKind.bits .u64) (IntKind.wrap .u64 (Int.tmod (IntKind.wrap .u64 (↑(BitVec.toNat (BitVec.ofInt (IntKind.bits .u64) (IntKind.wrap .u64 (Int.tmod (IntKind.wrap .u64 (↑(BitVec.toNat (BitVec.ofInt (IntKind.bits .u64) 0 ||| BitVec.ofInt (IntKind.bits .u64) (IntKind.wrap .u64 (↑(BitVec.toNat (BitVec.ofInt (IntKind.bits .u64) (Int.fdiv a3 (2 ^ min 32 (IntKind.bits .u64))) &&& BitVec.ofInt (IntKind.bits .u64) 4294967295)) : Int)))) : Int)) 10 * 2 ^ min 32 (IntKind.bits .u64))) ||| BitVec.ofInt (IntKind.bits .u64) (IntKind.wrap .u64 (↑(BitVec.toNat (BitVec.ofInt (IntKind.bits .u64) (Int.fdiv a3 (2 ^ min 0 (IntKind.bits .u64))) &&& BitVec.ofInt (IntKind.bits .u64) 4294967295)) : Int)))) : Int)) 10 * 2 ^ min 32 (IntKind.bits .u64))) ||| BitVec.ofInt (IntKind.bits .u64) (IntKind.wrap .u64 (↑(BitVec.toNat (BitVec.ofInt (IntKind.bits .u64) (Int.fdiv a2 (2 ^ min 32 (IntKind.bits .u64))) &&& BitVec.ofInt (IntKind.bits .u64) 4294967295)) : Int)))) : Int)) 10 * 2 ^ min 32 (IntKind.bits .u64))) ||| BitVec.ofInt (IntKind.bits .u64) (IntKind.wrap .u64 (↑(BitVec.toNat (BitVec.ofInt (IntKind.bits .u64) (Int.fdiv a2 (2 ^ min 0 (IntKind.bits .u64))) &&& BitVec.ofInt (IntKind.bits .u64) 4294967295)) : Int)))) : Int)) 10)))) : Int)), AV.int .u64 (IntKind.wrap .u64 (↑(BitVec.toNat (BitVec.ofInt (IntKind.bits .u64) (IntKind.wrap .u64 (IntKind.wrap .u64 (↑(BitVec.toNat (BitVec.ofInt (IntKind.bits .u64) 0 ||| BitVec.ofInt (IntKind.bits .u64) (IntKind.wrap .u64 (Int.tdiv (IntKind.wrap .u64 (↑(BitVec.toNat (BitVec.ofInt (IntKind.bits .u64) 0 ||| BitVec.ofInt (IntKind.bits .u64) (IntKind.wrap .u64 (↑(BitVec.toNat (BitVec.ofInt (IntKind.bits .u64) (Int.fdiv a3 (2 ^ min 32 (IntKind.bits .u64))) &&& BitVec.ofInt (IntKind.bits .u64) 4294967295)) : Int)))) : Int)) 10)))) : Int) * 2 ^ min 32 (IntKind.bits .u64))) ||| BitVec.ofInt (IntKind.bits .u64) (IntKind.wrap .u64 (Int.tdiv (IntKind.wrap .u64 (↑(BitVec.toNat (BitVec.ofInt (IntKind.bits .u64) (IntKind.wrap .u64 (Int.tmod (IntKind.wrap .u64 (↑(BitVec.toNat (BitVec.ofInt (IntKind.bits .u64) 0 ||| BitVec.ofInt (IntKind.bits .u64) (IntKind.wrap .u64 (↑(BitVec.toNat (BitVec.ofInt (IntKind.bits .u64) (Int.fdiv a3 (2 ^ min 32 (IntKind.bits .u64))) &&& BitVec.ofInt (IntKind.bits .u64) 4294967295)) : Int)))) : Int)) 10 * 2 ^ min 32 (IntKind.bits .u64))) ||| BitVec.ofInt (IntKind.bits .u64) (IntKind.wrap .u64 (↑(BitVec.toNat (BitVec.ofInt (IntKind.bits .u64) (Int.fdiv a3 (2 ^ min 0 (IntKind.bits .u64))) &&& BitVec.ofInt (IntKind.bits .u64) 4294967295)) : Int)))) : Int)) 10)))) : Int))]]) = (wpF Tryd.prog C0t 400 pz43 [.agg [.int .u64 a0, .int .u64 a1, .int .u64 a2, .int .u64 a3], .int .u64 10] [] R) := by kernel_rfl
theorem v50t (a0 a1 a2 a3 : Int) (R : AV → AHeap → Prop) : (∃ (n : Int), sHalfR [AV.agg [AV.int .u64 a0, AV.int .u64 a1, AV.int .u64 a2, AV.int .u64 a3], AV.int .i64 7] = some (AV.int .u64 n) ∧ ∃ (n_1 : Int), sHalfR [AV.agg [AV.int .u64 a0, AV.int .u64 a1, AV.int .u64 a2, AV.int .u64 a3], AV.int .i64 6] = some (AV.int .u64 n_1) ∧ ∃ (n_2 : Int), sHalfR [AV.agg [AV.int .u64 a0, AV.int .u64 a1, AV.int .u64 a2, AV.int .u64 a3], AV.int .i64 5] = some (AV.int .u64 n_2) ∧ ∃ (n_3 : Int), sHalfR [AV.agg [AV.int .u64 a0, AV.int .u64 a1, AV.int .u64 a2, AV.int .u64 a3], AV.int .i64 4] = some (AV.int .u64 n_3) ∧ ∃ (n_4 : Int), sHalfR [AV.agg [AV.int .u64 a0, AV.int .u64 a1, AV.int .u64 a2, AV.int .u64 a3], AV.int .i64 3] = some (AV.int .u64 n_4) ∧ ∃ (n_5 : Int), sHalfR [AV.agg [AV.int .u64 a0, AV.int .u64 a1, AV.int .u64 a2, AV.int .u64 a3], AV.int .i64 2] = some (AV.int .u64 n_5) ∧ ∃ (n_6 : Int), sHalfR [AV.agg [AV.int .u64 a0, AV.int .u64 a1, AV.int .u64 a2, AV.int .u64 a3], AV.int .i64 1] = some (AV.int .u64 n_6) ∧ ∃ (n_7 : Int), sHalfR [AV.agg [AV.int .u64 a0, AV.int .u64 a1, AV.int .u64 a2, AV.int .u64 a3], AV.int .i64 0] = some (AV.int .u64 n_7) ∧ R (AV.tup [AV.agg [AV.int .u64 (IntKind.wrap .u64 (IntKind.wrap .u64 (0 + IntKind.wrap .u64 (IntKind.wrap .u64 (Int.tdiv (IntKind.wrap .u64 (IntKind.wrap .u64 (Int.tmod (IntKind.wrap .u64 (IntKind.wrap .u64 (Int.tmod (IntKind.wrap .u64 (IntKind.wrap .u64 (Int.tmod (IntKind.wrap .u64 (IntKind.wrap .u64 (Int.tmod (IntKind.wrap .u64 (IntKind.wrap .u64 (Int.tmod (IntKind.wrap .u64 (IntKind.wrap .u64 (Int.tmod (IntKind.wrap .u64 (0 + n)) 10 * 2 ^ min 32 (IntKind.bits .u64)) + n_1)) 10 * 2 ^ min 32 (IntKind.bits .u64)) + n_2)) 10 * 2 ^ min 32 (IntKind.bits .u64)) + n_3)) 10 * 2 ^ min 32 (IntKind.bits .u64)) + n_4)) 10 * 2 ^ min 32 (IntKind.bits .u64)) + n_5)) 10 * 2 ^ min 32 (IntKind.bits .u64)) + n_6)) 10) * 2 ^ min 32 (IntKind.bits .u64))) + IntKind.wrap .u64 (IntKind.wrap .u64 (Int.tdiv (IntKind.wrap .u64 (IntKind.wrap .u64 (Int.tmod (IntKind.wrap .u64 (IntKind.wrap .u64 (Int.tmod (IntKind.wrap .u64 (IntKind.wrap .u64 (Int.tmod (IntKind.wrap .u64 (IntKind.wrap .u64 (Int.tmod (IntKind.wrap .u64 (IntKind.wrap .u64 (Int.tmod (IntKind.wrap .u64 (IntKind.wrap .u64 (Int.tmod (IntKind.wrap .u64 (IntKind.wrap .u64 (Int.tmod (IntKind.wrap .u64 (0 + n)) 10 * 2 ^ min 32 (IntKind.bits .u64)) + n_1)) 10 * 2 ^ min 32 (IntKind.bits .u64)) + n_2)) 10 * 2 ^ min 32 (IntKind.bits .u64)) + n_3)) 10 * 2 ^ min 32 (IntKind.bits .u64)) + n_4)) 10 * 2 ^ min 32 (IntKind.bits .u64)) + n_5)) 10 * 2 ^ min 32 (IntKind.bits .u64)) + n_6)) 10 * 2 ^ min 32 (IntKind.bits .u64)) + n_7)) 10) * 2 ^ min 0 (IntKind.bits .u64)))), AV.int .u64 (IntKind.wrap .u64 (IntKind.wrap .u64 (0 + IntKind.wrap .u64 (IntKind.wrap .u64 (Int.tdiv (IntKind.wrap .u64 (IntKind.wrap .u64 (Int.tmod (IntKind.wrap .u64 (IntKind.wrap .u64 (Int.tmod (IntKind.wrap .u64 (IntKind.wrap .u64 (Int.tmod (IntKind.wrap .u64 (IntKind.wrap .u64 (Int.tmod (IntKind.wrap .u64 (0 + n)) 10 * 2 ^ min 32 (IntKind.bits .u64)) + n_1)) 10 * 2 ^ min 32 (IntKind.bits .u64)) + n_2)) 10 * 2 ^ min 32 (IntKind.bits .u64)) + n_3)) 10 * 2 ^ min 32 (IntKind.bits .u64)) + n_4)) 10) * 2 ^ min 32 (IntKind.bits .u64))) + IntKind.wrap .u64 (IntKind.wrap .u64 (Int.tdiv (IntKind.wrap .u64 (IntKind.wrap .u64 (Int.tmod (IntKind.wrap .u64 (IntKind.wrap .u64 (Int.tmod (IntKind.wrap .u64 (IntKind.wrap .u64 (Int.tmod (IntKind.wrap .u64 (IntKind.wrap .u64 (Int.tmod (IntKind.wrap .u64 (IntKind.wrap .u64 (Int.tmod (IntKind.wrap .u64 (0 + n)) 10 * 2 ^ min 32 (IntKind.bits .u64)) + n_1)) 10 * 2 ^ min 32 (IntKind.bits .u64)) + n_2)) 10 * 2 ^ min 32 (IntKind.bits .u64)) + n_3)) 10 * 2 ^ min 32 (IntKind.bits .u64)) + n_4)) 10 * 2 ^ min 32 (IntKind.bits .u64)) + n_5)) 10) * 2 ^ min 0 (IntKind.bits .u64)))), AV.int .u64 (IntKind.wrap .u64 (IntKind.wrap .u64 (0 + IntKind.wrap .u64 (IntKind.wrap .u64 (Int.tdiv (IntKind.wrap .u64 (IntKind.wrap .u64 (Int.tmod (IntKind.wrap .u64 (IntKind.wrap .u64 (Int.tmod (IntKind.wrap .u64 (0 + n)) 10 * 2 ^ min 32 (IntKind.bits .u64)) + n_1)) 10 * 2 ^ min 32 (IntKind.bits .u64)) + n_2)) 10) * 2 ^ min 32 (IntKind.bits .u64))) + IntKind.wrap .u64 (IntKind.wrap .u64 (Int.tdiv (IntKind.wrap .u64 (IntKind.wrap .u64 (Int.tmod (IntKind.wrap .u64 (IntKind.wrap .u64 (Int.tmod (IntKind.wrap .u64 (IntKind.wrap .u64 (Int.tmod (IntKind.wrap .u64 (0 + n)) 10 * 2 ^ min 32 (IntKind.bits .u64)) + n_1)) 10 * 2 ^ min 32 (IntKind.bits .u64)) + n_2)) 10 * 2 ^ min 32 (IntKind.bits .u64)) + n_3)) 10) * 2 ^ min 0 (IntKind.bits .u64)))), AV.int .u64 (IntKind.wrap .u64 (IntKind.wrap .u64 (0 + IntKind.wrap .u64 (IntKind.wrap .u64 (Int.tdiv (IntKind.wrap .u64 (0 + n)) 10) * 2 ^ min 32 (IntKind.bits .u64))) + IntKind.wrap .u64 (IntKind.wrap .u64 (Int.tdiv (IntKind.wrap .u64 (IntKind.wrap .u64 (Int.tmod (IntKind.wrap .u64 (0 + n)) 10 * 2 ^ min 32 (IntKind.bits .u64)) + n_1)) 10) * 2 ^ min 0 (IntKind.bits .u64))))], AV.int .u64 (Int.tmod (IntKind.wrap .u64 (IntKind.wrap .u64 (Int.tmod (IntKind.wrap .u64 (IntKind.wrap .u64 (Int.tmod (IntKind.wrap .u64 (IntKind.wrap .u64 (Int.tmod (IntKind.wrap .u64 (IntKind.wrap .u64 (Int.tmod (IntKind.wrap .u64 (IntKind.wrap .u64 (Int.tmod (IntKind.wrap .u64 (IntKind.wrap .u64 (Int.tmod (IntKind.wrap .u64 (IntKind.wrap .u64 (Int.tmod (IntKind.wrap .u64 (0 + n)) 10 * 2 ^ min 32 (IntKind.bits .u64)) + n_1)) 10 * 2 ^ min 32 (IntKind.bits .u64)) + n_2)) 10 * 2 ^ min 32 (IntKind.bits .u64)) + n_3)) 10 * 2 ^ min 32 (IntKind.bits .u64)) + n_4)) 10 * 2 ^ min 32 (IntKind.bits .u64)) + n_5)) 10 * 2 ^ min 32 (IntKind.bits .u64)) + n_6)) 10 * 2 ^ min 32 (IntKind.bits .u64)) + n_7)) 10)]) [AObj.row 24 4 [AV.int .u64 a0, AV.int .u64 a1, AV.int .u64 a2, AV.int .u64 a3], AObj.row 24 4 [AV.int .u64 (IntKind.wrap .u64 (IntKind.wrap .u64 (0 + IntKind.wrap .u64 (IntKind.wrap .u64 (Int.tdiv (IntKind.wrap .u64 (IntKind.wrap .u64 (Int.tmod (IntKind.wrap .u64 (IntKind.wrap .u64 (Int.tmod (IntKind.wrap .u64 (IntKind.wrap .u64 (Int.tmod (IntKind.wrap .u64 (IntKind.wrap .u64 (Int.tmod (IntKind.wrap .u64 (IntKind.wrap .u64 (Int.tmod (IntKind.wrap .u64 (IntKind.wrap .u64 (Int.tmod (IntKind.wrap .u64 (0 + n)) 10 * 2 ^ min 32 (IntKind.bits .u64)) + n_1)) 10 * 2 ^ min 32 (IntKind.bits .u64)) + n_2)) 10 * 2 ^ min 32 (IntKind.bits .u64)) + n_3)) 10 * 2 ^ min 32 (IntKind.bits .u64)) + n_4)) 10 * 2 ^ min 32 (IntKind.bits .u64)) + n_5)) 10 * 2 ^ min 32 (IntKind.bits .u64)) + n_6)) 10) * 2 ^ min 32 (IntKind.bits .u64))) + IntKind.wrap .u64 (IntKind.wrap .u64 (Int.tdiv (IntKind.wrap .u64 (IntKind.wrap .u64 (Int.tmod (IntKind.wrap .u64 (IntKind.wrap .u64 (Int.tmod (IntKind.wrap .u64 (IntKind.wrap .u64 (Int.tmod (IntKind.wrap .u64 (IntKind.wrap .u64 (Int.tmod (IntKind.wrap .u64 (IntKind.wrap .u64 (Int.tmod (IntKind.wrap .u64 (IntKind.wrap .u64 (Int.tmod (IntKind.wrap .u64 (IntKind.wrap .u64 (Int.tmod (IntKind.wrap .u64 (0 + n)) 10 * 2 ^ min 32 (IntKind.bits .u64)) + n_1)) 10 * 2 ^ min 32 (IntKind.bits .u64)) + n_2)) 10 * 2 ^ min 32 (IntKind.bits .u64)) + n_3)) 10 * 2 ^ min 32 (IntKind.bits .u64)) + n_4)) 10 * 2 ^ min 32 (IntKind.bits .u64)) + n_5)) 10 * 2 ^ min 32 (IntKind.bits .u64)) + n_6)) 10 * 2 ^ min 32 (IntKind.bits .u64)) + n_7)) 10) * 2 ^ min 0 (IntKind.bits .u64)))), AV.int .u64 (IntKind.wrap .u64 (IntKind.wrap .u64 (0 + IntKind.wrap .u64 (IntKind.wrap .u64 (Int.tdiv (IntKind.wrap .u64 (IntKind.wrap .u64 (Int.tmod (IntKind.wrap .u64 (IntKind.wrap .u64 (Int.tmod (IntKind.wrap .u64 (IntKind.wrap .u64 (Int.tmod (IntKind.wrap .u64 (IntKind.wrap .u64 (Int.tmod (IntKind.wrap .u64 (0 + n)) 10 * 2 ^ min 32 (IntKind.bits .u64)) + n_1)) 10 * 2 ^ min 32 (IntKind.bits .u64)) + n_2)) 10 * 2 ^ min 32 (IntKind.bits .u64)) + n_3)) 10 * 2 ^ min 32 (IntKind.bits .u64)) + n_4)) 10) * 2 ^ min 32 (IntKind.bits .u64))) + IntKind.wrap .u64 (IntKind.wrap .u64 (Int.tdiv (IntKind.wrap .u64 (IntKind.wrap .u64 (Int.tmod (IntKind.wrap .u64 (IntKind.wrap .u64 (Int.tmod (IntKind.wrap .u64 (IntKind.wrap .u64 (Int.tmod (IntKind.wrap .u64 (IntKind.wrap .u64 (Int.tmod (IntKind.wrap .u64 (IntKind.wrap .u64 (Int.tmod (IntKind.wrap .u64 (0 + n)) 10 * 2 ^ min 32 (IntKind.bits .u64)) + n_1)) 10 * 2 ^ min 32 (IntKind.bits .u64)) + n_2)) 10 * 2 ^ min 32 (IntKind.bits .u64)) + n_3)) 10 * 2 ^ min 32 (IntKind.bits .u64)) + n_4)) 10 * 2 ^ min 32 (IntKind.bits .u64)) + n_5)) 10) * 2 ^ min 0 (IntKind.bits .u64)))), AV.int .u64 (IntKind.wrap .u64 (IntKind.wrap .u64 (0 + IntKind.wrap .u64 (IntKind.wrap .u64 (Int.tdiv (IntKind.wrap .u64 (IntKind.wrap .u64 (Int.tmod (IntKind.wrap .u64 (IntKind.wrap .u64 (Int.tmod (IntKind.wrap .u64 (0 + n)) 10 * 2 ^ min 32 (IntKind.bits .u64)) + n_1)) 10 * 2 ^ min 32 (IntKind.bits .u64)) + n_2)) 10) * 2 ^ min 32 (IntKind.bits .u64))) + IntKind.wrap .u64 (IntKind.wrap .u64 (Int.tdiv (IntKind.wrap .u64 (IntKind.wrap .u64 (Int.tmod (IntKind.wrap .u64 (IntKind.wrap .u64 (Int.tmod (IntKind.wrap .u64 (IntKind.wrap .u64 (Int.tmod (IntKind.wrap .u64 (0 + n)) 10 * 2 ^ min 32 (IntKind.bits .u64)) + n_1)) 10 * 2 ^ min 32 (IntKind.bits .u64)) + n_2)) 10 * 2 ^ min 32 (IntKind.bits .u64)) + n_3)) 10) * 2 ^ min 0 (IntKind.bits .u64)))), AV.int .u64 (IntKind.wrap .u64 (IntKind.wrap .u64 (0 + IntKind.wrap .u64 (IntKind.wrap .u64 (Int.tdiv (IntKind.wrap .u64 (0 + n)) 10) * 2 ^ min 32 (IntKind.bits .u64))) + IntKind.wrap .u64 (IntKind.wrap .u64 (Int.tdiv (IntKind.wrap .u64 (IntKind.wrap .u64 (Int.tmod (IntKind.wrap .u64 (0 + n)) 10 * 2 ^ min 32 (IntKind.bits .u64)) + n_1)) 10) * 2 ^ min 0 (IntKind.bits .u64))))], AObj.row 24 4 [AV.int .u64 (IntKind.wrap .u64 (IntKind.wrap .u64 (0 + IntKind.wrap .u64 (IntKind.wrap .u64 (Int.tdiv (IntKind.wrap .u64 (IntKind.wrap .u64 (Int.tmod (IntKind.wrap .u64 (IntKind.wrap .u64 (Int.tmod (IntKind.wrap .u64 (IntKind.wrap .u64 (Int.tmod (IntKind.wrap .u64 (IntKind.wrap .u64 (Int.tmod (IntKind.wrap .u64 (IntKind.wrap .u64 (Int.tmod (IntKind.wrap .u64 (IntKind.wrap .u64 (Int.tmod (IntKind.wrap .u64 (0 + n)) 10 * 2 ^ min 32 (IntKind.bits .u64)) + n_1)) 10 * 2 ^ min 32 (IntKind.bits .u64)) + n_2)) 10 * 2 ^ min 32 (IntKind.bits .u64)) + n_3)) 10 * 2 ^ min 32 (IntKind.bits .u64)) + n_4)) 10 * 2 ^ min 32 (IntKind.bits .u64)) + n_5)) 10 * 2 ^ min 32 (IntKind.bits .u64)) + n_6)) 10) * 2 ^ min 32 (IntKind.bits .u64))) + IntKind.wrap .u64 (IntKind.wrap .u64 (Int.tdiv (IntKind.wrap .u64 (IntKind.wrap .u64 (Int.tmod (IntKind.wrap .u64 (IntKind.wrap .u64 (Int.tmod (IntKind.wrap .u64 (IntKind.wrap .u64 (Int.tmod (IntKind.wrap .u64 (IntKind.wrap .u64 (Int.tmod (IntKind.wrap .u64 (IntKind.wrap .u64 (Int.tmod (IntKind.wrap .u64 (IntKind.wrap .u64 (Int.tmod (IntKind.wrap .u64 (IntKind.wrap .u64 (Int.tmod (IntKind.wrap .u64 (0 + n)) 10 * 2 ^ min 32 (IntKind.bits .u64)) + n_1)) 10 * 2 ^ min 32 (IntKind.bits .u64)) + n_2)) 10 * 2 ^ min 32 (IntKind.bits .u64)) + n_3)) 10 * 2 ^ min 32 (IntKind.bits .u64)) + n_4)) 10 * 2 ^ min 32 (IntKind.bits .u64)) + n_5)) 10 * 2 ^ min 32 (IntKind.bits .u64)) + n_6)) 10 * 2 ^ min 32 (IntKind.bits .u64)) + n_7)) 10) * 2 ^ min 0 (IntKind.bits .u64)))), AV.int .u64 (IntKind.wrap .u64 (IntKind.wrap .u64 (0 + IntKind.wrap .u64 (IntKind.wrap .u64 (Int.tdiv (IntKind.wrap .u64 (IntKind.wrap .u64 (Int.tmod (IntKind.wrap .u64 (IntKind.wrap .u64 (Int.tmod (IntKind.wrap .u64 (IntKind.wrap .u64 (Int.tmod (IntKind.wrap .u64 (IntKind.wrap .u64 (Int.tmod (IntKind.wrap .u64 (0 + n)) 10 * 2 ^ min 32 (IntKind.bits .u64)) + n_1)) 10 * 2 ^ min 32 (IntKind.bits .u64)) + n_2)) 10 * 2 ^ min 32 (IntKind.bits .u64)) + n_3)) 10 * 2 ^ min 32 (IntKind.bits .u64)) + n_4)) 10) * 2 ^ min 32 (IntKind.bits .u64))) + IntKind.wrap .u64 (IntKind.wrap .u64 (Int.tdiv (IntKind.wrap .u64 (IntKind.wrap .u64 (Int.tmod (IntKind.wrap .u64 (IntKind.wrap .u64 (Int.tmod (IntKind.wrap .u64 (IntKind.wrap .u64 (Int.tmod (IntKind.wrap .u64 (IntKind.wrap .u64 (Int.tmod (IntKind.wrap .u64 (IntKind.wrap .u64 (Int.tmod (IntKind.wrap .u64 (0 + n)) 10 * 2 ^ min 32 (IntKind.bits .u64)) + n_1)) 10 * 2 ^ min 32 (IntKind.bits .u64)) + n_2)) 10 * 2 ^ min 32 (IntKind.bits .u64)) + n_3)) 10 * 2 ^ min 32 (IntKind.bits .u64)) + n_4)) 10 * 2 ^ min 32 (IntKind.bits .u64)) + n_5)) 10) * 2 ^ min 0 (IntKind.bits .u64)))), AV.int .u64 (IntKind.wrap .u64 (IntKind.wrap .u64 (0 + IntKind.wrap .u64 (IntKind.wrap .u64 (Int.tdiv (IntKind.wrap .u64 (IntKind.wrap .u64 (Int.tmod (IntKind.wrap .u64 (IntKind.wrap .u64 (Int.tmod (IntKind.wrap .u64 (0 + n)) 10 * 2 ^ min 32 (IntKind.bits .u64)) + n_1)) 10 * 2 ^ min 32 (IntKind.bits .u64)) + n_2)) 10) * 2 ^ min 32 (IntKind.bits .u64))) + IntKind.wrap .u64 (IntKind.wrap .u64 (Int.tdiv (IntKind.wrap .u64 (IntKind.wrap .u64 (Int.tmod (IntKind.wrap .u64 (IntKind.wrap .u64 (Int.tmod (IntKind.wrap .u64 (IntKind.wrap .u64 (Int.tmod (IntKind.wrap .u64 (0 + n)) 10 * 2 ^ min 32 (IntKind.bits .u64)) + n_1)) 10 * 2 ^ min 32 (IntKind.bits .u64)) + n_2)) 10 * 2 ^ min 32 (IntKind.bits .u64)) + n_3)) 10) * 2 ^ min 0 (IntKind.bits .u64)))), AV.int .u64 (IntKind.wrap .u64 (IntKind.wrap .u64 (0 + IntKind.wrap .u64 (IntKind.wrap .u64 (Int.tdiv (IntKind.wrap .u64 (0 + n)) 10) * 2 ^ min 32 (IntKind.bits .u64))) + IntKind.wrap .u64 (IntKind.wrap .u64 (Int.tdiv (IntKind.wrap .u64 (IntKind.wrap .u64 (Int.tmod (IntKind.wrap .u64 (0 + n)) 10 * 2 ^ min 32 (IntKind.bits .u64)) + n_1)) 10) * 2 ^ min 0 (IntKind.bits .u64))))]]) = (wpF Tryd.prog (tbC Q tb50 (fun _ => false) kdU) 400 pz50 [.agg [.int .u64 a0, .int .u64 a1, .int .u64 a2, .int .u64 a3], .int .u64 10] [] R) := by kernel_rfl
theorem v22t_0 (v m : Nat) (u at1 : Int) (cs : List AV) (K : AExit → St → Prop) : (∃ (n : Int), ∃ (n_1 : Int), ∃ (n_2 : Int), ∃ (n_3 : Int), ∃ (n_4 : Int), sSmall [AV.agg [AV.int .u64 (u % 18446744073709551616), AV.int .u64 (u / 18446744073709551616 % 18446744073709551616), AV.int .u64 (u / 18446744073709551616 / 18446744073709551616 % 18446744073709551616), AV.int .u64 (u / 18446744073709551616 / 18446744073709551616 / 18446744073709551616 % 18446744073709551616)], AV.int .u64 10] = some (AV.tup [AV.agg [AV.int .u64 n, AV.int .u64 n_1, AV.int .u64 n_2, AV.int .u64 n_3], AV.int .u64 n_4]) ∧ chkW (decide (0 ≤ IntKind.wrap .i64 (at1 - 1))) (chkW (decide (IntKind.wrap .i64 (at1 - 1) < 80)) (∃ (t : TypeId), ∃ (s : Nat), ∃ (cs_1 : List AV), some (AObj.row 64 80 cs) = some (AObj.row t s cs_1) ∧ chkW (decide (0 + Int.toNat (IntKind.wrap .i64 (at1 - 1)) * 1 + 1 ≤ List.length cs_1)) (askB (!(n == 0 && (n_1 == 0 && (n_2 == 0 && (n_3 == 0 && true))))) (chkW (objClosed (AObj.row t s (spliceA cs_1 (0 + Int.toNat (IntKind.wrap .i64 (at1 - 1)) * 1) (AV.cells (AV.int .u8 (IntKind.wrap .u8 (IntKind.wrap .u64 (48 + n_4)))))))) (∃ (u : Nat), ∃ (acc : List UInt8), (envOf 26 [(1, AV.ptr (some (0, 0))), (3, AV.ptr (some (1, 0))), (4, AV.int .i64 (IntKind.wrap .i64 (at1 - 1)))], [AObj.row 24 4 [AV.int .u64 n, AV.int .u64 n_1, AV.int .u64 n_2, AV.int .u64 n_3], AObj.row t s (spliceA cs_1 (0 + Int.toNat (IntKind.wrap .i64 (at1 - 1)) * 1) (AV.cells (AV.int .u8 (IntKind.wrap .u8 (IntKind.wrap .u64 (48 + n_4))))))]) = (envOf 26 [(1, AV.ptr (some (0, 0))), (3, AV.ptr (some (1, 0))), (4, AV.int .i64 (80 - (↑(List.length acc) : Int)))], [AObj.row 24 4 [AV.int .u64 ((↑u : Int) % 18446744073709551616), AV.int .u64 ((↑u : Int) / 18446744073709551616 % 18446744073709551616), AV.int .u64 ((↑u : Int) / 18446744073709551616 / 18446744073709551616 % 18446744073709551616), AV.int .u64 ((↑u : Int) / 18446744073709551616 / 18446744073709551616 / 18446744073709551616 % 18446744073709551616)], AObj.row 64 80 (c80 acc)]) ∧ (u ≠ 0 ∧ List.reverse (lsb u) ++ acc = textN v ∧ List.length acc + List.length (lsb u) ≤ 78 ∧ 0 < List.length acc ∧ u < 115792089237316195423570985008687907853269984665640564039457584007913129639936 ∧ u < m) ∧ K AExit.ret (envOf 26 [(2, AV.str (textN v)), (3, AV.ptr (some (0, 0))), (4, AV.int .i64 (80 - (↑(List.length (textN v)) : Int))), (23, AV.int .i64 (80 - (↑(List.length (textN v)) : Int))), (24, AV.sl (some (0, Int.toNat (80 - (↑(List.length (textN v)) : Int)))) (List.length (textN v)) (ACap.fix (List.length (textN v)))), (25, AV.str (textN v))], [AObj.row 64 80 (c80 (textN v))]))) (chkW (objClosed (AObj.row t s (spliceA cs_1 (0 + Int.toNat (IntKind.wrap .i64 (at1 - 1)) * 1) (AV.cells (AV.int .u8 (IntKind.wrap .u8 (IntKind.wrap .u64 (48 + n_4)))))))) (chkW (decide (0 ≤ IntKind.wrap .i64 (at1 - 1))) (chkW (decide (IntKind.wrap .i64 (at1 - 1) ≤ 80)) (chkW (decide ((if Int.toNat (IntKind.wrap .i64 (at1 - 1)) = 80 then 0 else 0 + Int.toNat (IntKind.wrap .i64 (at1 - 1)) * 1) + (80 - Int.toNat (IntKind.wrap .i64 (at1 - 1))) ≤ List.length (spliceA cs_1 (0 + Int.toNat (IntKind.wrap .i64 (at1 - 1)) * 1) (AV.cells (AV.int .u8 (IntKind.wrap .u8 (IntKind.wrap .u64 (48 + n_4)))))))) (chkW (List.all (List.take (80 - Int.toNat (IntKind.wrap .i64 (at1 - 1))) (List.drop (if Int.toNat (IntKind.wrap .i64 (at1 - 1)) = 80 then 0 else 0 + Int.toNat (IntKind.wrap .i64 (at1 - 1)) * 1) (spliceA cs_1 (0 + Int.toNat (IntKind.wrap .i64 (at1 - 1)) * 1) (AV.cells (AV.int .u8 (IntKind.wrap .u8 (IntKind.wrap .u64 (48 + n_4)))))))) (isInt .u8)) (K AExit.ret (envOf 26 [(2, AV.str (bytesOf (List.take (80 - Int.toNat (IntKind.wrap .i64 (at1 - 1))) (List.drop (if Int.toNat (IntKind.wrap .i64 (at1 - 1)) = 80 then 0 else 0 + Int.toNat (IntKind.wrap .i64 (at1 - 1)) * 1) (spliceA cs_1 (0 + Int.toNat (IntKind.wrap .i64 (at1 - 1)) * 1) (AV.cells (AV.int .u8 (IntKind.wrap .u8 (IntKind.wrap .u64 (48 + n_4)))))))))), (3, AV.ptr (some (0, 0))), (4, AV.int .i64 (IntKind.wrap .i64 (at1 - 1))), (23, AV.int .i64 (IntKind.wrap .i64 (at1 - 1))), (24, AV.sl (some (0, if Int.toNat (IntKind.wrap .i64 (at1 - 1)) = 80 then 0 else 0 + Int.toNat (IntKind.wrap .i64 (at1 - 1)) * 1)) (80 - Int.toNat (IntKind.wrap .i64 (at1 - 1))) (ACap.fix (80 - Int.toNat (IntKind.wrap .i64 (at1 - 1))))), (25, AV.str (bytesOf (List.take (80 - Int.toNat (IntKind.wrap .i64 (at1 - 1))) (List.drop (if Int.toNat (IntKind.wrap .i64 (at1 - 1)) = 80 then 0 else 0 + Int.toNat (IntKind.wrap .i64 (at1 - 1)) * 1) (spliceA cs_1 (0 + Int.toNat (IntKind.wrap .i64 (at1 - 1)) * 1) (AV.cells (AV.int .u8 (IntKind.wrap .u8 (IntKind.wrap .u64 (48 + n_4))))))))))], [AObj.row t s (spliceA cs_1 (0 + Int.toNat (IntKind.wrap .i64 (at1 - 1)) * 1) (AV.cells (AV.int .u8 (IntKind.wrap .u8 (IntKind.wrap .u64 (48 + n_4))))))]))))))))))) = (wpP Tryd.prog { C22 with gw := G22 v m } 80 (.inr (sc22, (findP sc22 0).getD .skip)) (q22 u at1 cs) K) := by kernel_rfl
theorem v22t (a0 a1 a2 a3 : Int) (v m : Nat) (R : AV → AHeap → Prop) : (∃ (n : Int), ∃ (n_1 : Int), ∃ (n_2 : Int), ∃ (n_3 : Int), ∃ (n_4 : Int), sSmall [AV.agg [AV.int .u64 a0, AV.int .u64 a1, AV.int .u64 a2, AV.int .u64 a3], AV.int .u64 10] = some (AV.tup [AV.agg [AV.int .u64 n, AV.int .u64 n_1, AV.int .u64 n_2, AV.int .u64 n_3], AV.int .u64 n_4]) ∧ ∃ (t : TypeId), ∃ (s : Nat), ∃ (cs : List AV), some (AObj.row 64 80 [AV.int .u8 0, AV.int .u8 0, AV.int .u8 0, AV.int .u8 0, AV.int .u8 0, AV.int .u8 0, AV.int .u8 0, AV.int .u8 0, AV.int .u8 0, AV.int .u8 0, AV.int .u8 0, AV.int .u8 0, AV.int .u8 0, AV.int .u8 0, AV.int .u8 0, AV.int .u8 0, AV.int .u8 0, AV.int .u8 0, AV.int .u8 0, AV.int .u8 0, AV.int .u8 0, AV.int .u8 0, AV.int .u8 0, AV.int .u8 0, AV.int .u8 0, AV.int .u8 0, AV.int .u8 0, AV.int .u8 0, AV.int .u8 0, AV.int .u8 0, AV.int .u8 0, AV.int .u8 0, AV.int .u8 0, AV.int .u8 0, AV.int .u8 0, AV.int .u8 0, AV.int .u8 0, AV.int .u8 0, AV.int .u8 0, AV.int .u8 0, AV.int .u8 0, AV.int .u8 0, AV.int .u8 0, AV.int .u8 0, AV.int .u8 0, AV.int .u8 0, AV.int .u8 0, AV.int .u8 0, AV.int .u8 0, AV.int .u8 0, AV.int .u8 0, AV.int .u8 0, AV.int .u8 0, AV.int .u8 0, AV.int .u8 0, AV.int .u8 0, AV.int .u8 0, AV.int .u8 0, AV.int .u8 0, AV.int .u8 0, AV.int .u8 0, AV.int .u8 0, AV.int .u8 0, AV.int .u8 0, AV.int .u8 0, AV.int .u8 0, AV.int .u8 0, AV.int .u8 0, AV.int .u8 0, AV.int .u8 0, AV.int .u8 0, AV.int .u8 0, AV.int .u8 0, AV.int .u8 0, AV.int .u8 0, AV.int .u8 0, AV.int .u8 0, AV.int .u8 0, AV.int .u8 0, AV.int .u8 0]) = some (AObj.row t s cs) ∧ chkW (decide (80 ≤ List.length cs)) (askB (!(n == 0 && (n_1 == 0 && (n_2 == 0 && (n_3 == 0 && true))))) (chkW (objClosed (AObj.row t s (spliceA cs 79 (AV.cells (AV.int .u8 (IntKind.wrap .u8 (IntKind.wrap .u64 (48 + n_4)))))))) (∃ (u : Nat), ∃ (acc : List UInt8), (envOf 26 [(1, AV.ptr (some (0, 0))), (3, AV.ptr (some (1, 0))), (4, AV.int .i64 79)], [AObj.row 24 4 [AV.int .u64 n, AV.int .u64 n_1, AV.int .u64 n_2, AV.int .u64 n_3], AObj.row t s (spliceA cs 79 (AV.cells (AV.int .u8 (IntKind.wrap .u8 (IntKind.wrap .u64 (48 + n_4))))))]) = (envOf 26 [(1, AV.ptr (some (0, 0))), (3, AV.ptr (some (1, 0))), (4, AV.int .i64 (80 - (↑(List.length acc) : Int)))], [AObj.row 24 4 [AV.int .u64 ((↑u : Int) % 18446744073709551616), AV.int .u64 ((↑u : Int) / 18446744073709551616 % 18446744073709551616), AV.int .u64 ((↑u : Int) / 18446744073709551616 / 18446744073709551616 % 18446744073709551616), AV.int .u64 ((↑u : Int) / 18446744073709551616 / 18446744073709551616 / 18446744073709551616 % 18446744073709551616)], AObj.row 64 80 (c80 acc)]) ∧ (u ≠ 0 ∧ List.reverse (lsb u) ++ acc = textN v ∧ List.length acc + List.length (lsb u) ≤ 78 ∧ 0 < List.length acc ∧ u < 115792089237316195423570985008687907853269984665640564039457584007913129639936 ∧ u < m) ∧ R (AV.str (textN v)) [AObj.row 64 80 (c80 (textN v))])) (chkW (objClosed (AObj.row t s (spliceA cs 79 (AV.cells (AV.int .u8 (IntKind.wrap .u8 (IntKind.wrap .u64 (48 + n_4)))))))) (chkW (decide (80 ≤ List.length (spliceA cs 79 (AV.cells (AV.int .u8 (IntKind.wrap .u8 (IntKind.wrap .u64 (48 + n_4)))))))) (chkW (List.all (List.take 1 (List.drop 79 (spliceA cs 79 (AV.cells (AV.int .u8 (IntKind.wrap .u8 (IntKind.wrap .u64 (48 + n_4)))))))) (isInt .u8)) (R (AV.str (bytesOf (List.take 1 (List.drop 79 (spliceA cs 79 (AV.cells (AV.int .u8 (IntKind.wrap .u8 (IntKind.wrap .u64 (48 + n_4)))))))))) [AObj.row t s (spliceA cs 79 (AV.cells (AV.int .u8 (IntKind.wrap .u8 (IntKind.wrap .u64 (48 + n_4))))))])))))) = (wpF Tryd.prog { C22 with gw := G22 v m } 80 pz22 [.agg [.int .u64 a0, .int .u64 a1, .int .u64 a2, .int .u64 a3]] [] R) := by kernel_rfl
theorem v24n (u : Int) (K : AExit → St → Prop) : (askB (!(u % 18446744073709551616 == 0 && (u / 18446744073709551616 % 18446744073709551616 == 0 && (u / 18446744073709551616 / 18446744073709551616 % 18446744073709551616 == 0 && (u / 18446744073709551616 / 18446744073709551616 / 18446744073709551616 % 18446744073709551616 == 0 && true))))) (∃ (n : Int), ∃ (n_1 : Int), ∃ (n_2 : Int), ∃ (n_3 : Int), ∃ (n_4 : Int), sSmall [AV.agg [AV.int .u64 (u % 18446744073709551616), AV.int .u64 (u / 18446744073709551616 % 18446744073709551616), AV.int .u64 (u / 18446744073709551616 / 18446744073709551616 % 18446744073709551616), AV.int .u64 (u / 18446744073709551616 / 18446744073709551616 / 18446744073709551616 % 18446744073709551616)], AV.int .u64 10] = some (AV.tup [AV.agg [AV.int .u64 n, AV.int .u64 n_1, AV.int .u64 n_2, AV.int .u64 n_3], AV.int .u64 n_4]) ∧ K AExit.normal (envOf 52 [(1, AV.ptr (some (0, 0))), (3, AV.sl (some (1, 0)) 1 (ACap.rel 0))], [AObj.row 24 4 [AV.int .u64 n, AV.int .u64 n_1, AV.int .u64 n_2, AV.int .u64 n_3], AObj.row 5 1 [AV.int .u8 (IntKind.wrap .u8 (IntKind.wrap .u64 (48 + n_4)))]])) (K (AExit.exit 0) (envOf 52 [(3, AV.sl none 0 (ACap.fix 0))], [AObj.row 24 4 [AV.int .u64 (u % 18446744073709551616), AV.int .u64 (u / 18446744073709551616 % 18446744073709551616), AV.int .u64 (u / 18446744073709551616 / 18446744073709551616 % 18446744073709551616), AV.int .u64 (u / 18446744073709551616 / 18446744073709551616 / 18446744073709551616 % 18446744073709551616)], AObj.dead]))) = (wpP Tryd.prog C24n 60 (.inl pz24_l1) (n24 u) (postX C24n t24 x24 x24 K)) := by kernel_rfl
theorem v24b (u : Int) (ls : List UInt8) (K : AExit → St → Prop) : (askB (!(u % 18446744073709551616 == 0 && (u / 18446744073709551616 % 18446744073709551616 == 0 && (u / 18446744073709551616 / 18446744073709551616 % 18446744073709551616 == 0 && (u / 18446744073709551616 / 18446744073709551616 / 18446744073709551616 % 18446744073709551616 == 0 && true))))) (∃ (n : Int), ∃ (n_1 : Int), ∃ (n_2 : Int), ∃ (n_3 : Int), ∃ (n_4 : Int), sSmall [AV.agg [AV.int .u64 (u % 18446744073709551616), AV.int .u64 (u / 18446744073709551616 % 18446744073709551616), AV.int .u64 (u / 18446744073709551616 / 18446744073709551616 % 18446744073709551616), AV.int .u64 (u / 18446744073709551616 / 18446744073709551616 / 18446744073709551616 % 18446744073709551616)], AV.int .u64 10] = some (AV.tup [AV.agg [AV.int .u64 n, AV.int .u64 n_1, AV.int .u64 n_2, AV.int .u64 n_3], AV.int .u64 n_4]) ∧ ∃ (t : TypeId), ∃ (s : Nat), ∃ (cs : List AV), some (AObj.row 5 1 (bv ls)) = some (AObj.row t s cs) ∧ chkW (decide (t = 5)) (chkW (decide (s = 1)) (chkW (decide (List.length cs = List.length ls * 1)) (chkW (decide ((List.length ls + 1) * 1 ≤ 140737488355328)) (chkW (decide (List.length ls + 1 ≤ 9223372036854775807)) (chkW (objClosed (AObj.row 5 1 (cs ++ List.take (1 * 1) (List.drop 0 [AV.int .u8 (IntKind.wrap .u8 (IntKind.wrap .u64 (48 + n_4)))])))) (K AExit.normal (envOf 52 [(1, AV.ptr (some (0, 0))), (3, AV.sl (some (1, 0)) (List.length ls + 1) (ACap.rel 0))], [AObj.row 24 4 [AV.int .u64 n, AV.int .u64 n_1, AV.int .u64 n_2, AV.int .u64 n_3], AObj.row 5 1 (cs ++ List.take (1 * 1) (List.drop 0 [AV.int .u8 (IntKind.wrap .u8 (IntKind.wrap .u64 (48 + n_4)))]))])))))))) (chkW (objClosed (AObj.row 5 1 (bv ls))) (K (AExit.exit 0) (envOf 52 [(3, AV.sl (some (1, 0)) (List.length ls) (ACap.rel 0))], [AObj.row 24 4 [AV.int .u64 (u % 18446744073709551616), AV.int .u64 (u / 18446744073709551616 % 18446744073709551616), AV.int .u64 (u / 18446744073709551616 / 18446744073709551616 % 18446744073709551616), AV.int .u64 (u / 18446744073709551616 / 18446744073709551616 / 18446744073709551616 % 18446744073709551616)], AObj.row 5 1 (bv ls)])))) = (wpP Tryd.prog C24m 60 (.inl pz24_l1) (h24 u ls) (postX C24m t24 x24 x24 K)) := by kernel_rfl
theorem v24r (n : Nat) (l : List UInt8) (i k : Nat) (K : AExit → St → Prop) : (askB (decide ((↑i : Int) < (↑k : Int))) (chkW (decide ((↑k : Int) < (↑n : Int))) (∃ (n_1 : Int), (Option.bind (cellsAt [AObj.row 24 4 [AV.int .u64 0, AV.int .u64 0, AV.int .u64 0, AV.int .u64 0], AObj.row 5 1 (bv l)] 1) fun (x : List AV) => partR none x (0 + k * 1)) = some (AV.int .u8 n_1) ∧ chkW (decide ((↑i : Int) < (↑n : Int))) (∃ (n_2 : Int), (Option.bind (cellsAt [AObj.row 24 4 [AV.int .u64 0, AV.int .u64 0, AV.int .u64 0, AV.int .u64 0], AObj.row 5 1 (bv l)] 1) fun (x : List AV) => partR none x (0 + i * 1)) = some (AV.int .u8 n_2) ∧ chkW (decide ((↑i : Int) < (↑n : Int))) (∃ (t : TypeId), ∃ (s : Nat), ∃ (cs : List AV), some (AObj.row 5 1 (bv l)) = some (AObj.row t s cs) ∧ chkW (decide (0 + i * 1 + 1 ≤ List.length cs)) (chkW (decide ((↑k : Int) < (↑n : Int))) (chkW (logOk [none, none, none, none, none, none, none, none, none, none, none, none, none, some (true, 1, 0 + i * 1, 1), none, none] (true, 1, 0 + k * 1, 1)) (∃ (t_1 : TypeId), ∃ (s_1 : Nat), ∃ (cs_1 : List AV), some (AObj.row t s (spliceA cs (0 + i * 1) (AV.cells (AV.int .u8 n_1)))) = some (AObj.row t_1 s_1 cs_1) ∧ chkW (decide (0 + k * 1 + 1 ≤ List.length cs_1)) (K AExit.normal (envOf 52 [(3, AV.sl (some (1, 0)) n (ACap.rel 0)), (6, AV.int .i64 (IntKind.wrap .i64 ((↑i : Int) + 1))), (7, AV.int .i64 (IntKind.wrap .i64 ((↑k : Int) - 1)))], [AObj.row 24 4 [AV.int .u64 0, AV.int .u64 0, AV.int .u64 0, AV.int .u64 0], AObj.row t_1 s_1 (spliceA cs_1 (0 + k * 1) (AV.cells (AV.int .u8 n_2)))]))))))))) (K (AExit.exit 2) (envOf 52 [(3, AV.sl (some (1, 0)) n (ACap.rel 0))], [AObj.row 24 4 [AV.int .u64 0, AV.int .u64 0, AV.int .u64 0, AV.int .u64 0], AObj.row 5 1 (bv l)]))) = (wpP Tryd.prog C24r 60 (.inl pz24_l0) (q24 n l i k) (postX C24r t24r x24r x24r K)) := by kernel_rfl
theorem v24t (a0 a1 a2 a3 : Int) (v : Nat) (R : AV → AHeap → Prop) : (askB (a0 == 0 && (a1 == 0 && (a2 == 0 && (a3 == 0 && true)))) (R (AV.str [48]) [AObj.row 24 4 [AV.int .u64 a0, AV.int .u64 a1, AV.int .u64 a2, AV.int .u64 a3]]) ((envOf 52 [(1, AV.ptr (some (0, 0))), (3, AV.sl none 0 (ACap.fix 0))], [AObj.row 24 4 [AV.int .u64 a0, AV.int .u64 a1, AV.int .u64 a2, AV.int .u64 a3]]) = (envOf 52 [(1, AV.ptr (some (0, 0))), (3, AV.sl none 0 (ACap.fix 0))], [AObj.row 24 4 [AV.int .u64 ((↑v : Int) % 18446744073709551616), AV.int .u64 ((↑v : Int) / 18446744073709551616 % 18446744073709551616), AV.int .u64 ((↑v : Int) / 18446744073709551616 / 18446744073709551616 % 18446744073709551616), AV.int .u64 ((↑v : Int) / 18446744073709551616 / 18446744073709551616 / 18446744073709551616 % 18446744073709551616)]]) ∧ v ≠ 0 ∧ (envOf 52 [(3, AV.sl (some (1, 0)) (List.length (lsb v)) (ACap.rel 0)), (6, AV.int .i64 0), (7, AV.int .i64 (IntKind.wrap .i64 ((↑(List.length (lsb v)) : Int) - 1)))], [AObj.row 24 4 [AV.int .u64 0, AV.int .u64 0, AV.int .u64 0, AV.int .u64 0], AObj.row 5 1 (bv (lsb v))]) = (envOf 52 [(3, AV.sl (some (1, 0)) (List.length (lsb v)) (ACap.rel 0)), (6, AV.int .i64 0), (7, AV.int .i64 ((↑(List.length (lsb v)) : Int) - 1))], [AObj.row 24 4 [AV.int .u64 0, AV.int .u64 0, AV.int .u64 0, AV.int .u64 0], AObj.row 5 1 (bv (lsb v))]) ∧ 0 < List.length (lsb v) ∧ ∃ (l : List UInt8), strOf [AObj.row 24 4 [AV.int .u64 0, AV.int .u64 0, AV.int .u64 0, AV.int .u64 0], AObj.row 5 1 (bv (List.reverse (lsb v)))] 1 0 (List.length (lsb v)) = some l ∧ R (AV.str l) [AObj.row 24 4 [AV.int .u64 0, AV.int .u64 0, AV.int .u64 0, AV.int .u64 0], AObj.row 5 1 (bv (List.reverse (lsb v)))])) = (wpF Tryd.prog (C24 v) 80 pz24 [.agg [.int .u64 a0, .int .u64 a1, .int .u64 a2, .int .u64 a3]] [] R) := by kernel_rfl
theorem v9t (neg : Bool) (a0 a1 a2 a3 sc : Int) (R : AV → AHeap → Prop) : (∃ (n : Int), some (AV.int .i64 (if (decide (sc < 0) || decide (sc > 18) || neg && !nz4 a0 a1 a2 a3) = true then 20 else 0)) = some (AV.int .i64 n) ∧ askB (n != 0) (R (AV.str [63]) [AObj.row 26 6 [AV.bool neg, AV.int .u64 a0, AV.int .u64 a1, AV.int .u64 a2, AV.int .u64 a3, AV.int .i64 sc]]) (∃ (s : List UInt8), sText [AV.agg [AV.int .u64 a0, AV.int .u64 a1, AV.int .u64 a2, AV.int .u64 a3]] = some (AV.str s) ∧ askB (decide ((↑(List.length s) : Int) ≤ sc)) (∃ (s_1 : List UInt8), sRep [AV.str [48], AV.int .i64 (IntKind.wrap .i64 (IntKind.wrap .i64 (sc + 1) - (↑(List.length s) : Int)))] = some (AV.str s_1) ∧ chkW (decide (List.length s_1 + List.length s ≤ 9223372036854775807)) (askB (decide (sc > 0)) (chkW (decide (0 ≤ IntKind.wrap .i64 ((↑(List.length (s_1 ++ s)) : Int) - sc))) (chkW (decide (IntKind.wrap .i64 ((↑(List.length (s_1 ++ s)) : Int) - sc) ≤ (↑(List.length (s_1 ++ s)) : Int))) (chkW (decide (List.length (List.drop 0 (List.take (Int.toNat (IntKind.wrap .i64 ((↑(List.length (s_1 ++ s)) : Int) - sc))) (s_1 ++ s))) + List.length (Array.toList (ByteArray.data { data := #[46] })) ≤ 9223372036854775807)) (chkW (decide (0 ≤ IntKind.wrap .i64 ((↑(List.length (s_1 ++ s)) : Int) - sc))) (chkW (decide (IntKind.wrap .i64 ((↑(List.length (s_1 ++ s)) : Int) - sc) ≤ (↑(List.length (s_1 ++ s)) : Int))) (chkW (decide (List.length (List.drop 0 (List.take (Int.toNat (IntKind.wrap .i64 ((↑(List.length (s_1 ++ s)) : Int) - sc))) (s_1 ++ s)) ++ Array.toList (ByteArray.data { data := #[46] })) + List.length (List.drop (Int.toNat (IntKind.wrap .i64 ((↑(List.length (s_1 ++ s)) : Int) - sc))) (List.take (List.length (s_1 ++ s)) (s_1 ++ s))) ≤ 9223372036854775807)) (askB neg (chkW (decide (List.length (Array.toList (ByteArray.data { data := #[45] })) + List.length (List.drop 0 (List.take (Int.toNat (IntKind.wrap .i64 ((↑(List.length (s_1 ++ s)) : Int) - sc))) (s_1 ++ s)) ++ Array.toList (ByteArray.data { data := #[46] }) ++ List.drop (Int.toNat (IntKind.wrap .i64 ((↑(List.length (s_1 ++ s)) : Int) - sc))) (List.take (List.length (s_1 ++ s)) (s_1 ++ s))) ≤ 9223372036854775807)) (R (AV.str (Array.toList (ByteArray.data { data := #[45] }) ++ (List.drop 0 (List.take (Int.toNat (IntKind.wrap .i64 ((↑(List.length (s_1 ++ s)) : Int) - sc))) (s_1 ++ s)) ++ Array.toList (ByteArray.data { data := #[46] }) ++ List.drop (Int.toNat (IntKind.wrap .i64 ((↑(List.length (s_1 ++ s)) : Int) - sc))) (List.take (List.length (s_1 ++ s)) (s_1 ++ s))))) [AObj.row 26 6 [AV.bool neg, AV.int .u64 a0, AV.int .u64 a1, AV.int .u64 a2, AV.int .u64 a3, AV.int .i64 sc]])) (R (AV.str (List.drop 0 (List.take (Int.toNat (IntKind.wrap .i64 ((↑(List.length (s_1 ++ s)) : Int) - sc))) (s_1 ++ s)) ++ Array.toList (ByteArray.data { data := #[46] }) ++ List.drop (Int.toNat (IntKind.wrap .i64 ((↑(List.length (s_1 ++ s)) : Int) - sc))) (List.take (List.length (s_1 ++ s)) (s_1 ++ s)))) [AObj.row 26 6 [AV.bool neg, AV.int .u64 a0, AV.int .u64 a1, AV.int .u64 a2, AV.int .u64 a3, AV.int .i64 sc]])))))))) (askB neg (chkW (decide (List.length (Array.toList (ByteArray.data { data := #[45] })) + List.length (s_1 ++ s) ≤ 9223372036854775807)) (R (AV.str (Array.toList (ByteArray.data { data := #[45] }) ++ (s_1 ++ s))) [AObj.row 26 6 [AV.bool neg, AV.int .u64 a0, AV.int .u64 a1, AV.int .u64 a2, AV.int .u64 a3, AV.int .i64 sc]])) (R (AV.str (s_1 ++ s)) [AObj.row 26 6 [AV.bool neg, AV.int .u64 a0, AV.int .u64 a1, AV.int .u64 a2, AV.int .u64 a3, AV.int .i64 sc]])))) (askB (decide (sc > 0)) (chkW (decide (0 ≤ IntKind.wrap .i64 ((↑(List.length s) : Int) - sc))) (chkW (decide (IntKind.wrap .i64 ((↑(List.length s) : Int) - sc) ≤ (↑(List.length s) : Int))) (chkW (decide (List.length (List.drop 0 (List.take (Int.toNat (IntKind.wrap .i64 ((↑(List.length s) : Int) - sc))) s)) + List.length (Array.toList (ByteArray.data { data := #[46] })) ≤ 9223372036854775807)) (chkW (decide (0 ≤ IntKind.wrap .i64 ((↑(List.length s) : Int) - sc))) (chkW (decide (IntKind.wrap .i64 ((↑(List.length s) : Int) - sc) ≤ (↑(List.length s) : Int))) (chkW (decide (List.length (List.drop 0 (List.take (Int.toNat (IntKind.wrap .i64 ((↑(List.length s) : Int) - sc))) s) ++ Array.toList (ByteArray.data { data := #[46] })) + List.length (List.drop (Int.toNat (IntKind.wrap .i64 ((↑(List.length s) : Int) - sc))) (List.take (List.length s) s)) ≤ 9223372036854775807)) (askB neg (chkW (decide (List.length (Array.toList (ByteArray.data { data := #[45] })) + List.length (List.drop 0 (List.take (Int.toNat (IntKind.wrap .i64 ((↑(List.length s) : Int) - sc))) s) ++ Array.toList (ByteArray.data { data := #[46] }) ++ List.drop (Int.toNat (IntKind.wrap .i64 ((↑(List.length s) : Int) - sc))) (List.take (List.length s) s)) ≤ 9223372036854775807)) (R (AV.str (Array.toList (ByteArray.data { data := #[45] }) ++ (List.drop 0 (List.take (Int.toNat (IntKind.wrap .i64 ((↑(List.length s) : Int) - sc))) s) ++ Array.toList (ByteArray.data { data := #[46] }) ++ List.drop (Int.toNat (IntKind.wrap .i64 ((↑(List.length s) : Int) - sc))) (List.take (List.length s) s)))) [AObj.row 26 6 [AV.bool neg, AV.int .u64 a0, AV.int .u64 a1, AV.int .u64 a2, AV.int .u64 a3, AV.int .i64 sc]])) (R (AV.str (List.drop 0 (List.take (Int.toNat (IntKind.wrap .i64 ((↑(List.length s) : Int) - sc))) s) ++ Array.toList (ByteArray.data { data := #[46] }) ++ List.drop (Int.toNat (IntKind.wrap .i64 ((↑(List.length s) : Int) - sc))) (List.take (List.length s) s))) [AObj.row 26 6 [AV.bool neg, AV.int .u64 a0, AV.int .u64 a1, AV.int .u64 a2, AV.int .u64 a3, AV.int .i64 sc]])))))))) (askB neg (chkW (decide (List.length (Array.toList (ByteArray.data { data := #[45] })) + List.length s ≤ 9223372036854775807)) (R (AV.str (Array.toList (ByteArray.data { data := #[45] }) ++ s)) [AObj.row 26 6 [AV.bool neg, AV.int .u64 a0, AV.int .u64 a1, AV.int .u64 a2, AV.int .u64 a3, AV.int .i64 sc]])) (R (AV.str s) [AObj.row 26 6 [AV.bool neg, AV.int .u64 a0, AV.int .u64 a1, AV.int .u64 a2, AV.int .u64 a3, AV.int .i64 sc]]))))) = (wpF Tryd.prog (tbC Q tb9 (fun _ => false) kdU) 80 pz9 [.agg [.bool neg, .int .u64 a0, .int .u64 a1, .int .u64 a2, .int .u64 a3, .int .i64 sc]] [] R) := by kernel_rfl
theorem v10b (neg : Bool) (a0 a1 a2 a3 sc : Int) (s : List UInt8) (K : AExit → St → Prop) : (askB (decide ((↑(List.length s) : Int) ≤ sc)) (chkW (decide (List.length (Array.toList (ByteArray.data { data := #[48] })) + List.length s ≤ 9223372036854775807)) (K AExit.normal (envOf 41 [(1, AV.ptr (some (0, 0))), (3, AV.str (Array.toList (ByteArray.data { data := #[48] }) ++ s))], [AObj.row 26 6 [AV.bool neg, AV.int .u64 a0, AV.int .u64 a1, AV.int .u64 a2, AV.int .u64 a3, AV.int .i64 sc]]))) (K (AExit.exit 0) (envOf 41 [(1, AV.ptr (some (0, 0))), (3, AV.str s)], [AObj.row 26 6 [AV.bool neg, AV.int .u64 a0, AV.int .u64 a1, AV.int .u64 a2, AV.int .u64 a3, AV.int .i64 sc]]))) = (wpP Tryd.prog (tbC Q tb10 (fun _ => false) kdU) 60 (.inl pz10_l0) (q10 neg a0 a1 a2 a3 sc s) (postX (tbC Q tb10 (fun _ => false) kdU) t10 t10 t10 K)) := by kernel_rfl
theorem v10t (neg : Bool) (a0 a1 a2 a3 sc : Int) (R : AV → AHeap → Prop) : (∃ (n : Int), some (AV.int .i64 (if (decide (sc < 0) || decide (sc > 18) || neg && !nz4 a0 a1 a2 a3) = true then 20 else 0)) = some (AV.int .i64 n) ∧ askB (n != 0) (R (AV.str [63]) [AObj.row 26 6 [AV.bool neg, AV.int .u64 a0, AV.int .u64 a1, AV.int .u64 a2, AV.int .u64 a3, AV.int .i64 sc]]) (∃ (s : List UInt8), sText [AV.agg [AV.int .u64 a0, AV.int .u64 a1, AV.int .u64 a2, AV.int .u64 a3]] = some (AV.str s) ∧ ∃ (t : List UInt8), (envOf 41 [(1, AV.ptr (some (0, 0))), (3, AV.str s)], [AObj.row 26 6 [AV.bool neg, AV.int .u64 a0, AV.int .u64 a1, AV.int .u64 a2, AV.int .u64 a3, AV.int .i64 sc]]) = (envOf 41 [(1, AV.ptr (some (0, 0))), (3, AV.str t)], [AObj.row 26 6 [AV.bool neg, AV.int .u64 a0, AV.int .u64 a1, AV.int .u64 a2, AV.int .u64 a3, AV.int .i64 sc]]) ∧ List.length t ≤ 100 ∧ (0 ≤ sc ∧ sc ≤ 18) ∧ askB (decide (sc > 0)) (chkW (decide (0 ≤ IntKind.wrap .i64 ((↑(List.length (padD t (Int.toNat sc))) : Int) - sc))) (chkW (decide (IntKind.wrap .i64 ((↑(List.length (padD t (Int.toNat sc))) : Int) - sc) ≤ (↑(List.length (padD t (Int.toNat sc))) : Int))) (chkW (decide (List.length (List.drop 0 (List.take (Int.toNat (IntKind.wrap .i64 ((↑(List.length (padD t (Int.toNat sc))) : Int) - sc))) (padD t (Int.toNat sc)))) + List.length (Array.toList (ByteArray.data { data := #[46] })) ≤ 9223372036854775807)) (chkW (decide (0 ≤ IntKind.wrap .i64 ((↑(List.length (padD t (Int.toNat sc))) : Int) - sc))) (chkW (decide (IntKind.wrap .i64 ((↑(List.length (padD t (Int.toNat sc))) : Int) - sc) ≤ (↑(List.length (padD t (Int.toNat sc))) : Int))) (chkW (decide (List.length (List.drop 0 (List.take (Int.toNat (IntKind.wrap .i64 ((↑(List.length (padD t (Int.toNat sc))) : Int) - sc))) (padD t (Int.toNat sc))) ++ Array.toList (ByteArray.data { data := #[46] })) + List.length (List.drop (Int.toNat (IntKind.wrap .i64 ((↑(List.length (padD t (Int.toNat sc))) : Int) - sc))) (List.take (List.length (padD t (Int.toNat sc))) (padD t (Int.toNat sc)))) ≤ 9223372036854775807)) (askB neg (chkW (decide (List.length (Array.toList (ByteArray.data { data := #[45] })) + List.length (List.drop 0 (List.take (Int.toNat (IntKind.wrap .i64 ((↑(List.length (padD t (Int.toNat sc))) : Int) - sc))) (padD t (Int.toNat sc))) ++ Array.toList (ByteArray.data { data := #[46] }) ++ List.drop (Int.toNat (IntKind.wrap .i64 ((↑(List.length (padD t (Int.toNat sc))) : Int) - sc))) (List.take (List.length (padD t (Int.toNat sc))) (padD t (Int.toNat sc)))) ≤ 9223372036854775807)) (R (AV.str (Array.toList (ByteArray.data { data := #[45] }) ++ (List.drop 0 (List.take (Int.toNat (IntKind.wrap .i64 ((↑(List.length (padD t (Int.toNat sc))) : Int) - sc))) (padD t (Int.toNat sc))) ++ Array.toList (ByteArray.data { data := #[46] }) ++ List.drop (Int.toNat (IntKind.wrap .i64 ((↑(List.length (padD t (Int.toNat sc))) : Int) - sc))) (List.take (List.length (padD t (Int.toNat sc))) (padD t (Int.toNat sc)))))) [AObj.row 26 6 [AV.bool neg, AV.int .u64 a0, AV.int .u64 a1, AV.int .u64 a2, AV.int .u64 a3, AV.int .i64 sc]])) (R (AV.str (List.drop 0 (List.take (Int.toNat (IntKind.wrap .i64 ((↑(List.length (padD t (Int.toNat sc))) : Int) - sc))) (padD t (Int.toNat sc))) ++ Array.toList (ByteArray.data { data := #[46] }) ++ List.drop (Int.toNat (IntKind.wrap .i64 ((↑(List.length (padD t (Int.toNat sc))) : Int) - sc))) (List.take (List.length (padD t (Int.toNat sc))) (padD t (Int.toNat sc))))) [AObj.row 26 6 [AV.bool neg, AV.int .u64 a0, AV.int .u64 a1, AV.int .u64 a2, AV.int .u64 a3, AV.int .i64 sc]])))))))) (askB neg (chkW (decide (List.length (Array.toList (ByteArray.data { data := #[45] })) + List.length (padD t (Int.toNat sc)) ≤ 9223372036854775807)) (R (AV.str (Array.toList (ByteArray.data { data := #[45] }) ++ padD t (Int.toNat sc))) [AObj.row 26 6 [AV.bool neg, AV.int .u64 a0, AV.int .u64 a1, AV.int .u64 a2, AV.int .u64 a3, AV.int .i64 sc]])) (R (AV.str (padD t (Int.toNat sc))) [AObj.row 26 6 [AV.bool neg, AV.int .u64 a0, AV.int .u64 a1, AV.int .u64 a2, AV.int .u64 a3, AV.int .i64 sc]])))) = (wpF Tryd.prog (C10 neg a0 a1 a2 a3 sc) 80 pz10 [.agg [.bool neg, .int .u64 a0, .int .u64 a1, .int .u64 a2, .int .u64 a3, .int .i64 sc]] [] R) := by kernel_rfl
theorem v11t (neg : Bool) (a0 a1 a2 a3 sc : Int) (R : AV → AHeap → Prop) : (∃ (s : List UInt8), sTextD [AV.agg [AV.bool neg, AV.int .u64 a0, AV.int .u64 a1, AV.int .u64 a2, AV.int .u64 a3, AV.int .i64 sc]] = some (AV.str s) ∧ ∃ (n : Int), some (AV.int .i64 (Lib.indexByte s (Nat.toUInt8 46))) = some (AV.int .i64 n) ∧ askB (decide (n < 0)) (R (AV.str s) [AObj.row 26 6 [AV.bool neg, AV.int .u64 a0, AV.int .u64 a1, AV.int .u64 a2, AV.int .u64 a3, AV.int .i64 sc]]) (∃ (s_1 : List UInt8), sTrimR [AV.str s, AV.str [48]] = some (AV.str s_1) ∧ ∃ (s : List UInt8), sTrimS [AV.str s_1, AV.str [46]] = some (AV.str s) ∧ R (AV.str s) [AObj.row 26 6 [AV.bool neg, AV.int .u64 a0, AV.int .u64 a1, AV.int .u64 a2, AV.int .u64 a3, AV.int .i64 sc]])) = (wpF Tryd.prog (tbC Q tb11 (fun _ => false) kdU) 80 pz11 [.agg [.bool neg, .int .u64 a0, .int .u64 a1, .int .u64 a2, .int .u64 a3, .int .i64 sc]] [] R) := by kernel_rfl
theorem v12b (s : List UInt8) (K : AExit → St → Prop) : (chkW (decide (0 ≤ IntKind.wrap .i64 ((↑(List.length s) : Int) - 1))) (chkW (decide (Int.toNat (IntKind.wrap .i64 ((↑(List.length s) : Int) - 1)) < List.length s)) (askB ((↑(UInt8.toNat (List.getD s (Int.toNat (IntKind.wrap .i64 ((↑(List.length s) : Int) - 1))) 0)) : Int) == 48) (chkW (decide (0 ≤ IntKind.wrap .i64 ((↑(List.length s) : Int) - 1))) (chkW (decide (IntKind.wrap .i64 ((↑(List.length s) : Int) - 1) ≤ (↑(List.length s) : Int))) (K AExit.normal (envOf 37 [(3, AV.str (List.drop 0 (List.take (Int.toNat (IntKind.wrap .i64 ((↑(List.length s) : Int) - 1))) s)))], [])))) (K (AExit.exit 0) (envOf 37 [(3, AV.str s)], []))))) = (wpP Tryd.prog (tbC Q tb12 (fun _ => false) kdU) 60 (.inl pz12_l0) (q12 s) (postX (tbC Q tb12 (fun _ => false) kdU) t12t t12t t12t K)) := by kernel_rfl
theorem v12t (neg : Bool) (a0 a1 a2 a3 sc : Int) (R : AV → AHeap → Prop) : (∃ (s : List UInt8), sTextD [AV.agg [AV.bool neg, AV.int .u64 a0, AV.int .u64 a1, AV.int .u64 a2, AV.int .u64 a3, AV.int .i64 sc]] = some (AV.str s) ∧ askB (s == [63]) (R (AV.str s) [AObj.row 26 6 [AV.bool neg, AV.int .u64 a0, AV.int .u64 a1, AV.int .u64 a2, AV.int .u64 a3, AV.int .i64 sc]]) (askB (sc == 0) (R (AV.str s) [AObj.row 26 6 [AV.bool neg, AV.int .u64 a0, AV.int .u64 a1, AV.int .u64 a2, AV.int .u64 a3, AV.int .i64 sc]]) (∃ (t : List UInt8), (envOf 37 [(3, AV.str s)], ([] : AHeap)) = (envOf 37 [(3, AV.str t)], []) ∧ (0 < List.length (Lib.trimRightB t 48) ∧ List.length t ≤ 1000) ∧ chkW (decide (0 ≤ IntKind.wrap .i64 ((↑(List.length (Lib.trimRightB t 48)) : Int) - 1))) (chkW (decide (Int.toNat (IntKind.wrap .i64 ((↑(List.length (Lib.trimRightB t 48)) : Int) - 1)) < List.length (Lib.trimRightB t 48))) (askB ((↑(UInt8.toNat (List.getD (Lib.trimRightB t 48) (Int.toNat (IntKind.wrap .i64 ((↑(List.length (Lib.trimRightB t 48)) : Int) - 1))) 0)) : Int) == 46) (chkW (decide (0 ≤ IntKind.wrap .i64 ((↑(List.length (Lib.trimRightB t 48)) : Int) - 1))) (chkW (decide (IntKind.wrap .i64 ((↑(List.length (Lib.trimRightB t 48)) : Int) - 1) ≤ (↑(List.length (Lib.trimRightB t 48)) : Int))) (R (AV.str (List.drop 0 (List.take (Int.toNat (IntKind.wrap .i64 ((↑(List.length (Lib.trimRightB t 48)) : Int) - 1))) (Lib.trimRightB t 48)))) []))) (R (AV.str (Lib.trimRightB t 48)) [])))))) = (wpF Tryd.prog C12 80 pz12 [.agg [.bool neg, .int .u64 a0, .int .u64 a1, .int .u64 a2, .int .u64 a3, .int .i64 sc]] [] R) := by kernel_rfl
theorem v19t (neg : Bool) (a0 a1 a2 a3 sc : Int) (R : AV → AHeap → Prop) : (askB (decide (sc < 0)) (R (AV.int .i64 20) [AObj.row 26 6 [AV.bool neg, AV.int .u64 a0, AV.int .u64 a1, AV.int .u64 a2, AV.int .u64 a3, AV.int .i64 sc]]) (askB (decide (sc > 18)) (R (AV.int .i64 20) [AObj.row 26 6 [AV.bool neg, AV.int .u64 a0, AV.int .u64 a1, AV.int .u64 a2, AV.int .u64 a3, AV.int .i64 sc]]) (askB neg (askB (a0 == 0 && (a1 == 0 && (a2 == 0 && (a3 == 0 && true)))) (R (AV.int .i64 20) [AObj.row 26 6 [AV.bool neg, AV.int .u64 a0, AV.int .u64 a1, AV.int .u64 a2, AV.int .u64 a3, AV.int .i64 sc]]) (R (AV.int .i64 0) [AObj.row 26 6 [AV.bool neg, AV.int .u64 a0, AV.int .u64 a1, AV.int .u64 a2, AV.int .u64 a3, AV.int .i64 sc]])) (R (AV.int .i64 0) [AObj.row 26 6 [AV.bool neg, AV.int .u64 a0, AV.int .u64 a1, AV.int .u64 a2, AV.int .u64 a3, AV.int .i64 sc]])))) = (wpF Tryd.prog (tbC Q [] (fun _ => false) kdU) 80 pz19 [.agg [.bool neg, .int .u64 a0, .int .u64 a1, .int .u64 a2, .int .u64 a3, .int .i64 sc]] [] R) := by kernel_rfl
theorem v3t (neg : Bool) (a0 a1 a2 a3 sc : Int) (R : AV → AHeap → Prop) : (∃ (b : Bool), TbE.s { f := 8, s := sLive, r := Rs.of (Rs1.one K1.bool) } [] [AObj.row 26 6 [AV.bool neg, AV.int .u64 a0, AV.int .u64 a1, AV.int .u64 a2, AV.int .u64 a3, AV.int .i64 sc]] = some (AV.bool b) ∧ askB b (∃ (s : List UInt8), sTextD [AV.agg [AV.bool neg, AV.int .u64 a0, AV.int .u64 a1, AV.int .u64 a2, AV.int .u64 a3, AV.int .i64 sc]] = some (AV.str s) ∧ ∃ (s_1 : List UInt8), sTextD [AV.agg [AV.bool neg, AV.int .u64 a0, AV.int .u64 a1, AV.int .u64 a2, AV.int .u64 a3, AV.int .i64 sc]] = some (AV.str s_1) ∧ askB (s == s_1) (∃ (s : List UInt8), sShortD [AV.agg [AV.bool neg, AV.int .u64 a0, AV.int .u64 a1, AV.int .u64 a2, AV.int .u64 a3, AV.int .i64 sc]] = some (AV.str s) ∧ ∃ (s_2 : List UInt8), sShortD [AV.agg [AV.bool neg, AV.int .u64 a0, AV.int .u64 a1, AV.int .u64 a2, AV.int .u64 a3, AV.int .i64 sc]] = some (AV.str s_2) ∧ askB (s == s_2) (R (AV.bool true) [AObj.row 26 6 [AV.bool neg, AV.int .u64 a0, AV.int .u64 a1, AV.int .u64 a2, AV.int .u64 a3, AV.int .i64 sc]]) (R (AV.bool false) [AObj.row 26 6 [AV.bool neg, AV.int .u64 a0, AV.int .u64 a1, AV.int .u64 a2, AV.int .u64 a3, AV.int .i64 sc]])) (R (AV.bool false) [AObj.row 26 6 [AV.bool neg, AV.int .u64 a0, AV.int .u64 a1, AV.int .u64 a2, AV.int .u64 a3, AV.int .i64 sc]])) (R (AV.bool false) [AObj.row 26 6 [AV.bool neg, AV.int .u64 a0, AV.int .u64 a1, AV.int .u64 a2, AV.int .u64 a3, AV.int .i64 sc]])) = (wpF Tryd.prog (tbC Q tb3t (fun _ => false) kdU) 80 pz3 [.agg [.bool neg, .int .u64 a0, .int .u64 a1, .int .u64 a2, .int .u64 a3, .int .i64 sc]] [] R) := by kernel_rfl
theorem s_or {x y : Int} (h0 : 0 ≤ x) (h1 : x < 4294967296) (h2 : 0 ≤ y) (h3 : y < 4294967296) : IntKind.wrap .u64 (↑(BitVec.toNat (BitVec.ofInt (IntKind.bits .u64) (IntKind.wrap .u64 (x * 2 ^ min 32 (IntKind.bits .u64))) ||| BitVec.ofInt (IntKind.bits .u64) y)) : Int) = x * 4294967296 + y := by
  have e : IntKind.wrap .u64 (x * 2 ^ min 32 (IntKind.bits .u64)) = x * 4294967296 := by
    show IntKind.wrap .u64 (x * 4294967296) = _
    rw [IntKind.wrap_u64]; omega
  rw [e, or32 h0 h1 h2 h3]
theorem s_or0 {y : Int} (h2 : 0 ≤ y) (h3 : y < 4294967296) : IntKind.wrap .u64 (↑(BitVec.toNat (BitVec.ofInt (IntKind.bits .u64) 0 ||| BitVec.ofInt (IntKind.bits .u64) y)) : Int) = y := by
  have := or32 (x := 0) (y := y) (by decide) (by decide) h2 h3
  rw [Int.zero_mul, Int.zero_add] at this
  exact this
theorem s_div {x : Int} (h0 : 0 ≤ x) (h1 : x < 18446744073709551616) : IntKind.wrap .u64 (Int.tdiv x 10) = x / 10 := by
  rw [Int.tdiv_eq_ediv_of_nonneg h0, IntKind.wrap_u64]; omega
theorem s_mod' {x : Int} (h0 : 0 ≤ x) : Int.tmod x 10 = x % 10 := Int.tmod_eq_emod_of_nonneg h0
theorem p32 : (2 : Int) ^ min 32 (IntKind.bits .u64) = 4294967296 := rfl
theorem p0 : (2 : Int) ^ min 0 (IntKind.bits .u64) = 1 := rfl
/-- One limb. -/
theorem limb_div {r a : Int} (hr : 0 ≤ r) (hr2 : r < 10) (h0 : 0 ≤ a) (h1 : a < 18446744073709551616) : (r * 4294967296 + a / 4294967296 % 4294967296) / 10 * 4294967296 + ((r * 4294967296 + a / 4294967296 % 4294967296) % 10 * 4294967296 + a % 4294967296) / 10 = (r * 18446744073709551616 + a) / 10 ∧ ((r * 4294967296 + a / 4294967296 % 4294967296) % 10 * 4294967296 + a % 4294967296) % 10 = (r * 18446744073709551616 + a) % 10 := by
  have e : a / 4294967296 % 4294967296 = a / 4294967296 := by omega
  rw [e]
  obtain ⟨x, hx⟩ : ∃ x, x = a / 4294967296 := ⟨_, rfl⟩
  obtain ⟨y, hy⟩ : ∃ y, y = a % 4294967296 := ⟨_, rfl⟩
  rw [← hx, ← hy]
  have ha : a = x * 4294967296 + y := by omega
  have : 0 ≤ y ∧ y < 4294967296 ∧ 0 ≤ x ∧ x < 4294967296 := by omega
  clear hx hy
  subst ha
  omega
theorem num_div {a0 a1 a2 a3 : Int} (h0 : 0 ≤ a0) (g0 : a0 < 18446744073709551616) (h1 : 0 ≤ a1) (g1 : a1 < 18446744073709551616) (h2 : 0 ≤ a2) (g2 : a2 < 18446744073709551616) (h3 : 0 ≤ a3) (g3 : a3 < 18446744073709551616) :
    ∃ q3 q2 q1 q0 r3 r2 r1 r0 : Int, q3 = a3 / 10 ∧ r3 = a3 % 10 ∧ q2 = (r3 * 18446744073709551616 + a2) / 10 ∧ r2 = (r3 * 18446744073709551616 + a2) % 10 ∧ q1 = (r2 * 18446744073709551616 + a1) / 10 ∧ r1 = (r2 * 18446744073709551616 + a1) % 10 ∧ q0 = (r1 * 18446744073709551616 + a0) / 10 ∧ r0 = (r1 * 18446744073709551616 + a0) % 10 ∧
    limbs (num4 a0 a1 a2 a3 / 10) = [.int .u64 q0, .int .u64 q1, .int .u64 q2, .int .u64 q3] ∧ num4 a0 a1 a2 a3 % 10 = r0 := by
  refine ⟨_, _, _, _, _, _, _, _, rfl, rfl, rfl, rfl, rfl, rfl, rfl, rfl, ?_⟩
  obtain ⟨q3, e3⟩ : ∃ q, q = a3 / 10 := ⟨_, rfl⟩
  obtain ⟨r3, f3⟩ : ∃ q, q = a3 % 10 := ⟨_, rfl⟩
  rw [← e3, ← f3]
  obtain ⟨q2, e2⟩ : ∃ q, q = (r3 * 18446744073709551616 + a2) / 10 := ⟨_, rfl⟩
  obtain ⟨r2, f2⟩ : ∃ q, q = (r3 * 18446744073709551616 + a2) % 10 := ⟨_, rfl⟩
  rw [← e2, ← f2]
  obtain ⟨q1, e1⟩ : ∃ q, q = (r2 * 18446744073709551616 + a1) / 10 := ⟨_, rfl⟩
  obtain ⟨r1, f1⟩ : ∃ q, q = (r2 * 18446744073709551616 + a1) % 10 := ⟨_, rfl⟩
  rw [← e1, ← f1]
  obtain ⟨q0, e0⟩ : ∃ q, q = (r1 * 18446744073709551616 + a0) / 10 := ⟨_, rfl⟩
  obtain ⟨r0, f0⟩ : ∃ q, q = (r1 * 18446744073709551616 + a0) % 10 := ⟨_, rfl⟩
  rw [← e0, ← f0]
  have c3 : a3 = 10 * q3 + r3 := by omega
  have c2 : r3 * 18446744073709551616 + a2 = 10 * q2 + r2 := by omega
  have c1 : r2 * 18446744073709551616 + a1 = 10 * q1 + r1 := by omega
  have c0 : r1 * 18446744073709551616 + a0 = 10 * q0 + r0 := by omega
  have b3 : 0 ≤ r3 ∧ r3 < 10 := by omega
  have b2 : 0 ≤ r2 ∧ r2 < 10 := by omega
  have b1 : 0 ≤ r1 ∧ r1 < 10 := by omega
  have b0 : 0 ≤ r0 ∧ r0 < 10 := by omega
  have d3 : 0 ≤ q3 ∧ q3 < 18446744073709551616 := by omega
  have d2 : 0 ≤ q2 ∧ q2 < 18446744073709551616 := by omega
  have d1 : 0 ≤ q1 ∧ q1 < 18446744073709551616 := by omega
  have d0 : 0 ≤ q0 ∧ q0 < 18446744073709551616 := by omega
  clear e3 f3 e2 f2 e1 f1 e0 f0 h0 g0 h1 g1 h2 g2 h3 g3
  have hN : num4 a0 a1 a2 a3 = 10 * num4 q0 q1 q2 q3 + r0 := by unfold num4; omega
  have hq : num4 a0 a1 a2 a3 / 10 = num4 q0 q1 q2 q3 := by omega
  refine ⟨?_, by omega⟩
  rw [hq, ← (limbs_num (a0 := q0) (a1 := q1) (a2 := q2) (a3 := q3) (by simp only [u64s, u64B, Bool.and_eq_true, decide_eq_true_eq]; omega)).1]
theorem small43_ok : QuietOK Tryd.prog 43 fun vs _ => sSmall vs := quiet_plain htz43 fun args v h => by
  unfold sSmall at h
  split at h
  · rename_i a0 a1 a2 a3 b
    split at h
    · rename_i hs
      cases h
      refine ⟨rfl, rfl, ?_⟩
      obtain ⟨hs, rfl⟩ := hs
      have hS : (tbS Q []).OK Tryd.prog := tbS_ok quietText (by simp)
      obtain ⟨u, h', rfl, hsem⟩ := sem_vc mixed (C := C0t) hS (tbS_q _ _) (tbW_ok rfl) htz43 cz43 (fun x _ => part_none (fun _ => rfl) (fun _ => rfl) x) (v43t a0 a1 a2 a3 fun u _ => u = .tup [.agg (limbs (num4 a0 a1 a2 a3 / 10)), .int .u64 (num4 a0 a1 a2 a3 % 10)]) (by
        simp only [u64s, u64B, Bool.and_eq_true, decide_eq_true_eq] at hs
        obtain ⟨⟨⟨⟨h0, g0⟩, h1, g1⟩, h2, g2⟩, h3, g3⟩ := hs
        obtain ⟨q3, q2, q1, q0, r3, r2, r1, r0, e3, f3, e2, f2, e1, f1, e0, f0, hL, hM⟩ := num_div h0 g0 h1 g1 h2 g2 h3 g3
        rw [hL, hM]
        simp (disch := omega) only [fdiv32, fdiv0, and32, s_or0, s_div, s_mod', s_or, wrap64]
        have l3 := limb_div (r := 0) (a := a3) (by decide) (by decide) h3 g3
        simp only [Int.zero_mul, Int.zero_add] at l3
        rw [l3.1, l3.2, ← e3, ← f3]
        have l2 := limb_div (r := r3) (a := a2) (by omega) (by omega) h2 g2
        rw [l2.1, l2.2, ← e2, ← f2]
        have l1 := limb_div (r := r2) (a := a1) (by omega) (by omega) h1 g1
        rw [l1.1, l1.2, ← e1, ← f1]
        have l0 := limb_div (r := r1) (a := a0) (by omega) (by omega) h0 g0
        rw [l0.1, l0.2, ← e0, ← f0])
      exact ⟨h', hsem⟩
    · cases h
  · cases h
theorem half_at' {a0 a1 a2 a3 : Int} (h : u64s a0 a1 a2 a3 = true) (i : Nat) (hi : i < 8) : sHalfR [.agg [.int .u64 a0, .int .u64 a1, .int .u64 a2, .int .u64 a3], .int .i64 (i : Int)] = some (.int .u64 (d32 a0 a1 a2 a3 i)) := by
  unfold sHalfR
  simp only [h, Bool.true_and]
  rw [if_pos (by simp only [Bool.and_eq_true, decide_eq_true_eq]; omega), Int.toNat_natCast]
theorem s_div' {x : Int} (h0 : 0 ≤ x) : Int.tdiv x 10 = x / 10 := Int.tdiv_eq_ediv_of_nonneg h0
theorem small50_ok : QuietOK Tryd.prog 50 fun vs _ => sSmall vs := quiet_plain htz50 fun args v h => by
  unfold sSmall at h
  split at h
  · rename_i a0 a1 a2 a3 b
    split at h
    · rename_i hs
      cases h
      refine ⟨rfl, rfl, ?_⟩
      obtain ⟨hs, rfl⟩ := hs
      have hS : (tbS Q tb50).OK Tryd.prog := tbS_ok quietText (by
        intro x hx
        simp only [tb50, List.mem_cons, List.not_mem_nil, or_false] at hx
        subst hx
        exact halfR_ok)
      obtain ⟨u, h', rfl, hsem⟩ := sem_vc mixed (C := tbC Q tb50 (fun _ => false) kdU) hS (tbS_q _ _) (tbW_ok rfl) htz50 cz50 (fun x _ => part_none (fun _ => rfl) (fun _ => rfl) x) (v50t a0 a1 a2 a3 fun u _ => u = .tup [.agg (limbs (num4 a0 a1 a2 a3 / 10)), .int .u64 (num4 a0 a1 a2 a3 % 10)]) (by
        refine ⟨_, half_at' hs 7 (by decide), _, half_at' hs 6 (by decide), _, half_at' hs 5 (by decide), _, half_at' hs 4 (by decide), _, half_at' hs 3 (by decide), _, half_at' hs 2 (by decide), _, half_at' hs 1 (by decide), _, half_at' hs 0 (by decide), ?_⟩
        simp only [u64s, u64B, Bool.and_eq_true, decide_eq_true_eq] at hs
        obtain ⟨⟨⟨⟨h0, g0⟩, h1, g1⟩, h2, g2⟩, h3, g3⟩ := hs
        obtain ⟨q3, q2, q1, q0, r3, r2, r1, r0, e3, f3, e2, f2, e1, f1, e0, f0, hL, hM⟩ := num_div h0 g0 h1 g1 h2 g2 h3 g3
        rw [hL, hM]
        have k3 : a3 / 4294967296 % 4294967296 = a3 / 4294967296 := by omega
        have k2 : a2 / 4294967296 % 4294967296 = a2 / 4294967296 := by omega
        have k1 : a1 / 4294967296 % 4294967296 = a1 / 4294967296 := by omega
        have k0 : a0 / 4294967296 % 4294967296 = a0 / 4294967296 := by omega
        simp only [d32, p32, p0, Int.mul_one, Int.zero_add]
        simp (disch := omega) only [s_div', s_mod', wrap64]
        have l3 := limb_div (r := 0) (a := a3) (by decide) (by decide) h3 g3
        simp only [Int.zero_mul, Int.zero_add, k3] at l3
        rw [l3.1, l3.2, ← e3, ← f3]
        have l2 := limb_div (r := r3) (a := a2) (by omega) (by omega) h2 g2
        rw [k2] at l2
        rw [l2.1, l2.2, ← e2, ← f2]
        have l1 := limb_div (r := r2) (a := a1) (by omega) (by omega) h1 g1
        rw [k1] at l1
        rw [l1.1, l1.2, ← e1, ← f1]
        have l0 := limb_div (r := r1) (a := a0) (by omega) (by omega) h0 g0
        rw [k0] at l0
        rw [l0.1, l0.2, ← e0, ← f0])
      exact ⟨h', hsem⟩
    · cases h
  · cases h
theorem small_at {u : Int} (h0 : 0 ≤ u) (h1 : u < 115792089237316195423570985008687907853269984665640564039457584007913129639936) : sSmall [.agg [.int .u64 (u % 18446744073709551616), .int .u64 (u / 18446744073709551616 % 18446744073709551616), .int .u64 (u / 18446744073709551616 / 18446744073709551616 % 18446744073709551616), .int .u64 (u / 18446744073709551616 / 18446744073709551616 / 18446744073709551616 % 18446744073709551616)], .int .u64 10] = some (.tup [.agg (limbs (u / 10)), .int .u64 (u % 10)]) := by
  unfold sSmall
  simp only [u64_limbs, num_limbs h0 h1]
  rfl
theorem c80_len {acc : List UInt8} (h : acc.length ≤ 80) : (c80 acc).length = 80 := by
  unfold c80
  rw [List.length_append, List.length_replicate, bv_len]; omega
theorem c80_closed (acc : List UInt8) : (c80 acc).all AV.closed = true := by
  rw [List.all_eq_true]
  intro x hx
  rcases List.mem_append.1 hx with hx | hx
  · rw [List.eq_of_mem_replicate hx]; rfl
  · obtain ⟨c, _, rfl⟩ := List.mem_map.1 hx
    rfl
theorem c80_put {acc : List UInt8} (h : acc.length < 80) (c : UInt8) : spliceA (c80 acc) (79 - acc.length) [.int .u8 c.toNat] = c80 (c :: acc) := by
  unfold spliceA c80
  have e1 : 80 - acc.length = (79 - acc.length) + 1 := by omega
  have e2 : 80 - (c :: acc).length = 79 - acc.length := by simp only [List.length_cons]; omega
  rw [e2, e1, List.take_append_of_le_length (by rw [List.length_replicate]; omega), List.take_replicate, Nat.min_eq_left (by omega)]
  have e3 : (List.replicate (79 - acc.length + 1) (AV.int .u8 0) ++ bv acc).drop (79 - acc.length + [AV.int .u8 (c.toNat : Int)].length) = bv acc := by
    rw [List.drop_append_of_le_length (by rw [List.length_replicate]; simp), List.drop_replicate]
    simp
  rw [e3, List.append_assoc]
  rfl
theorem c80_take {acc : List UInt8} (h : acc.length ≤ 80) : (c80 acc).drop (80 - acc.length) = bv acc := by
  unfold c80
  rw [List.drop_append_of_le_length (by rw [List.length_replicate]; omega), List.drop_replicate]
  simp
theorem bv_isInt (l : List UInt8) : List.all (bv l) (isInt .u8) = true := by
  rw [List.all_eq_true]
  intro x hx
  obtain ⟨c, _, rfl⟩ := List.mem_map.1 hx
  have := c.toNat_lt
  simp only [isInt, beq_self_eq_true, Bool.true_and, Bool.and_eq_true, decide_eq_true_eq]
theorem bytes_bv (l : List UInt8) : bytesOf (bv l) = l := by
  have h := bytesOf_ok _ (bv_isInt l)
  rw [bv_back] at h
  exact (Option.some.inj h).symm
theorem nz_nat {q : Nat} (h : q < 115792089237316195423570985008687907853269984665640564039457584007913129639936) : (!(((q : Int) % 18446744073709551616) == 0 && (((q : Int) / 18446744073709551616 % 18446744073709551616) == 0 && (((q : Int) / 18446744073709551616 / 18446744073709551616 % 18446744073709551616) == 0 && (((q : Int) / 18446744073709551616 / 18446744073709551616 / 18446744073709551616 % 18446744073709551616) == 0 && true))))) = decide (q ≠ 0) := by
  have := nz_limbs (x := (q : Int)) (by omega) (by omega)
  unfold nz4 at this
  rw [this]
  congr 1
  simp only [ne_eq, eq_iff_iff]
  omega
theorem chr10 (d : Nat) : IntKind.wrap .u8 (IntKind.wrap .u64 (48 + ((d : Int) % 10))) = (((48 + d % 10).toUInt8.toNat : Nat) : Int) := by
  have h := dig_u8 (d % 10) (by omega)
  rw [h, IntKind.wrap_u64, IntKind.wrap_u8]; omega
theorem small_nat {u : Nat} (h : u < 115792089237316195423570985008687907853269984665640564039457584007913129639936) : sSmall [.agg [.int .u64 ((u : Int) % 18446744073709551616), .int .u64 ((u : Int) / 18446744073709551616 % 18446744073709551616), .int .u64 ((u : Int) / 18446744073709551616 / 18446744073709551616 % 18446744073709551616), .int .u64 ((u : Int) / 18446744073709551616 / 18446744073709551616 / 18446744073709551616 % 18446744073709551616)], .int .u64 10] = some (.tup [.agg [.int .u64 (((u / 10 : Nat) : Int) % 18446744073709551616), .int .u64 (((u / 10 : Nat) : Int) / 18446744073709551616 % 18446744073709551616), .int .u64 (((u / 10 : Nat) : Int) / 18446744073709551616 / 18446744073709551616 % 18446744073709551616), .int .u64 (((u / 10 : Nat) : Int) / 18446744073709551616 / 18446744073709551616 / 18446744073709551616 % 18446744073709551616)], .int .u64 ((u : Int) % 10)]) := by
  have hS := small_at (u := (u : Int)) (by omega) (by omega)
  have hd : ((u : Int) / 10) = ((u / 10 : Nat) : Int) := by omega
  rw [hd] at hS
  exact hS
/-- One digit more. -/
theorem text_step {v u : Nat} {acc : List UInt8} (h1 : u ≠ 0) (h2 : (lsb u).reverse ++ acc = textN v) : (lsb (u / 10)).reverse ++ (48 + u % 10).toUInt8 :: acc = textN v := by
  rw [← h2, lsb_pos h1]; simp
theorem tb22_ok : (tbS Q tb22).OK Tryd.prog := tbS_ok quietText (by
  intro x hx
  simp only [tb22, List.mem_cons, List.not_mem_nil, or_false] at hx
  subst hx
  exact small43_ok)
theorem gotos22 (v : Nat) : ∀ m, PartOK Tryd.prog { C22 with gw := G22 v m } (.scope sc22) := by
  have hcw : CwOK C22.S C22.cw := tbW_ok (Q := Q) (l := tb22) rfl
  refine part_gotos (P := Tryd.prog) (C := C22) hcw (a := sc22) (by
    have e : partsIn sc22 = [] := rfl
    rw [e]; intro x hx; cases hx) (G22 v) ?_
  intro m l T r st K hT hf ht
  unfold G22 at hT
  split at hT
  · rename_i hl
    subst hl
    cases hT
    obtain ⟨u, acc, rfl, ⟨h1, h2, h3, h4, h5, h6⟩, hk⟩ := ht
    have hr : r = (findP sc22 0).getD .skip := by rw [hf]; rfl
    subst hr
    have hL := congrArg List.length (lsb_pos h1)
    rw [List.length_cons] at hL
    refine ⟨u, 80, h6, ?_⟩
    have hv := v22t_0 v u (u : Int) (80 - (acc.length : Int)) (c80 acc) K
    refine Eq.subst (motive := fun p => p) hv ?_
    clear hv
    have w1 : IntKind.wrap .i64 (80 - (acc.length : Int) - 1) = ((79 - acc.length : Nat) : Int) := by rw [IntKind.wrap_i64]; omega
    refine ⟨((u / 10 : Nat) : Int) % 18446744073709551616, ((u / 10 : Nat) : Int) / 18446744073709551616 % 18446744073709551616, ((u / 10 : Nat) : Int) / 18446744073709551616 / 18446744073709551616 % 18446744073709551616, ((u / 10 : Nat) : Int) / 18446744073709551616 / 18446744073709551616 / 18446744073709551616 % 18446744073709551616, (u : Int) % 10, by (try dsimp only); exact small_nat (by omega), ?_⟩
    rw [w1, nz_nat (by omega), chr10 u, Int.toNat_natCast, Nat.mul_one, Nat.zero_add]
    have hput := c80_put (acc := acc) (by omega) (48 + u % 10).toUInt8
    refine chkI (decide_eq_true (by omega)) (chkI (decide_eq_true (by omega)) ⟨64, 80, c80 acc, rfl, chkI (decide_eq_true (by rw [c80_len (by omega)]; omega)) ?_⟩)
    have hput' : spliceA (c80 acc) (79 - acc.length) (AV.cells (.int .u8 (((48 + u % 10).toUInt8.toNat : Nat) : Int))) = c80 ((48 + u % 10).toUInt8 :: acc) := hput
    rw [hput']
    have hcl : objClosed (.row 64 80 (c80 ((48 + u % 10).toUInt8 :: acc))) = true := closedL (c80_closed _)
    have hst := text_step (v := v) h1 h2
    refine askI (fun g => ?_) fun g => ?_
    · simp only [decide_eq_true_eq] at g
      refine chkI hcl ⟨u / 10, (48 + u % 10).toUInt8 :: acc, ?_, ⟨g, hst, by simp only [List.length_cons]; omega, by simp, by omega, by omega⟩, hk⟩
      have e : ((79 - acc.length : Nat) : Int) = 80 - (((48 + u % 10).toUInt8 :: acc).length : Int) := by simp only [List.length_cons]; omega
      rw [e]
    · simp only [decide_eq_false_iff_not, ne_eq, Decidable.not_not] at g
      rw [g, lsb_zero] at hst
      have hst' : (48 + u % 10).toUInt8 :: acc = textN v := hst
      rw [hst']
      have hlen : (textN v).length = acc.length + 1 := by rw [← hst']; rfl
      have e80 : 79 - acc.length = 80 - (textN v).length := by omega
      have e81 : 80 - (80 - (textN v).length) = (textN v).length := by omega
      have e82 : ¬ (80 - (textN v).length = 80) := by omega
      have e83 : ((80 - (textN v).length : Nat) : Int) = 80 - ((textN v).length : Int) := by omega
      have e84 : (80 - ((textN v).length : Int)).toNat = 80 - (textN v).length := by omega
      have htk : List.take (textN v).length (List.drop (80 - (textN v).length) (c80 (textN v))) = bv (textN v) := by
        rw [c80_take (by omega), List.take_of_length_le (by rw [bv_len]; exact Nat.le_refl _)]
      rw [e80, e81, if_neg e82, htk, bytes_bv, e83]
      refine chkI (by rw [← hst']; exact hcl) (chkI (decide_eq_true (by omega)) (chkI (decide_eq_true (by omega)) (chkI (decide_eq_true (by rw [c80_len (by omega)]; omega)) (chkI (bv_isInt _) ?_))))
      have hk2 : K .ret (e22 (80 - ((textN v).length : Int)) (textN v).length (textN v) (c80 (textN v))) := hk
      unfold e22 at hk2
      rw [e84] at hk2
      exact hk2
  · cases hT
theorem num_nat {a0 a1 a2 a3 : Int} (h : u64s a0 a1 a2 a3 = true) : ∃ v : Nat, v < 115792089237316195423570985008687907853269984665640564039457584007913129639936 ∧ (num4 a0 a1 a2 a3).toNat = v ∧ num4 a0 a1 a2 a3 = v ∧ ([.int .u64 a0, .int .u64 a1, .int .u64 a2, .int .u64 a3] : List AV) = limbs (v : Int) := by
  obtain ⟨e, h0, h1⟩ := limbs_num h
  refine ⟨(num4 a0 a1 a2 a3).toNat, by omega, rfl, by omega, ?_⟩
  rw [e, Int.toNat_of_nonneg h0]
theorem limbs_eq {a0 a1 a2 a3 : Int} {v : Nat} (h : ([.int .u64 a0, .int .u64 a1, .int .u64 a2, .int .u64 a3] : List AV) = limbs (v : Int)) : a0 = (v : Int) % 18446744073709551616 ∧ a1 = (v : Int) / 18446744073709551616 % 18446744073709551616 ∧ a2 = (v : Int) / 18446744073709551616 / 18446744073709551616 % 18446744073709551616 ∧ a3 = (v : Int) / 18446744073709551616 / 18446744073709551616 / 18446744073709551616 % 18446744073709551616 := by
  unfold limbs at h
  simpa using h
theorem text22_ok : QuietOK Tryd.prog 22 fun vs _ => sText vs := quiet_plain htz22 fun args v h => by
  unfold sText at h
  split at h
  · rename_i a0 a1 a2 a3
    split at h
    · rename_i hs
      cases h
      refine ⟨rfl, rfl, ?_⟩
      obtain ⟨v, hv, e1, e2, e3⟩ := num_nat hs
      rw [e1]
      obtain ⟨rfl, rfl, rfl, rfl⟩ := limbs_eq e3
      clear e1 e2 e3 hs
      obtain ⟨w, h', rfl, hsem⟩ := sem_vc mixed (C := { C22 with gw := G22 v (v + 1) }) tb22_ok (tbS_q _ _) (tbW_ok rfl) htz22 cz22 (fun x hx => by
        have e : partsIn pz22.body = [.scope sc22] := rfl
        rw [e, List.mem_singleton] at hx
        subst hx
        exact gotos22 v (v + 1)) (v22t _ _ _ _ v (v + 1) fun u _ => u = .str (textN v)) (by
        have hput := c80_put (acc := []) (by decide) (48 + v % 10).toUInt8
        have hput' : spliceA (c80 []) 79 (AV.cells (.int .u8 (((48 + v % 10).toUInt8.toNat : Nat) : Int))) = c80 [(48 + v % 10).toUInt8] := hput
        have hcl : objClosed (.row 64 80 (c80 [(48 + v % 10).toUInt8])) = true := closedL (c80_closed _)
        refine ⟨((v / 10 : Nat) : Int) % 18446744073709551616, ((v / 10 : Nat) : Int) / 18446744073709551616 % 18446744073709551616, ((v / 10 : Nat) : Int) / 18446744073709551616 / 18446744073709551616 % 18446744073709551616, ((v / 10 : Nat) : Int) / 18446744073709551616 / 18446744073709551616 / 18446744073709551616 % 18446744073709551616, (v : Int) % 10, by (try dsimp only); exact small_nat hv, 64, 80, c80 [], rfl, chkI (decide_eq_true (by rw [c80_len (by decide)]; decide)) ?_⟩
        rw [nz_nat (by omega), chr10 v, hput']
        refine askI (fun g => ?_) fun g => ?_
        · simp only [decide_eq_true_eq] at g
          have h0 : v ≠ 0 := by omega
          have hL := congrArg List.length (lsb_pos h0)
          rw [List.length_cons] at hL
          have h78 := lsb_78 hv
          have hst := text_step (v := v) (acc := []) h0 (by rw [List.append_nil]; exact (if_neg h0).symm)
          exact chkI hcl ⟨v / 10, [(48 + v % 10).toUInt8], rfl, ⟨g, hst, by simp only [List.length_cons, List.length_nil]; omega, by simp, by omega, by omega⟩, rfl⟩
        · simp only [decide_eq_false_iff_not, ne_eq, Decidable.not_not] at g
          have hT : textN v = [(48 + v % 10).toUInt8] := by
            by_cases h0 : v = 0
            · subst h0; rfl
            · have hst := text_step (v := v) (acc := []) h0 (by rw [List.append_nil]; exact (if_neg h0).symm)
              rw [g, lsb_zero] at hst
              exact hst.symm
          have htk : List.take 1 (List.drop 79 (c80 [(48 + v % 10).toUInt8])) = bv [(48 + v % 10).toUInt8] := by
            have := c80_take (acc := [(48 + v % 10).toUInt8]) (by simp)
            rw [show 79 = 80 - [(48 + v % 10).toUInt8].length from rfl, this]
            rfl
          rw [htk, bytes_bv, hT]
          exact chkI hcl (chkI (decide_eq_true (by rw [c80_len (by simp)]; decide)) (chkI (bv_isInt _) rfl)))
      exact ⟨h', hsem⟩
    · cases h
  · cases h
theorem tb24_ok : (tbS Q tb24).OK Tryd.prog := tbS_ok quietText (by
  intro x hx
  simp only [tb24, List.mem_cons, List.not_mem_nil, or_false] at hx
  subst hx
  exact small50_ok)
theorem loop24 (v : Nat) (hv : v < 115792089237316195423570985008687907853269984665640564039457584007913129639936) (h0 : v ≠ 0) : W Tryd.prog (tbS Q tb24) 0 (.inl (.loop pz24_l1)) (n24 v) (fun e st => e = .exit 0 ∧ st = (envOf 52 [(3, .sl (some (1, 0)) (lsb v).length (.rel 0))], [tn4 0, .row 5 1 (bv (lsb v))])) := by
  have hcw : CwOK (tbS Q tb24) (tbW Q tb24) := tbW_ok rfl
  have h78 := lsb_78 hv
  have main := W_roundsG (P := Tryd.prog) (S := tbS Q tb24) (b0 := 0) (a := pz24_l1) (fun p : Nat × List UInt8 => if p.2 = [] then n24 p.1 else h24 p.1 p.2)
    (fun p => p.2 ++ lsb p.1 = lsb v ∧ p.1 < 115792089237316195423570985008687907853269984665640564039457584007913129639936) (fun p => p.1) (fun _ e st => e = .exit 0 ∧ st = (envOf 52 [(3, .sl (some (1, 0)) (lsb v).length (.rel 0))], [tn4 0, .row 5 1 (bv (lsb v))])) ?_ (v, []) ⟨rfl, hv⟩
  · exact main
  · rintro ⟨u, ls⟩ ⟨h1, h2⟩
    simp only at h1 h2
    have hL := congrArg List.length h1
    rw [List.length_append] at hL
    have nx : u ≠ 0 → (ls ++ [(48 + u % 10).toUInt8]) ++ lsb (u / 10) = lsb v ∧ u / 10 < 115792089237316195423570985008687907853269984665640564039457584007913129639936 := fun hu => by
      refine ⟨?_, by omega⟩
      rw [← h1, lsb_pos hu, List.append_assoc]; rfl
    by_cases hE : ls = []
    · subst hE
      have hu : u ≠ 0 := fun e => by
        rw [e, lsb_zero] at h1
        rw [lsb_pos h0] at h1
        cases h1
      show W Tryd.prog (tbS Q tb24) 0 (.inl pz24_l1) (n24 u) _
      refine W_wpX (C := C24n) hcw (by intro x hx; cases hx) (n := 60) (tn := t24) (tx := x24) (tr := x24) ((v24n u _).mp ?_)
      rw [nz_nat h2]
      refine askT (decide_eq_true hu) ⟨((u / 10 : Nat) : Int) % 18446744073709551616, ((u / 10 : Nat) : Int) / 18446744073709551616 % 18446744073709551616, ((u / 10 : Nat) : Int) / 18446744073709551616 / 18446744073709551616 % 18446744073709551616, ((u / 10 : Nat) : Int) / 18446744073709551616 / 18446744073709551616 / 18446744073709551616 % 18446744073709551616, (u : Int) % 10, by (try dsimp only); exact small_nat h2, ?_⟩
      rw [chr10 u]
      exact ⟨(u / 10, [(48 + u % 10).toUInt8]), rfl, nx hu, by show u / 10 < u; omega, fun _ _ h => h⟩
    · have hc : (if ls = [] then n24 u else h24 u ls) = h24 u ls := if_neg hE
      simp only [hc]
      refine W_wpX (C := C24m) hcw (by intro x hx; cases hx) (n := 60) (tn := t24) (tx := x24) (tr := x24) ((v24b u ls _).mp ?_)
      rw [nz_nat h2]
      refine askI (fun g => ?_) fun g => ?_
      · simp only [decide_eq_true_eq] at g
        have hLu := congrArg List.length (lsb_pos g)
        rw [List.length_cons] at hLu
        refine ⟨((u / 10 : Nat) : Int) % 18446744073709551616, ((u / 10 : Nat) : Int) / 18446744073709551616 % 18446744073709551616, ((u / 10 : Nat) : Int) / 18446744073709551616 / 18446744073709551616 % 18446744073709551616, ((u / 10 : Nat) : Int) / 18446744073709551616 / 18446744073709551616 / 18446744073709551616 % 18446744073709551616, (u : Int) % 10, by (try dsimp only); exact small_nat h2, ?_⟩
        rw [chr10 u]
        have hne : ls ++ [(48 + u % 10).toUInt8] ≠ [] := by simp
        have hb : bv ls ++ List.take (1 * 1) (List.drop 0 [AV.int .u8 (((48 + u % 10).toUInt8.toNat : Nat) : Int)]) = bv (ls ++ [(48 + u % 10).toUInt8]) := (bv_app _ _).symm
        refine ⟨5, 1, bv ls, rfl, chkI rfl (chkI rfl (chkI (decide_eq_true (by rw [bv_len]; omega)) (chkI (decide_eq_true (by omega)) (chkI (decide_eq_true (by omega)) ?_))))⟩
        rw [hb]
        refine chkI (bv_ocl _) ⟨(u / 10, ls ++ [(48 + u % 10).toUInt8]), ?_, nx g, by show u / 10 < u; omega, fun _ _ h => h⟩
        rw [if_neg hne]
        unfold h24
        rw [List.length_append]
        rfl
      · simp only [decide_eq_false_iff_not, ne_eq, Decidable.not_not] at g
        subst g
        rw [lsb_zero, List.append_nil] at h1
        rw [h1]
        exact chkI (bv_ocl _) ⟨rfl, rfl⟩
theorem bv_splice {l : List UInt8} {j : Nat} (c : UInt8) (h : j < l.length) : spliceA (bv l) (0 + j * 1) (AV.cells (.int .u8 (c.toNat : Int))) = bv (l.set j c) := by
  have e : AV.cells (.int .u8 (c.toNat : Int)) = [.int .u8 (c.toNat : Int)] := rfl
  rw [e, Nat.mul_one, Nat.zero_add]
  unfold spliceA bv
  rw [List.set_eq_take_append_cons_drop, if_pos h]
  simp
theorem swp_getD {l : List UInt8} {i j : Nat} (hj : j < l.length) (h1 : i ≤ j) (h2 : j < l.length - i) : (swp l i).getD j 0 = l.getD j 0 := by
  rw [List.getD_eq_getElem?_getD, swp_get hj, if_neg (by omega)]; rfl
theorem loop24r (l : List UInt8) (h0 : 0 < l.length) (h78 : l.length ≤ 78) : W Tryd.prog (tbS Q tb24) 0 (.inl (.loop pz24_l0)) (q24 l.length l 0 ((l.length : Int) - 1)) (fun e st => e = .exit 2 ∧ st = (envOf 52 [(3, .sl (some (1, 0)) l.length (.rel 0))], [tn4 0, .row 5 1 (bv l.reverse)])) := by
  have hcw : CwOK (tbS Q tb24) (tbW Q tb24) := tbW_ok rfl
  have main := W_roundsG (P := Tryd.prog) (S := tbS Q tb24) (b0 := 0) (a := pz24_l0) (fun i : Nat => q24 l.length (swp l i) i ((l.length - 1 - i : Nat) : Int))
    (fun i => 2 * i ≤ l.length) (fun i => l.length - i) (fun _ e st => e = .exit 2 ∧ st = (envOf 52 [(3, .sl (some (1, 0)) l.length (.rel 0))], [tn4 0, .row 5 1 (bv l.reverse)])) ?_ 0 (Nat.zero_le _)
  · have e0 : q24 l.length (swp l 0) ((0 : Nat) : Int) ((l.length - 1 - 0 : Nat) : Int) = q24 l.length l 0 ((l.length : Int) - 1) := by
      rw [swp_zero, show ((l.length - 1 - 0 : Nat) : Int) = (l.length : Int) - 1 by omega]; rfl
    simp only [e0] at main
    exact main
  · rintro i h1
    refine W_wpX (C := C24r) hcw (by intro x hx; cases hx) (n := 60) (tn := t24r) (tx := x24r) (tr := x24r) ((v24r l.length (swp l i) i (l.length - 1 - i) _).mp ?_)
    rcases Nat.lt_or_ge (2 * i + 1) l.length with hi | hi
    · have w1 : IntKind.wrap .i64 ((i : Int) + 1) = ((i + 1 : Nat) : Int) := by rw [IntKind.wrap_i64]; omega
      have w2 : IntKind.wrap .i64 (((l.length - 1 - i : Nat) : Int) - 1) = ((l.length - 1 - (i + 1) : Nat) : Int) := by rw [IntKind.wrap_i64]; omega
      have hlen := swp_len l i
      have b1 := bv_at (s := swp l i) (i := l.length - 1 - i) (by omega)
      have b2 := bv_at (s := swp l i) (i := i) (by omega)
      rw [swp_getD (by omega) (by omega) (by omega)] at b1 b2
      have b1' : partR none (bv (swp l i)) (0 + (l.length - 1 - i) * 1) = some (.int .u8 ((l.getD (l.length - 1 - i) 0).toNat : Int)) := by
        rw [Nat.mul_one, Nat.zero_add]; exact b1
      have b2' : partR none (bv (swp l i)) (0 + i * 1) = some (.int .u8 ((l.getD i 0).toNat : Int)) := by
        rw [Nat.mul_one, Nat.zero_add]; exact b2
      rw [w1, w2]
      refine askT (decide_eq_true (by omega)) (chkI (decide_eq_true (by omega)) ⟨_, b1', chkI (decide_eq_true (by omega)) ⟨_, b2', chkI (decide_eq_true (by omega)) ⟨5, 1, bv (swp l i), rfl, chkI (decide_eq_true (by rw [bv_len]; omega)) (chkI (decide_eq_true (by omega)) (chkI ?_ ?_))⟩⟩⟩)
      · simp [logOk, clash]
        omega
      · rw [bv_splice _ (by omega)]
        refine ⟨5, 1, _, rfl, chkI (decide_eq_true (by rw [bv_len, List.length_set]; omega)) ?_⟩
        rw [bv_splice _ (by rw [List.length_set]; omega), swp_step hi]
        exact ⟨i + 1, rfl, by omega, by show l.length - (i + 1) < l.length - i; omega, fun _ _ h => h⟩
    · rw [swp_all (by omega)]
      exact askF (decide_eq_false (by omega)) ⟨rfl, rfl⟩
theorem text24_ok : QuietOK Tryd.prog 24 fun vs _ => sText vs := quiet_plain htz24 fun args v h => by
  unfold sText at h
  split at h
  · rename_i a0 a1 a2 a3
    split at h
    · rename_i hs
      cases h
      refine ⟨rfl, rfl, ?_⟩
      obtain ⟨v, hv, e1, e2, e3⟩ := num_nat hs
      rw [e1]
      obtain ⟨rfl, rfl, rfl, rfl⟩ := limbs_eq e3
      clear e1 e2 e3 hs
      obtain ⟨w, h', rfl, hsem⟩ := sem_vc mixed (C := C24 v) tb24_ok (tbS_q _ _) (tbW_ok rfl) htz24 cz24 (fun x hx => by
        have e : partsIn pz24.body = [.loop pz24_l1, .loop pz24_l0] := rfl
        rw [e] at hx
        simp only [List.mem_cons, List.not_mem_nil, or_false] at hx
        rcases hx with rfl | rfl
        · refine part_loop (id := 4) rfl rfl fun st K hT => ?_
          obtain ⟨rfl, hv0, hk⟩ := hT
          refine W_mono (loop24 v hv hv0) fun e st he => ?_
          obtain ⟨rfl, rfl⟩ := he
          exact hk
        · refine part_loop (id := 9) rfl rfl fun st K hT => ?_
          obtain ⟨rfl, hk⟩ := hT
          by_cases h0 : 0 < (lsb v).length
          · refine W_mono (loop24r (lsb v) h0 (lsb_78 hv)) fun e st he => ?_
            obtain ⟨rfl, rfl⟩ := he
            exact hk.2
          · exact absurd hk.1 h0) (v24t _ _ _ _ v fun u _ => u = .str (textN v)) (by
        have hz := nz_nat hv
        have hz' := congrArg (!·) hz
        simp only [Bool.not_not] at hz'
        rw [hz']
        refine askI (fun g => ?_) fun g => ?_
        · have h0 : v = 0 := by simpa using g
          subst h0; rfl
        · have h0 : v ≠ 0 := by simpa using g
          have h78 := lsb_78 hv
          have hlen : 0 < (lsb v).length := by rw [lsb_pos h0]; simp
          have w1 : IntKind.wrap .i64 (((lsb v).length : Int) - 1) = ((lsb v).length : Int) - 1 := by rw [IntKind.wrap_i64]; omega
          rw [w1]
          have hT : textN v = (lsb v).reverse := if_neg h0
          have hst := strOf_bv [tn4 0, .row 5 1 (bv (lsb v).reverse)] (lsb v).reverse 1 rfl
          rw [List.length_reverse] at hst
          refine ⟨rfl, h0, rfl, hlen, _, hst, ?_⟩
          rw [hT])
      exact ⟨h', hsem⟩
    · cases h
  · cases h
theorem refCheck_ok : QuietOK Tryd.prog 19 fun vs _ => sCheck vs := quiet_plain htz19 fun args v h => by
  unfold sCheck at h
  split at h
  · rename_i neg l0 l1 l2 l3 sc
    cases h
    refine ⟨rfl, rfl, ?_⟩
    have hS : (tbS Q []).OK Tryd.prog := tbS_ok quietText (by simp)
    obtain ⟨u, h', rfl, hsem⟩ := sem_vc mixed (C := tbC Q [] (fun _ => false) kdU) hS (tbS_q _ _) (tbW_ok rfl) htz19 cz19 (no_parts rfl) (v19t neg l0 l1 l2 l3 sc fun u _ => u = .int .i64 (if decide (sc < 0) || decide (sc > 18) || (neg && !(nz4 l0 l1 l2 l3)) then 20 else 0)) (by
      refine askI (fun g1 => ?_) fun g1 => askI (fun g2 => ?_) fun g2 => askI (fun g3 => askI (fun g4 => ?_) fun g4 => ?_) fun g3 => ?_
      · rw [g1]; rfl
      · rw [g1, g2]; rfl
      · have e : nz4 l0 l1 l2 l3 = false := by unfold nz4; rw [g4]; rfl
        rw [g1, g2, g3, e]; rfl
      · have e : nz4 l0 l1 l2 l3 = true := by unfold nz4; rw [g4]; rfl
        rw [g1, g2, g3, e]; rfl
      · rw [g1, g2, g3]; rfl)
    exact ⟨h', hsem⟩
  · cases h
theorem htR23 : HasText Tryd.prog 23 Tryd.f23 := ⟨Tryd.func23, rfl, by decide⟩
theorem rep_rep : ∀ n, Lib.repeatL [48] n = List.replicate n 48
  | 0 => rfl
  | n + 1 => by
    show [48] ++ Lib.repeatL [48] n = _
    rw [rep_rep n]; rfl
theorem rep_ok : QuietOK Tryd.prog 23 fun vs _ => sRep vs := quiet_plain htR23 fun args v h => by
  unfold sRep at h
  split at h
  · rename_i n
    split at h
    · rename_i hn
      cases h
      refine ⟨rfl, rfl, _, sem_below rfl fun ρ w => ?_⟩
      have := Tryd.strings_Repeat ⟨#[48]⟩ n.toNat w (by omega) (by show 1 * n.toNat ≤ _; omega)
      have e : ((n.toNat : Nat) : Int) = n := by omega
      rw [e] at this
      rw [show (⟨#[48]⟩ : ByteArray).data.toList = [48] from rfl, rep_rep] at this
      exact this
    · cases h
  · cases h
theorem trimR_ok : QuietOK Tryd.prog 27 fun vs _ => sTrimR vs := quiet_plain htz27 fun args v h => by
  unfold sTrimR at h
  split at h
  · rename_i s
    split at h
    · rename_i hn
      cases h
      exact ⟨rfl, rfl, _, sem_below rfl fun ρ w => (Tryd.strings_TrimRight_one ⟨s.toArray⟩ 48 (by decide) w (by show s.toArray.size ≤ _; simpa using hn)).mono fun e w' ⟨h1, h2⟩ => ⟨h1, h2 ▸ Below.refl _ _⟩⟩
    · cases h
  · cases h
theorem trimS_ok : QuietOK Tryd.prog 26 fun vs _ => sTrimS vs := quiet_plain htz26 fun args v h => by
  unfold sTrimS at h
  split at h
  · rename_i s
    split at h
    · rename_i hn
      cases h
      exact ⟨rfl, rfl, _, sem_below rfl fun ρ w => (Tryd.strings_TrimSuffix ⟨s.toArray⟩ ⟨#[46]⟩ w (by show s.toArray.size ≤ _; simpa using hn)).mono fun e w' ⟨h1, h2⟩ => ⟨h1, h2 ▸ Below.refl _ _⟩⟩
    · cases h
  · cases h
theorem text_at {a0 a1 a2 a3 : Int} (h : u64s a0 a1 a2 a3 = true) : sText [.agg [.int .u64 a0, .int .u64 a1, .int .u64 a2, .int .u64 a3]] = some (.str (textN (num4 a0 a1 a2 a3).toNat)) := if_pos h
theorem rep_at {n : Nat} (h : n ≤ 100) : sRep [.str [48], .int .i64 (n : Int)] = some (.str (List.replicate n 48)) := by
  show (if 0 ≤ (n : Int) ∧ (n : Int) ≤ 100 then some (AV.str (List.replicate (n : Int).toNat 48)) else none) = _
  rw [if_pos (by omega), Int.toNat_natCast]
theorem padD_len {t : List UInt8} {k : Nat} (h1 : 1 ≤ t.length) (h2 : t.length ≤ 78) (hk : k ≤ 18) : k + 1 ≤ (padD t k).length ∧ (padD t k).length ≤ 97 := by
  unfold padD
  rw [List.length_append, List.length_replicate]; omega
theorem bad_yes {neg : Bool} {a0 a1 a2 a3 sc : Int} (h : badD neg a0 a1 a2 a3 sc = true) : (if (decide (sc < 0) || decide (sc > 18) || neg && !nz4 a0 a1 a2 a3) = true then (20 : Int) else 0) = 20 := if_pos h
theorem bad_no {neg : Bool} {a0 a1 a2 a3 sc : Int} (h : badD neg a0 a1 a2 a3 sc = false) : (if (decide (sc < 0) || decide (sc > 18) || neg && !nz4 a0 a1 a2 a3) = true then (20 : Int) else 0) = 0 := if_neg (by unfold badD at h; rw [h]; decide)
theorem bad_sc {neg : Bool} {a0 a1 a2 a3 sc : Int} (h : badD neg a0 a1 a2 a3 sc = false) : 0 ≤ sc ∧ sc ≤ 18 := by
  unfold badD at h
  simp only [Bool.or_eq_false_iff, decide_eq_false_iff_not] at h
  omega
theorem textD9_ok : QuietOK Tryd.prog 9 fun vs _ => sTextD vs := quiet_plain htz9 fun args v h => by
  unfold sTextD at h
  split at h
  · rename_i neg a0 a1 a2 a3 sc
    split at h
    · rename_i hs
      cases h
      refine ⟨rfl, rfl, ?_⟩
      have hS : (tbS Q tb9).OK Tryd.prog := tbS_ok quietText (by
        intro x hx
        simp only [tb9, List.mem_cons, List.not_mem_nil, or_false] at hx
        rcases hx with rfl | rfl | rfl
        · exact check_ok
        · exact text22_ok
        · exact rep_ok)
      obtain ⟨v, hv, e1, e2, e3⟩ := num_nat hs
      obtain ⟨u, h', rfl, hsem⟩ := sem_vc mixed (C := tbC Q tb9 (fun _ => false) kdU) hS (tbS_q _ _) (tbW_ok rfl) htz9 cz9 (no_parts rfl) (v9t neg a0 a1 a2 a3 sc fun u _ => u = .str (if badD neg a0 a1 a2 a3 sc then [63] else textD neg (num4 a0 a1 a2 a3).toNat sc.toNat)) (by
        rw [e1]
        have htx := text_at hs
        rw [e1] at htx
        obtain ⟨t1, t2⟩ := textN_len hv
        cases hb : badD neg a0 a1 a2 a3 sc with
        | true =>
          rw [bad_yes hb]
          exact ⟨_, rfl, askT rfl rfl⟩
        | false =>
          rw [bad_no hb]
          obtain ⟨s0, s1⟩ := bad_sc hb
          obtain ⟨k, rfl⟩ : ∃ k : Nat, sc = k := ⟨sc.toNat, by omega⟩
          rw [Int.toNat_natCast]
          have hpd := padD_len t1 t2 (k := k) (by omega)
          refine ⟨_, rfl, askF rfl ⟨_, htx, askI (fun f => ?_) fun f => ?_⟩⟩
          · simp only [decide_eq_true_eq] at f
            have w0 : IntKind.wrap .i64 (IntKind.wrap .i64 ((k : Int) + 1) - ((textN v).length : Int)) = ((k + 1 - (textN v).length : Nat) : Int) := by rw [IntKind.wrap_i64, IntKind.wrap_i64]; omega
            rw [w0]
            refine ⟨_, rep_at (by omega), chkI (decide_eq_true (by rw [List.length_replicate]; omega)) ?_⟩
            obtain ⟨p, hp⟩ : ∃ p, p = List.replicate (k + 1 - (textN v).length) 48 ++ textN v := ⟨_, rfl⟩
            rw [← hp]
            have hp : p = padD (textN v) k := hp
            rw [← hp] at hpd
            refine askI (fun g => ?_) fun g => ?_
            · simp only [decide_eq_true_eq] at g
              have w : IntKind.wrap .i64 ((p.length : Int) - (k : Int)) = ((p.length - k : Nat) : Int) := by rw [IntKind.wrap_i64]; omega
              rw [w, Int.toNat_natCast, List.drop_zero, List.take_length]
              have hl1 : (p.take (p.length - k)).length = p.length - k := by rw [List.length_take]; omega
              have hl2 : (p.drop (p.length - k)).length = k := by rw [List.length_drop]; omega
              have hpt : pointD p k = p.take (p.length - k) ++ 46 :: p.drop (p.length - k) := if_neg (by omega)
              have hE : p.take (p.length - k) ++ Array.toList (ByteArray.data { data := #[46] }) ++ p.drop (p.length - k) = pointD p k := by rw [hpt]; simp
              have hEl : (pointD p k).length = p.length + 1 := by rw [hpt, List.length_append, List.length_cons, hl1, hl2]; omega
              have h1 : (Array.toList (ByteArray.data { data := #[46] })).length = 1 := rfl
              have h2 : (Array.toList (ByteArray.data { data := #[45] })).length = 1 := rfl
              rw [hE, List.length_append, hl1, hl2, h1, h2, hEl]
              refine chkI (decide_eq_true (by omega)) (chkI (decide_eq_true (by omega)) (chkI (decide_eq_true (by omega)) (chkI (decide_eq_true (by omega)) (chkI (decide_eq_true (by omega)) (chkI (decide_eq_true (by omega)) (askI (fun hn => chkI (decide_eq_true (by omega)) ?_) fun hn => ?_))))))
              · subst hn; subst hp; rfl
              · subst hn; subst hp; rfl
            · simp only [decide_eq_false_iff_not] at g
              have hk0 : k = 0 := by omega
              have h2 : (Array.toList (ByteArray.data { data := #[45] })).length = 1 := rfl
              rw [h2]
              subst hk0
              refine askI (fun hn => chkI (decide_eq_true (by omega)) ?_) fun hn => ?_
              · subst hn; subst hp; rfl
              · subst hn; subst hp; rfl
          · simp only [decide_eq_false_iff_not] at f
            obtain ⟨p, hp⟩ : ∃ p, p = textN v := ⟨_, rfl⟩
            rw [← hp]
            have hp : p = padD (textN v) k := by
              rw [hp]; unfold padD
              rw [show k + 1 - (textN v).length = 0 by omega]; rfl
            rw [← hp] at hpd
            refine askI (fun g => ?_) fun g => ?_
            · simp only [decide_eq_true_eq] at g
              have w : IntKind.wrap .i64 ((p.length : Int) - (k : Int)) = ((p.length - k : Nat) : Int) := by rw [IntKind.wrap_i64]; omega
              rw [w, Int.toNat_natCast, List.drop_zero, List.take_length]
              have hl1 : (p.take (p.length - k)).length = p.length - k := by rw [List.length_take]; omega
              have hl2 : (p.drop (p.length - k)).length = k := by rw [List.length_drop]; omega
              have hpt : pointD p k = p.take (p.length - k) ++ 46 :: p.drop (p.length - k) := if_neg (by omega)
              have hE : p.take (p.length - k) ++ Array.toList (ByteArray.data { data := #[46] }) ++ p.drop (p.length - k) = pointD p k := by rw [hpt]; simp
              have hEl : (pointD p k).length = p.length + 1 := by rw [hpt, List.length_append, List.length_cons, hl1, hl2]; omega
              have h1 : (Array.toList (ByteArray.data { data := #[46] })).length = 1 := rfl
              have h2 : (Array.toList (ByteArray.data { data := #[45] })).length = 1 := rfl
              rw [hE, List.length_append, hl1, hl2, h1, h2, hEl]
              refine chkI (decide_eq_true (by omega)) (chkI (decide_eq_true (by omega)) (chkI (decide_eq_true (by omega)) (chkI (decide_eq_true (by omega)) (chkI (decide_eq_true (by omega)) (chkI (decide_eq_true (by omega)) (askI (fun hn => chkI (decide_eq_true (by omega)) ?_) fun hn => ?_))))))
              · subst hn; subst hp; rfl
              · subst hn; subst hp; rfl
            · simp only [decide_eq_false_iff_not] at g
              have hk0 : k = 0 := by omega
              have h2 : (Array.toList (ByteArray.data { data := #[45] })).length = 1 := rfl
              rw [h2]
              subst hk0
              refine askI (fun hn => chkI (decide_eq_true (by omega)) ?_) fun hn => ?_
              · subst hn; subst hp; rfl
              · subst hn; subst hp; rfl)
      exact ⟨h', hsem⟩
    · cases h
  · cases h
theorem pad_step {s : List UInt8} {k : Nat} (h : s.length ≤ k) : padD (48 :: s) k = padD s k := by
  unfold padD
  rw [List.length_cons, show k + 1 - s.length = (k + 1 - (s.length + 1)) + 1 by omega, List.replicate_succ']
  simp
theorem pad_done {s : List UInt8} {k : Nat} (h : k < s.length) : padD s k = s := by
  unfold padD
  rw [show k + 1 - s.length = 0 by omega]; rfl
theorem loop10 (neg : Bool) (a0 a1 a2 a3 : Int) (k : Nat) (hk : k ≤ 18) (t : List UInt8) (ht : t.length ≤ 100) (S : Specs) (hS : S = tbS Q tb10) : W Tryd.prog S 0 (.inl (.loop pz10_l0)) (q10 neg a0 a1 a2 a3 k t) (fun e st => e = .exit 0 ∧ st = q10 neg a0 a1 a2 a3 k (padD t k)) := by
  subst hS
  have hcw : CwOK (tbS Q tb10) (tbW Q tb10) := tbW_ok rfl
  have main := W_roundsG (P := Tryd.prog) (S := tbS Q tb10) (b0 := 0) (a := pz10_l0) (fun s : List UInt8 => q10 neg a0 a1 a2 a3 k s)
    (fun s => padD s k = padD t k ∧ s.length ≤ 100) (fun s => 200 - s.length) (fun _ e st => e = .exit 0 ∧ st = q10 neg a0 a1 a2 a3 k (padD t k)) ?_ t ⟨rfl, ht⟩
  · exact main
  · rintro s ⟨h1, h2⟩
    refine W_wpX (C := tbC Q tb10 (fun _ => false) kdU) hcw (by intro x hx; cases hx) (n := 60) (tn := t10) (tx := t10) (tr := t10) ((v10b neg a0 a1 a2 a3 k s _).mp ?_)
    refine askI (fun g => ?_) fun g => ?_
    · simp only [decide_eq_true_eq] at g
      refine chkI (decide_eq_true (by show 1 + s.length ≤ _; omega)) ⟨48 :: s, rfl, ⟨?_, by simp only [List.length_cons]; omega⟩, by show 200 - (48 :: s).length < 200 - s.length; simp only [List.length_cons]; omega, fun _ _ h => h⟩
      rw [pad_step (by omega), h1]
    · simp only [decide_eq_false_iff_not] at g
      rw [pad_done (by omega)] at h1
      rw [← h1]
      exact ⟨rfl, rfl⟩
theorem textD10_ok : QuietOK Tryd.prog 10 fun vs _ => sTextD vs := quiet_plain htz10 fun args v h => by
  unfold sTextD at h
  split at h
  · rename_i neg a0 a1 a2 a3 sc
    split at h
    · rename_i hs
      cases h
      refine ⟨rfl, rfl, ?_⟩
      have hS : (tbS Q tb10).OK Tryd.prog := tbS_ok quietText (by
        intro x hx
        simp only [tb10, List.mem_cons, List.not_mem_nil, or_false] at hx
        rcases hx with rfl | rfl
        · exact refCheck_ok
        · exact text24_ok)
      obtain ⟨v, hv, e1, e2, e3⟩ := num_nat hs
      obtain ⟨u, h', rfl, hsem⟩ := sem_vc mixed (C := C10 neg a0 a1 a2 a3 sc) hS (tbS_q _ _) (tbW_ok rfl) htz10 cz10 (one_part rfl (part_loop (id := 4) rfl rfl fun st K hT => by
        obtain ⟨t, rfl, ht, ⟨hs0, hs1⟩, hk⟩ := hT
        obtain ⟨k, rfl⟩ : ∃ k : Nat, sc = k := ⟨sc.toNat, by omega⟩
        refine W_mono (loop10 neg a0 a1 a2 a3 k (by omega) t ht _ rfl) fun e st he => ?_
        obtain ⟨rfl, rfl⟩ := he
        exact hk)) (v10t neg a0 a1 a2 a3 sc fun u _ => u = .str (if badD neg a0 a1 a2 a3 sc then [63] else textD neg (num4 a0 a1 a2 a3).toNat sc.toNat)) (by
        rw [e1]
        have htx := text_at hs
        rw [e1] at htx
        obtain ⟨t1, t2⟩ := textN_len hv
        cases hb : badD neg a0 a1 a2 a3 sc with
        | true =>
          rw [bad_yes hb]
          exact ⟨_, rfl, askT rfl rfl⟩
        | false =>
          rw [bad_no hb]
          obtain ⟨s0, s1⟩ := bad_sc hb
          obtain ⟨k, rfl⟩ : ∃ k : Nat, sc = k := ⟨sc.toNat, by omega⟩
          rw [Int.toNat_natCast]
          have hpd := padD_len t1 t2 (k := k) (by omega)
          refine ⟨_, rfl, askF rfl ⟨_, htx, _, rfl, by omega, ⟨by omega, by omega⟩, ?_⟩⟩
          obtain ⟨p, hp⟩ : ∃ p, p = padD (textN v) k := ⟨_, rfl⟩
          rw [← hp] at hpd ⊢
          refine askI (fun g => ?_) fun g => ?_
          · simp only [decide_eq_true_eq] at g
            have w : IntKind.wrap .i64 ((p.length : Int) - (k : Int)) = ((p.length - k : Nat) : Int) := by rw [IntKind.wrap_i64]; omega
            rw [w, Int.toNat_natCast, List.drop_zero, List.take_length]
            have hl1 : (p.take (p.length - k)).length = p.length - k := by rw [List.length_take]; omega
            have hl2 : (p.drop (p.length - k)).length = k := by rw [List.length_drop]; omega
            have hpt : pointD p k = p.take (p.length - k) ++ 46 :: p.drop (p.length - k) := if_neg (by omega)
            have hE : p.take (p.length - k) ++ Array.toList (ByteArray.data { data := #[46] }) ++ p.drop (p.length - k) = pointD p k := by rw [hpt]; simp
            have hEl : (pointD p k).length = p.length + 1 := by rw [hpt, List.length_append, List.length_cons, hl1, hl2]; omega
            have h1 : (Array.toList (ByteArray.data { data := #[46] })).length = 1 := rfl
            have h2 : (Array.toList (ByteArray.data { data := #[45] })).length = 1 := rfl
            rw [hE, List.length_append, hl1, hl2, h1, h2, hEl]
            refine chkI (decide_eq_true (by omega)) (chkI (decide_eq_true (by omega)) (chkI (decide_eq_true (by omega)) (chkI (decide_eq_true (by omega)) (chkI (decide_eq_true (by omega)) (chkI (decide_eq_true (by omega)) (askI (fun hn => chkI (decide_eq_true (by omega)) ?_) fun hn => ?_))))))
            · subst hn; subst hp; rfl
            · subst hn; subst hp; rfl
          · simp only [decide_eq_false_iff_not] at g
            have hk0 : k = 0 := by omega
            have h2 : (Array.toList (ByteArray.data { data := #[45] })).length = 1 := rfl
            rw [h2]
            subst hk0
            refine askI (fun hn => chkI (decide_eq_true (by omega)) ?_) fun hn => ?_
            · subst hn; subst hp; rfl
            · subst hn; subst hp; rfl)
      exact ⟨h', hsem⟩
    · cases h
  · cases h
theorem lsb_dig : ∀ (n v : Nat), v ≤ n → ∀ c ∈ lsb v, isD c = true
  | n, v, h, c, hc => by
    by_cases h0 : v = 0
    · rw [h0, lsb_zero] at hc; cases hc
    · rw [lsb_pos h0] at hc
      rcases List.mem_cons.1 hc with rfl | hc
      · have h := dig_u8 (v % 10) (by omega)
        have h' : (48 + v % 10).toUInt8.toNat = 48 + v % 10 := by omega
        unfold isD
        simp only [Bool.and_eq_true, decide_eq_true_eq]
        omega
      · match n, h with
        | n + 1, h => exact lsb_dig n (v / 10) (by omega) c hc
        | 0, h => exact absurd h (by omega)
theorem textN_dig (v : Nat) : ∀ c ∈ textN v, isD c = true := fun c hc => by
  unfold textN at hc
  split at hc
  · rw [List.mem_singleton] at hc; subst hc; rfl
  · exact lsb_dig v v (Nat.le_refl _) c (by simpa using hc)
theorem padD_dig (v k : Nat) : ∀ c ∈ padD (textN v) k, isD c = true := fun c hc => by
  rcases List.mem_append.1 hc with hc | hc
  · rw [List.eq_of_mem_replicate hc]; rfl
  · exact textN_dig v c hc
theorem textD_chr (neg : Bool) (v k : Nat) : ∀ c ∈ textD neg v k, c = 45 ∨ (c = 46 ∧ k ≠ 0) ∨ isD c = true := fun c hc => by
  unfold textD at hc
  rcases List.mem_append.1 hc with hc | hc
  · cases neg
    · cases hc
    · rw [if_pos rfl, List.mem_singleton] at hc; exact .inl hc
  · unfold pointD at hc
    split at hc
    · exact .inr (.inr (padD_dig v k c hc))
    · rename_i hk
      rcases List.mem_append.1 hc with hc | hc
      · exact .inr (.inr (padD_dig v k c (List.mem_of_mem_take hc)))
      · rcases List.mem_cons.1 hc with rfl | hc
        · exact .inr (.inl ⟨rfl, hk⟩)
        · exact .inr (.inr (padD_dig v k c (List.mem_of_mem_drop hc)))
theorem textD_no63 (neg : Bool) (v k : Nat) : (textD neg v k == [63]) = false := by
  rw [beq_eq_false_iff_ne]
  intro e
  have := textD_chr neg v k 63 (by rw [e]; simp)
  rcases this with h | ⟨h, _⟩ | h
  · cases h
  · cases h
  · cases h
theorem textD_no46 (neg : Bool) (v : Nat) : (46 : UInt8) ∉ textD neg v 0 := fun h => by
  rcases textD_chr neg v 0 46 h with h | ⟨_, h⟩ | h
  · cases h
  · exact h rfl
  · cases h
theorem textD_46 (neg : Bool) (v k : Nat) (hk : k ≠ 0) : (46 : UInt8) ∈ textD neg v k := by
  unfold textD pointD
  rw [if_neg hk]
  simp
theorem textD_len {neg : Bool} {v k : Nat} (hv : v < 115792089237316195423570985008687907853269984665640564039457584007913129639936) (hk : k ≤ 18) : (textD neg v k).length ≤ 99 := by
  obtain ⟨t1, t2⟩ := textN_len hv
  have hp := padD_len t1 t2 hk
  unfold textD
  rw [List.length_append]
  have h1 : (if neg = true then [45] else [] : List UInt8).length ≤ 1 := by cases neg <;> simp
  have h2 : (pointD (padD (textN v) k) k).length ≤ (padD (textN v) k).length + 1 := by
    unfold pointD
    split
    · omega
    · rw [List.length_append, List.length_cons, List.length_take, List.length_drop]; omega
  omega
theorem ib_neg : ∀ (l : List UInt8) (c : UInt8), c ∉ l → Lib.indexByte l c = -1
  | [], _, _ => rfl
  | b :: l, c, h => by
    have hb : (b == c) = false := by rw [beq_eq_false_iff_ne]; exact fun e => h (by simp [e])
    have := ib_neg l c fun h' => h (List.mem_cons_of_mem _ h')
    show (if (b == c) = true then (0 : Int) else if (Lib.indexByte l c == -1) = true then -1 else Lib.indexByte l c + 1) = -1
    rw [hb, this]; rfl
theorem ib_pos : ∀ (l : List UInt8) (c : UInt8), c ∈ l → 0 ≤ Lib.indexByte l c
  | b :: l, c, h => by
    show 0 ≤ (if (b == c) = true then (0 : Int) else if (Lib.indexByte l c == -1) = true then -1 else Lib.indexByte l c + 1)
    split
    · omega
    · rename_i hb
      have hm : c ∈ l := by
        rcases List.mem_cons.1 h with rfl | h
        · exact absurd (beq_self_eq_true _) hb
        · exact h
      have := ib_pos l c hm
      rw [if_neg (by rw [beq_iff_eq]; omega)]
      omega
theorem tr_snoc48 (l : List UInt8) : Lib.trimRightB (l ++ [48]) 48 = Lib.trimRightB l 48 := by
  unfold Lib.trimRightB
  simp [List.dropWhile_cons]
theorem tr_snoc {c : UInt8} (h : (c == 48) = false) (l : List UInt8) : Lib.trimRightB (l ++ [c]) 48 = l ++ [c] := by
  unfold Lib.trimRightB
  simp [List.dropWhile_cons, h]
theorem snoc_of {s : List UInt8} (h : 0 < s.length) : s = s.take (s.length - 1) ++ [s.getD (s.length - 1) 0] := by
  have e : s.getD (s.length - 1) 0 = s[s.length - 1] := by rw [List.getD_eq_getElem?_getD, List.getElem?_eq_getElem (by omega)]; rfl
  rw [e, ← List.take_succ_eq_append_getElem, show s.length - 1 + 1 = s.length by omega, List.take_length]
theorem tr_mem : ∀ (n : Nat) (l : List UInt8), l.length ≤ n → (∃ c ∈ l, (c == 48) = false) → 0 < (Lib.trimRightB l 48).length
  | 0, l, hn, ⟨c, hc, _⟩ => by
    have : l = [] := List.length_eq_zero_iff.1 (by omega)
    rw [this] at hc; cases hc
  | n + 1, l, hn, ⟨c, hc, h⟩ => by
    have hl : 0 < l.length := List.length_pos_of_mem hc
    have hs := snoc_of hl
    generalize l.getD (l.length - 1) 0 = d at hs
    by_cases hd : (d == 48) = true
    · rw [beq_iff_eq] at hd
      rw [hs, hd, tr_snoc48]
      refine tr_mem n _ (by rw [List.length_take]; omega) ⟨c, ?_, h⟩
      rw [hs, hd] at hc
      rcases List.mem_append.1 hc with hc | hc
      · exact hc
      · rw [List.mem_singleton] at hc; rw [hc] at h; cases h
    · rw [hs, tr_snoc (by simpa using hd)]; simp
theorem ts_snoc (l : List UInt8) (c : UInt8) : Lib.trimSuffix (l ++ [c]) [46] = if (c == 46) = true then l else l ++ [c] := by
  have e : Lib.hasSuffix (l ++ [c]) [46] = (c == 46) := by
    unfold Lib.hasSuffix
    show List.isPrefixOf [46] (l ++ [c]).reverse = _
    rw [List.reverse_append]
    show ((46 : UInt8) == c && true) = (c == 46)
    rw [Bool.and_true, Bool.eq_iff_iff, beq_iff_eq, beq_iff_eq]
    exact eq_comm
  unfold Lib.trimSuffix
  rw [e]
  split
  · rw [List.length_append]; simp
  · rfl
theorem textD_at {neg : Bool} {a0 a1 a2 a3 sc : Int} (h : u64s a0 a1 a2 a3 = true) : sTextD [.agg [.bool neg, .int .u64 a0, .int .u64 a1, .int .u64 a2, .int .u64 a3, .int .i64 sc]] = some (.str (if badD neg a0 a1 a2 a3 sc then [63] else textD neg (num4 a0 a1 a2 a3).toNat sc.toNat)) := if_pos h
theorem shortD_at {neg : Bool} {a0 a1 a2 a3 sc : Int} (h : u64s a0 a1 a2 a3 = true) : sShortD [.agg [.bool neg, .int .u64 a0, .int .u64 a1, .int .u64 a2, .int .u64 a3, .int .i64 sc]] = some (.str (if badD neg a0 a1 a2 a3 sc then [63] else shortD neg (num4 a0 a1 a2 a3).toNat sc.toNat)) := if_pos h
theorem tr_len (l : List UInt8) : (Lib.trimRightB l 48).length ≤ l.length := by
  unfold Lib.trimRightB
  rw [List.length_reverse]
  have := (List.dropWhile_sublist (l := l.reverse) (· == (48 : UInt8))).length_le
  rw [List.length_reverse] at this
  exact this
theorem loop12 (t : List UInt8) (h0 : 0 < (Lib.trimRightB t 48).length) (h1 : t.length ≤ 1000) : W Tryd.prog (tbS Q tb12) 0 (.inl (.loop pz12_l0)) (q12 t) (fun e st => e = .exit 0 ∧ st = q12 (Lib.trimRightB t 48)) := by
  have hcw : CwOK (tbS Q tb12) (tbW Q tb12) := tbW_ok rfl
  have main := W_roundsG (P := Tryd.prog) (S := tbS Q tb12) (b0 := 0) (a := pz12_l0) (fun s : List UInt8 => q12 s)
    (fun s => Lib.trimRightB s 48 = Lib.trimRightB t 48 ∧ s.length ≤ 1000) (fun s => s.length) (fun _ e st => e = .exit 0 ∧ st = q12 (Lib.trimRightB t 48)) ?_ t ⟨rfl, h1⟩
  · exact main
  · rintro s ⟨g1, g2⟩
    have hs : 0 < s.length := by have := tr_len s; rw [g1] at this; omega
    refine W_wpX (C := tbC Q tb12 (fun _ => false) kdU) hcw (by intro x hx; cases hx) (n := 60) (tn := t12t) (tx := t12t) (tr := t12t) ((v12b s _).mp ?_)
    have w1 : IntKind.wrap .i64 ((s.length : Int) - 1) = ((s.length - 1 : Nat) : Int) := by rw [IntKind.wrap_i64]; omega
    rw [w1, Int.toNat_natCast, List.drop_zero]
    have hsn := snoc_of hs
    have e48 : (((s.getD (s.length - 1) 0).toNat : Int) == 48) = (s.getD (s.length - 1) 0 == 48) := by
      have h := ne_u8 (s.getD (s.length - 1) 0) 48
      rw [bne, bne] at h
      exact Bool.not_inj h
    rw [e48]
    refine chkI (decide_eq_true (by omega)) (chkI (decide_eq_true (by omega)) (askI (fun g => chkI (decide_eq_true (by omega)) (chkI (decide_eq_true (by omega)) ?_)) fun g => ?_))
    · refine ⟨s.take (s.length - 1), rfl, ⟨?_, by rw [List.length_take]; omega⟩, by show (s.take (s.length - 1)).length < s.length; rw [List.length_take]; omega, fun _ _ h => h⟩
      rw [beq_iff_eq] at g
      rw [g] at hsn
      rw [← g1]
      conv => rhs; rw [hsn]
      rw [tr_snoc48]
    · have : Lib.trimRightB s 48 = s := by
        conv => lhs; rw [hsn]
        rw [tr_snoc g, ← hsn]
      rw [this] at g1
      rw [← g1]
      exact ⟨rfl, rfl⟩
theorem shortD11_ok : QuietOK Tryd.prog 11 fun vs _ => sShortD vs := quiet_plain htz11 fun args v h => by
  unfold sShortD at h
  split at h
  · rename_i neg a0 a1 a2 a3 sc
    split at h
    · rename_i hs
      cases h
      refine ⟨rfl, rfl, ?_⟩
      have hS : (tbS Q tb11).OK Tryd.prog := tbS_ok quietText (by
        intro x hx
        simp only [tb11, List.mem_cons, List.not_mem_nil, or_false] at hx
        rcases hx with rfl | rfl | rfl | rfl
        · exact textD9_ok
        · exact indexByte_ok
        · exact trimR_ok
        · exact trimS_ok)
      obtain ⟨v, hv, e1, e2, e3⟩ := num_nat hs
      obtain ⟨u, h', rfl, hsem⟩ := sem_vc mixed (C := tbC Q tb11 (fun _ => false) kdU) hS (tbS_q _ _) (tbW_ok rfl) htz11 cz11 (no_parts rfl) (v11t neg a0 a1 a2 a3 sc fun u _ => u = .str (if badD neg a0 a1 a2 a3 sc then [63] else shortD neg (num4 a0 a1 a2 a3).toNat sc.toNat)) (by
        have htx := textD_at (neg := neg) (sc := sc) hs
        rw [e1] at htx ⊢
        refine ⟨_, htx, _, rfl, ?_⟩
        cases hb : badD neg a0 a1 a2 a3 sc with
        | true => exact askT rfl rfl
        | false =>
          obtain ⟨s0, s1⟩ := bad_sc hb
          obtain ⟨k, rfl⟩ : ∃ k : Nat, sc = k := ⟨sc.toNat, by omega⟩
          rw [Int.toNat_natCast]
          have hl := textD_len (neg := neg) (v := v) (k := k) hv (by omega)
          by_cases hk : k = 0
          · subst hk
            have hi := ib_neg _ _ (textD_no46 neg v)
            refine askT ?_ rfl
            show decide (Lib.indexByte (textD neg v 0) 46 < 0) = true
            rw [hi]; rfl
          · have hi := ib_pos _ _ (textD_46 neg v k hk)
            refine askF ?_ ?_
            · show decide (Lib.indexByte (textD neg v k) 46 < 0) = false
              exact decide_eq_false (by omega)
            · have hl2 := tr_len (textD neg v k)
              have x1 : sTrimR [.str (textD neg v k), .str [48]] = some (.str (Lib.trimRightB (textD neg v k) 48)) := if_pos (by omega)
              have x2 : sTrimS [.str (Lib.trimRightB (textD neg v k) 48), .str [46]] = some (.str (Lib.trimSuffix (Lib.trimRightB (textD neg v k) 48) [46])) := if_pos (by omega)
              refine ⟨_, x1, _, x2, ?_⟩
              have : shortD neg v k = Lib.trimSuffix (Lib.trimRightB (textD neg v k) 48) [46] := if_neg hk
              rw [this]; rfl)
      exact ⟨h', hsem⟩
    · cases h
  · cases h
theorem shortD12_ok : QuietOK Tryd.prog 12 fun vs _ => sShortD vs := quiet_plain htz12 fun args v h => by
  unfold sShortD at h
  split at h
  · rename_i neg a0 a1 a2 a3 sc
    split at h
    · rename_i hs
      cases h
      refine ⟨rfl, rfl, ?_⟩
      have hS : (tbS Q tb12).OK Tryd.prog := tbS_ok quietText (by
        intro x hx
        simp only [tb12, List.mem_cons, List.not_mem_nil, or_false] at hx
        subst hx
        exact textD10_ok)
      obtain ⟨v, hv, e1, e2, e3⟩ := num_nat hs
      obtain ⟨u, h', rfl, hsem⟩ := sem_vc mixed (C := C12) hS (tbS_q _ _) (tbW_ok rfl) htz12 cz12 (one_part rfl (part_loop (id := 4) rfl rfl fun st K hT => by
        obtain ⟨t, rfl, ⟨h0, h1⟩, hk⟩ := hT
        refine W_mono (loop12 t h0 h1) fun e st he => ?_
        obtain ⟨rfl, rfl⟩ := he
        exact hk)) (v12t neg a0 a1 a2 a3 sc fun u _ => u = .str (if badD neg a0 a1 a2 a3 sc then [63] else shortD neg (num4 a0 a1 a2 a3).toNat sc.toNat)) (by
        have htx := textD_at (neg := neg) (sc := sc) hs
        rw [e1] at htx ⊢
        refine ⟨_, htx, ?_⟩
        cases hb : badD neg a0 a1 a2 a3 sc with
        | true => exact askT rfl rfl
        | false =>
          obtain ⟨s0, s1⟩ := bad_sc hb
          obtain ⟨k, rfl⟩ : ∃ k : Nat, sc = k := ⟨sc.toNat, by omega⟩
          rw [Int.toNat_natCast]
          have hl := textD_len (neg := neg) (v := v) (k := k) hv (by omega)
          refine askF (textD_no63 neg v k) (askI (fun g => ?_) fun g => ?_)
          · have hk : k = 0 := by rw [beq_iff_eq] at g; omega
            subst hk; rfl
          · have hk : k ≠ 0 := fun e => by subst e; cases g
            have hpos := tr_mem _ (textD neg v k) (Nat.le_refl _) ⟨46, textD_46 neg v k hk, rfl⟩
            have hlt := tr_len (textD neg v k)
            have hsh : shortD neg v k = Lib.trimSuffix (Lib.trimRightB (textD neg v k) 48) [46] := if_neg hk
            rw [if_neg (by decide), if_neg (by decide), hsh]
            refine ⟨_, rfl, ⟨hpos, by omega⟩, ?_⟩
            generalize Lib.trimRightB (textD neg v k) 48 = r at hpos hlt ⊢
            have w1 : IntKind.wrap .i64 ((r.length : Int) - 1) = ((r.length - 1 : Nat) : Int) := by rw [IntKind.wrap_i64]; omega
            have hsn := snoc_of hpos
            have e46 : (((r.getD (r.length - 1) 0).toNat : Int) == 46) = (r.getD (r.length - 1) 0 == 46) := by
              have h := ne_u8 (r.getD (r.length - 1) 0) 46
              rw [bne, bne] at h
              exact Bool.not_inj h
            have hts := ts_snoc (r.take (r.length - 1)) (r.getD (r.length - 1) 0)
            rw [← hsn] at hts
            rw [w1, Int.toNat_natCast, List.drop_zero, e46, hts]
            refine chkI (decide_eq_true (by omega)) (chkI (decide_eq_true (by omega)) (askI (fun q => chkI (decide_eq_true (by omega)) (chkI (decide_eq_true (by omega)) ?_)) fun q => ?_))
            · rw [if_pos q]
            · rw [if_neg (by rw [q]; decide)])
      exact ⟨h', hsem⟩
    · cases h
  · cases h
theorem tb3t_ok : (tbS Q tb3t).OK Tryd.prog := tbS_ok quietText (by
  intro x hx
  simp only [tb3t, List.mem_cons, List.not_mem_nil, or_false] at hx
  rcases hx with rfl | rfl | rfl | rfl | rfl
  · exact live_ok
  · exact textD9_ok
  · exact textD10_ok
  · exact shortD11_ok
  · exact shortD12_ok)
theorem texts_run (neg : Bool) (a0 a1 a2 a3 sc : Int) (hs : u64s a0 a1 a2 a3 = true) : ∃ h', CallSem Tryd.prog 3 [.agg [.bool neg, .int .u64 a0, .int .u64 a1, .int .u64 a2, .int .u64 a3, .int .i64 sc]] [] (.bool true) h' := by
  have h1 := textD_at (neg := neg) (sc := sc) hs
  have h2 := shortD_at (neg := neg) (sc := sc) hs
  obtain ⟨u, h', rfl, hsem⟩ := sem_vc mixed (C := tbC Q tb3t (fun _ => false) kdU) tb3t_ok (tbS_q _ _) (tbW_ok rfl) htz3 cz3 (no_parts rfl) (v3t neg a0 a1 a2 a3 sc fun u _ => u = .bool true) (by
    exact ⟨true, live_at [rowD neg a0 a1 a2 a3 sc], askT rfl ⟨_, h1, _, h1, askT (beq_self_eq_true _) ⟨_, h2, _, h2, askT (beq_self_eq_true _) rfl⟩⟩⟩)
  exact ⟨h', hsem⟩
theorem cells26 : Tryd.prog.cellsOf 26 = 6 := by kernel_rfl
theorem cells24 : Tryd.prog.cellsOf 24 = 4 := by kernel_rfl
theorem cells22 : Tryd.prog.cellsOf 22 = 1 := by kernel_rfl
theorem cells4 : Tryd.prog.cellsOf 4 = 1 := by kernel_rfl
theorem cells3 : Tryd.prog.cellsOf 3 = 1 := by kernel_rfl
section
variable {H : Type} {enc : TypeId × Value → H} {w : World} {base : Nat} {spare : Nat → Bool} {held : Bool} {fuel : Nat} {cs : List Value} {x : DataW H × List MemPlace}
theorem fld {fs : Array Field} {n : Nat} {xs : List (DataW H × List MemPlace)} (hf : ∀ (i : Nat) (f : Field), fs[i]? = some f → DataW.trod enc Tryd.prog w base spare held n f.type ((cs.drop f.offset).take (Tryd.prog.cellsOf f.type)) = xs[i]?)
    (i : Nat) {t off : Nat} (h : (fs[i]?).map (fun f => (f.type, f.offset)) = some (t, off)) {k : Nat} (hc : Tryd.prog.cellsOf t = k) : DataW.trod enc Tryd.prog w base spare held n t ((cs.drop off).take k) = xs[i]? := by
  simp only [Option.map_eq_some_iff, Prod.mk.injEq] at h
  obtain ⟨f, h1, rfl, rfl⟩ := h
  rw [← hc]
  exact hf i f h1
theorem u64_wf {n : Int} (h : (Lit.int .u64 n).wf = true) : u64B n = true := by
  unfold Lit.wf at h
  simp only [Bool.and_eq_true, decide_eq_true_eq] at h
  have h1 : (0 : Int) ≤ n := h.1
  have h2 : n ≤ 18446744073709551615 := h.2
  unfold u64B
  simp only [Bool.and_eq_true, decide_eq_true_eq]; omega
theorem open_dec (h : DataW.trod enc Tryd.prog w base spare held fuel 26 cs = some x) : ∃ (neg : Bool) (a0 a1 a2 a3 sc : Int), cs = [.bool neg, .int .u64 a0, .int .u64 a1, .int .u64 a2, .int .u64 a3, .int .i64 sc] ∧ u64s a0 a1 a2 a3 = true := by
  obtain ⟨xs, n, rfl, rfl, hl, hx, hf⟩ := DataW.trod_struct Tryd.underlying26 h
  rw [cells26] at hl
  obtain ⟨v0, v1, v2, v3, v4, v5, rfl⟩ : ∃ v0 v1 v2 v3 v4 v5, cs = [v0, v1, v2, v3, v4, v5] := by
    match cs, hl with
    | [v0, v1, v2, v3, v4, v5], _ => exact ⟨_, _, _, _, _, _, rfl⟩
  obtain ⟨y0, y1, y2, rfl⟩ : ∃ y0 y1 y2, xs = [y0, y1, y2] := by
    match xs, hx with
    | [y0, y1, y2], _ => exact ⟨_, _, _, rfl⟩
  have h0 : DataW.trod enc Tryd.prog w base spare held n 4 [v0] = some y0 := fld hf 0 rfl cells4
  have h1 : DataW.trod enc Tryd.prog w base spare held n 24 [v1, v2, v3, v4] = some y1 := fld hf 1 rfl cells24
  have h2 : DataW.trod enc Tryd.prog w base spare held n 3 [v5] = some y2 := fld hf 2 rfl cells3
  obtain ⟨neg, e0, -⟩ := DataW.trod_bool Tryd.underlying4 h0
  obtain ⟨sc, e5, -, -⟩ := DataW.trod_int Tryd.underlying3 h2
  obtain ⟨ys, m, -, -, -, hy, hg⟩ := DataW.trod_array Tryd.underlying24 h1
  rw [cells22] at hg
  obtain ⟨z0, z1, z2, z3, rfl⟩ : ∃ z0 z1 z2 z3, ys = [z0, z1, z2, z3] := by
    match ys, hy with
    | [z0, z1, z2, z3], _ => exact ⟨_, _, _, _, rfl⟩
  have g0 : DataW.trod enc Tryd.prog w base spare held m 22 [v1] = some z0 := hg 0 (by omega)
  have g1 : DataW.trod enc Tryd.prog w base spare held m 22 [v2] = some z1 := hg 1 (by omega)
  have g2 : DataW.trod enc Tryd.prog w base spare held m 22 [v3] = some z2 := hg 2 (by omega)
  have g3 : DataW.trod enc Tryd.prog w base spare held m 22 [v4] = some z3 := hg 3 (by omega)
  obtain ⟨a, e1, -, w1⟩ := DataW.trod_int Tryd.underlying22 g0
  obtain ⟨b, e2, -, w2⟩ := DataW.trod_int Tryd.underlying22 g1
  obtain ⟨c, e3, -, w3⟩ := DataW.trod_int Tryd.underlying22 g2
  obtain ⟨d, e4, -, w4⟩ := DataW.trod_int Tryd.underlying22 g3
  simp only [List.cons.injEq, and_true] at e0 e1 e2 e3 e4 e5
  subst e0 e1 e2 e3 e4 e5
  refine ⟨neg, a, b, c, d, sc, rfl, ?_⟩
  unfold u64s
  rw [u64_wf w1, u64_wf w2, u64_wf w3, u64_wf w4]; rfl
theorem open_decA {v : Value} {d : DataW H} {ps : List MemPlace} (hval : Value.okWide Tryd.prog w .any base 26 v) (hd : DataW.Trod enc Tryd.prog w 0 spare held 26 v d ps) : ∃ (neg : Bool) (a0 a1 a2 a3 sc : Int), v = .agg #[.bool neg, .int .u64 a0, .int .u64 a1, .int .u64 a2, .int .u64 a3, .int .i64 sc] ∧ u64s a0 a1 a2 a3 = true := by
  obtain ⟨cs, rfl, -⟩ := okWide_struct Tryd.underlying26 hval
  obtain ⟨f0, t0⟩ := hd
  obtain ⟨l, rfl⟩ : ∃ l, cs = ⟨l⟩ := ⟨cs.toList, rfl⟩
  obtain ⟨neg, a0, a1, a2, a3, sc, e, hu⟩ := open_dec t0
  have e' : l = _ := e
  subst e'
  exact ⟨neg, a0, a1, a2, a3, sc, rfl, hu⟩
end

end Go.Proofs.YtddalcnajejibaaDoor
