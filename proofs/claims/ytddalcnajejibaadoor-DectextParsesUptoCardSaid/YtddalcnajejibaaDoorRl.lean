/- Numbers at a scale: what Ten, times, made, Check, may, round, Rescale, ParseAt come to; shapes of their runs. -/
import Derived.Test.YtddalcnajejibaaDoorRk
namespace Go.Proofs.YtddalcnajejibaaDoor
open Go Go.Am
set_option maxRecDepth 100000
set_option linter.unusedVariables false
set_option linter.unusedSimpArgs false

def two256 : Int := 115792089237316195423570985008687907853269984665640564039457584007913129639936
def sTen : List AV → Option AV
  | [.int .i64 n] => if 0 ≤ n ∧ n ≤ 77 then some (.tup [.agg (limbs (10 ^ n.toNat)), .bool true]) else none
  | _ => none
def sTimes : List AV → Option AV
  | [.agg [.int .u64 a0, .int .u64 a1, .int .u64 a2, .int .u64 a3], .int .i64 n] => if u64s a0 a1 a2 a3 = true ∧ 0 ≤ n ∧ n ≤ 77 then some (.agg (limbs (num4 a0 a1 a2 a3 * 10 ^ n.toNat / two256) ++ limbs (num4 a0 a1 a2 a3 * 10 ^ n.toNat % two256))) else none
  | _ => none
def nz4 (a b c d : Int) : Bool := !(a == 0 && (b == 0 && (c == 0 && (d == 0 && true))))
def sMade : List AV → Option AV
  | [.bool neg, .agg [.int .u64 h0, .int .u64 h1, .int .u64 h2, .int .u64 h3, .int .u64 l0, .int .u64 l1, .int .u64 l2, .int .u64 l3], .int .i64 sc] =>
    some (if nz4 h0 h1 h2 h3 then .tup [.agg [.bool false, .int .u64 0, .int .u64 0, .int .u64 0, .int .u64 0, .int .i64 0], .int .i64 7] else .tup [.agg [.bool (neg && nz4 l0 l1 l2 l3), .int .u64 l0, .int .u64 l1, .int .u64 l2, .int .u64 l3, .int .i64 sc], .int .i64 0])
  | _ => none
def sCheck : List AV → Option AV
  | [.agg [.bool neg, .int .u64 l0, .int .u64 l1, .int .u64 l2, .int .u64 l3, .int .i64 sc]] => some (.int .i64 (if decide (sc < 0) || decide (sc > 18) || (neg && !(nz4 l0 l1 l2 l3)) then 20 else 0))
  | _ => none
def sMay : List AV → Option AV
  | [.int .i64 sc, .int .i64 p] => some (.int .i64 (if decide (sc < 0) || decide (sc > 18) then 21 else if decide (p < 1) || decide (p > 5) then 22 else 0))
  | _ => none
def ag8 : Rs1 := .agg [.int .u64, .int .u64, .int .u64, .int .u64, .int .u64, .int .u64, .int .u64, .int .u64]
def tb71 : List TbE := [⟨63, fun vs _ => sFrom vs, .of ag4⟩, ⟨62, fun vs _ => sMul vs, .tup [ag4, ag4]⟩]
def tn4 (v : Int) : AObj := .row 24 4 (limbs v)
def q71t (n : Int) (v i : Int) : St := (envOf 24 [(2, .ptr (some (0, 0))), (4, .ptr (some (1, 0))), (13, .int .i64 n), (14, .int .i64 i)], [tn4 0, tn4 v])
def t71t : Tidy := ⟨dropT 24 [2, 4, 13, 14], .rows [0, 1]⟩
def x71t : Tidy := ⟨dropT 24 [2, 4], .rows [0, 1]⟩
def C71t : Cfg := tbC Q tb71 (fun _ => false) kdI
def C71T (n : Nat) : Cfg := { C71t with
  lw := fun id => if id = 5 then some fun st K => st = q71t n 1 0 ∧ K (.exit 0) (envOf 24 [(2, .ptr (some (0, 0))), (4, .ptr (some (1, 0)))], [tn4 0, tn4 (10 ^ n)]) else none
  F := fun id => if id = 5 then t71t else ⟨[], .all⟩ }
def tb36t : List TbE := [⟨65, fun vs _ => sFrom vs, .of ag4⟩, ⟨37, fun vs _ => sMul vs, .tup [ag4, ag4]⟩]
def q36t (n : Int) (v i : Int) : St := (envOf 26 [(0, .int .i64 n), (2, .ptr (some (0, 0))), (4, .ptr (some (1, 0))), (5, .int .i64 i)], [tn4 0, tn4 v])
def t36t : Tidy := ⟨dropT 26 [0, 2, 4, 5], .rows [0, 1]⟩
def x36t : Tidy := ⟨dropT 26 [2, 4], .rows [0, 1]⟩
def C36t : Cfg := tbC Q tb36t (fun _ => false) kdI
def C36T (n : Nat) : Cfg := { C36t with
  lw := fun id => if id = 5 then some fun st K => st = q36t n 1 0 ∧ K (.exit 0) (envOf 26 [(2, .ptr (some (0, 0))), (4, .ptr (some (1, 0)))], [tn4 0, tn4 (10 ^ n)]) else none
  F := fun id => if id = 5 then t36t else ⟨[], .all⟩ }
def tb42 : List TbE := [⟨71, fun vs _ => sTen vs, .tup [ag4, .one .bool]⟩, ⟨62, fun vs _ => sMul vs, .tup [ag4, ag4]⟩]
end Go.Proofs.YtddalcnajejibaaDoor
