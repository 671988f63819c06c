/- Dectext: Rc; written by mk03.py. -/
import Derived.Test.YtddalcnajejibaaDoorRb
namespace Go.Proofs.YtddalcnajejibaaDoor
open Go Go.Am
set_option maxRecDepth 100000
set_option maxHeartbeats 1000000
set_option linter.unusedVariables false
set_option linter.unusedSimpArgs false
def isD (c : UInt8) : Bool := decide (48 ≤ c.toNat) && decide (c.toNat ≤ 57)
def allD (s : List UInt8) : Bool := s.all isD
def foldD : Int → List UInt8 → Option Int
  | v, [] => some v
  | v, c :: l => if v * 10 + ((c.toNat : Int) - 48) ≥ 115792089237316195423570985008687907853269984665640564039457584007913129639936 then none else foldD (v * 10 + ((c.toNat : Int) - 48)) l
def parseN (s : List UInt8) : Int × Int :=
  if s.isEmpty then (0, 10) else if s.getD 0 0 == 48 && decide (1 < s.length) then (0, 10) else if allD s then (match foldD 0 s with
    | some v => (v, 0)
    | none => (0, 7)) else (0, 10)
def sParseN : List AV → Option AV
  | [.str s] => if s.length ≤ 1099511627776 then some (.tup [.agg (limbs (parseN s).1), .int .i64 (parseN s).2]) else none
  | _ => none
def kd53 (t : Nat) : Kd := if t = 32 ∨ t = 47 then .one (.int .u8) else if t = 72 then .agg [.int .u64, .int .u64, .int .u64, .int .u64] else .one (.int .u64)
def zr : AObj := .row 24 4 [.int .u64 0, .int .u64 0, .int .u64 0, .int .u64 0]
-- limb.Parse
def tbPR : List TbE := [⟨65, fun vs _ => sFrom vs, .of ag4⟩, ⟨37, fun vs _ => sMul vs, .tup [ag4, ag4]⟩, ⟨66, fun vs _ => sAdd vs, .tup [ag4, .one .bool]⟩]
def g56a (s : List UInt8) (i : Int) : St := (envOf 77 [(0, .str s), (2, .ptr (some (0, 0))), (3, .int .i64 0), (4, .int .i64 i)], [zr])
def t56a : Tidy := ⟨dropT 77 [0, 2, 3, 4], .rows [0]⟩
def x56a : Tidy := ⟨dropT 77 [0, 2, 3], .rows [0]⟩
def r56 : Tidy := ⟨dropT 77 [2, 3], .rows [0]⟩
def e56a (s : List UInt8) : St := (envOf 77 [(0, .str s), (2, .ptr (some (0, 0))), (3, .int .i64 0)], [zr])
def b56 (e : Int) : St := (envOf 77 [(2, .ptr (some (0, 0))), (3, .int .i64 e)], [zr])
def g56b (s : List UInt8) (v : Int) (i : Int) : St := (envOf 77 [(0, .str s), (2, .ptr (some (0, 0))), (3, .int .i64 0), (5, .ptr (some (1, 0))), (6, .int .i64 i)], [zr, .row 24 4 (limbs v)])
def t56b : Tidy := ⟨dropT 77 [0, 2, 3, 5, 6], .rows [0, 1]⟩
def x56b : Tidy := ⟨dropT 77 [2, 3, 5], .rows [0, 1]⟩
def e56b (v : Int) : St := (envOf 77 [(2, .ptr (some (0, 0))), (3, .int .i64 0), (5, .ptr (some (1, 0)))], [zr, .row 24 4 (limbs v)])
def C56a : Cfg := tbC Q tbPR (fun _ => false) kd53
def C56 (s : List UInt8) : Cfg := { tbC Q tbPR (fun _ => false) kd53 with
  lw := fun id => if id = 4 then some fun st K => st = g56a s 0 ∧ askB (allD s) (K (.exit 0) (e56a s)) (K .ret (b56 10))
    else if id = 12 then some fun st K => st = g56b s 0 0 ∧ allD s = true ∧ askB (foldD 0 s).isSome (K (.exit 2) (e56b ((foldD 0 s).getD 0))) (K .ret (b56 7)) else none
  F := fun id => if id = 4 then t56a else if id = 12 then t56b else ⟨[], .all⟩ }

theorem v56a (s : List UInt8) (i : Nat) (K : AExit → St → Prop) : (askB (decide ((↑i : Int) < (↑(List.length s) : Int))) (chkW (decide (i < List.length s)) (askB (decide ((↑(UInt8.toNat (List.getD s i 0)) : Int) < 48)) (K AExit.ret (envOf 77 [(2, AV.ptr (some (0, 0))), (3, AV.int .i64 10)], [AObj.row 24 4 [AV.int .u64 0, AV.int .u64 0, AV.int .u64 0, AV.int .u64 0]])) (chkW (decide (i < List.length s)) (askB (decide ((↑(UInt8.toNat (List.getD s i 0)) : Int) > 57)) (K AExit.ret (envOf 77 [(2, AV.ptr (some (0, 0))), (3, AV.int .i64 10)], [AObj.row 24 4 [AV.int .u64 0, AV.int .u64 0, AV.int .u64 0, AV.int .u64 0]])) (K AExit.normal (envOf 77 [(0, AV.str s), (2, AV.ptr (some (0, 0))), (3, AV.int .i64 0), (4, AV.int .i64 (IntKind.wrap .i64 ((↑i : Int) + 1)))], [AObj.row 24 4 [AV.int .u64 0, AV.int .u64 0, AV.int .u64 0, AV.int .u64 0]])))))) (K (AExit.exit 0) (envOf 77 [(0, AV.str s), (2, AV.ptr (some (0, 0))), (3, AV.int .i64 0)], [AObj.row 24 4 [AV.int .u64 0, AV.int .u64 0, AV.int .u64 0, AV.int .u64 0]]))) = (wpP Tryd.prog C56a 60 (.inl p56_l1) (g56a s i) (postX C56a t56a x56a r56 K)) := by kernel_rfl
theorem v56b (s : List UInt8) (v : Int) (i : Nat) (K : AExit → St → Prop) : (askB (decide ((↑i : Int) < (↑(List.length s) : Int))) (∃ (n : Int), ∃ (n_1 : Int), ∃ (n_2 : Int), ∃ (n_3 : Int), some (AV.agg [AV.int .u64 10, AV.int .u64 0, AV.int .u64 0, AV.int .u64 0]) = some (AV.agg [AV.int .u64 n, AV.int .u64 n_1, AV.int .u64 n_2, AV.int .u64 n_3]) ∧ ∃ (n_4 : Int), ∃ (n_5 : Int), ∃ (n_6 : Int), ∃ (n_7 : Int), ∃ (n_8 : Int), ∃ (n_9 : Int), ∃ (n_10 : Int), ∃ (n_11 : Int), TbE.s { f := 37, s := fun (vs : List AV) (x : AHeap) => sMul vs, r := Rs.tup [ag4, ag4] } [AV.agg [AV.int .u64 (v % 18446744073709551616), AV.int .u64 (v / 18446744073709551616 % 18446744073709551616), AV.int .u64 (v / 18446744073709551616 / 18446744073709551616 % 18446744073709551616), AV.int .u64 (v / 18446744073709551616 / 18446744073709551616 / 18446744073709551616 % 18446744073709551616)], AV.agg [AV.int .u64 n, AV.int .u64 n_1, AV.int .u64 n_2, AV.int .u64 n_3]] [AObj.row 24 4 [AV.int .u64 0, AV.int .u64 0, AV.int .u64 0, AV.int .u64 0], AObj.row 24 4 [AV.int .u64 (v % 18446744073709551616), AV.int .u64 (v / 18446744073709551616 % 18446744073709551616), AV.int .u64 (v / 18446744073709551616 / 18446744073709551616 % 18446744073709551616), AV.int .u64 (v / 18446744073709551616 / 18446744073709551616 / 18446744073709551616 % 18446744073709551616)], AObj.hole, AObj.hole] = some (AV.tup [AV.agg [AV.int .u64 n_4, AV.int .u64 n_5, AV.int .u64 n_6, AV.int .u64 n_7], AV.agg [AV.int .u64 n_8, AV.int .u64 n_9, AV.int .u64 n_10, AV.int .u64 n_11]]) ∧ chkW (decide (i < List.length s)) (∃ (n : Int), ∃ (n_12 : Int), ∃ (n_13 : Int), ∃ (n_14 : Int), some (AV.agg [AV.int .u64 (IntKind.wrap .u64 (IntKind.wrap .u8 ((↑(UInt8.toNat (List.getD s i 0)) : Int) - 48))), AV.int .u64 0, AV.int .u64 0, AV.int .u64 0]) = some (AV.agg [AV.int .u64 n, AV.int .u64 n_12, AV.int .u64 n_13, AV.int .u64 n_14]) ∧ ∃ (n_15 : Int), ∃ (n_16 : Int), ∃ (n_17 : Int), ∃ (n_18 : Int), ∃ (b : Bool), TbE.s { f := 66, s := fun (vs : List AV) (x : AHeap) => sAdd vs, r := Rs.tup [ag4, Rs1.one K1.bool] } [AV.agg [AV.int .u64 n_8, AV.int .u64 n_9, AV.int .u64 n_10, AV.int .u64 n_11], AV.agg [AV.int .u64 n, AV.int .u64 n_12, AV.int .u64 n_13, AV.int .u64 n_14]] [AObj.row 24 4 [AV.int .u64 0, AV.int .u64 0, AV.int .u64 0, AV.int .u64 0], AObj.row 24 4 [AV.int .u64 (v % 18446744073709551616), AV.int .u64 (v / 18446744073709551616 % 18446744073709551616), AV.int .u64 (v / 18446744073709551616 / 18446744073709551616 % 18446744073709551616), AV.int .u64 (v / 18446744073709551616 / 18446744073709551616 / 18446744073709551616 % 18446744073709551616)], AObj.row 24 4 [AV.int .u64 n_4, AV.int .u64 n_5, AV.int .u64 n_6, AV.int .u64 n_7], AObj.row 24 4 [AV.int .u64 n_8, AV.int .u64 n_9, AV.int .u64 n_10, AV.int .u64 n_11], AObj.hole] = some (AV.tup [AV.agg [AV.int .u64 n_15, AV.int .u64 n_16, AV.int .u64 n_17, AV.int .u64 n_18], AV.bool b]) ∧ askB b (askB (!(n_4 == 0 && (n_5 == 0 && (n_6 == 0 && (n_7 == 0 && true))))) (K AExit.ret (envOf 77 [(2, AV.ptr (some (0, 0))), (3, AV.int .i64 7)], [AObj.row 24 4 [AV.int .u64 0, AV.int .u64 0, AV.int .u64 0, AV.int .u64 0]])) (K AExit.ret (envOf 77 [(2, AV.ptr (some (0, 0))), (3, AV.int .i64 7)], [AObj.row 24 4 [AV.int .u64 0, AV.int .u64 0, AV.int .u64 0, AV.int .u64 0]]))) (askB (!(n_4 == 0 && (n_5 == 0 && (n_6 == 0 && (n_7 == 0 && true))))) (K AExit.ret (envOf 77 [(2, AV.ptr (some (0, 0))), (3, AV.int .i64 7)], [AObj.row 24 4 [AV.int .u64 0, AV.int .u64 0, AV.int .u64 0, AV.int .u64 0]])) (K AExit.normal (envOf 77 [(0, AV.str s), (2, AV.ptr (some (0, 0))), (3, AV.int .i64 0), (5, AV.ptr (some (1, 0))), (6, AV.int .i64 (IntKind.wrap .i64 ((↑i : Int) + 1)))], [AObj.row 24 4 [AV.int .u64 0, AV.int .u64 0, AV.int .u64 0, AV.int .u64 0], AObj.row 24 4 [AV.int .u64 n_15, AV.int .u64 n_16, AV.int .u64 n_17, AV.int .u64 n_18]]))))) (K (AExit.exit 2) (envOf 77 [(2, AV.ptr (some (0, 0))), (3, AV.int .i64 0), (5, AV.ptr (some (1, 0)))], [AObj.row 24 4 [AV.int .u64 0, AV.int .u64 0, AV.int .u64 0, AV.int .u64 0], AObj.row 24 4 [AV.int .u64 (v % 18446744073709551616), AV.int .u64 (v / 18446744073709551616 % 18446744073709551616), AV.int .u64 (v / 18446744073709551616 / 18446744073709551616 % 18446744073709551616), AV.int .u64 (v / 18446744073709551616 / 18446744073709551616 / 18446744073709551616 % 18446744073709551616)]]))) = (wpP Tryd.prog C56a 80 (.inl p56_l0) (g56b s v i) (postX C56a t56b x56b r56 K)) := by kernel_rfl
theorem v56 (s : List UInt8) (R : AV → AHeap → Prop) : (askB (s == []) (R (AV.tup [AV.agg [AV.int .u64 0, AV.int .u64 0, AV.int .u64 0, AV.int .u64 0], AV.int .i64 10]) [AObj.row 24 4 [AV.int .u64 0, AV.int .u64 0, AV.int .u64 0, AV.int .u64 0]]) (chkW (decide (0 < List.length s)) (askB ((↑(UInt8.toNat (List.getD s 0 0)) : Int) == 48) (askB (decide ((↑(List.length s) : Int) > 1)) (R (AV.tup [AV.agg [AV.int .u64 0, AV.int .u64 0, AV.int .u64 0, AV.int .u64 0], AV.int .i64 10]) [AObj.row 24 4 [AV.int .u64 0, AV.int .u64 0, AV.int .u64 0, AV.int .u64 0]]) ((envOf 77 [(0, AV.str s), (2, AV.ptr (some (0, 0))), (3, AV.int .i64 0), (4, AV.int .i64 0)], [AObj.row 24 4 [AV.int .u64 0, AV.int .u64 0, AV.int .u64 0, AV.int .u64 0]]) = (envOf 77 [(0, AV.str s), (2, AV.ptr (some (0, 0))), (3, AV.int .i64 0), (4, AV.int .i64 0)], [AObj.row 24 4 [AV.int .u64 0, AV.int .u64 0, AV.int .u64 0, AV.int .u64 0]]) ∧ askB (allD s) (askB (decide ((↑(List.length s) : Int) > 78)) (R (AV.tup [AV.agg [AV.int .u64 0, AV.int .u64 0, AV.int .u64 0, AV.int .u64 0], AV.int .i64 7]) [AObj.row 24 4 [AV.int .u64 0, AV.int .u64 0, AV.int .u64 0, AV.int .u64 0]]) ((envOf 77 [(0, AV.str s), (2, AV.ptr (some (0, 0))), (3, AV.int .i64 0), (5, AV.ptr (some (1, 0))), (6, AV.int .i64 0)], [AObj.row 24 4 [AV.int .u64 0, AV.int .u64 0, AV.int .u64 0, AV.int .u64 0], AObj.row 24 4 [AV.int .u64 0, AV.int .u64 0, AV.int .u64 0, AV.int .u64 0]]) = (envOf 77 [(0, AV.str s), (2, AV.ptr (some (0, 0))), (3, AV.int .i64 0), (5, AV.ptr (some (1, 0))), (6, AV.int .i64 0)], [AObj.row 24 4 [AV.int .u64 0, AV.int .u64 0, AV.int .u64 0, AV.int .u64 0], AObj.row 24 4 [AV.int .u64 0, AV.int .u64 0, AV.int .u64 0, AV.int .u64 0]]) ∧ allD s = true ∧ askB (Option.isSome (foldD 0 s)) (R (AV.tup [AV.agg [AV.int .u64 (Option.getD (foldD 0 s) 0 % 18446744073709551616), AV.int .u64 (Option.getD (foldD 0 s) 0 / 18446744073709551616 % 18446744073709551616), AV.int .u64 (Option.getD (foldD 0 s) 0 / 18446744073709551616 / 18446744073709551616 % 18446744073709551616), AV.int .u64 (Option.getD (foldD 0 s) 0 / 18446744073709551616 / 18446744073709551616 / 18446744073709551616 % 18446744073709551616)], AV.int .i64 0]) [AObj.row 24 4 [AV.int .u64 (Option.getD (foldD 0 s) 0 % 18446744073709551616), AV.int .u64 (Option.getD (foldD 0 s) 0 / 18446744073709551616 % 18446744073709551616), AV.int .u64 (Option.getD (foldD 0 s) 0 / 18446744073709551616 / 18446744073709551616 % 18446744073709551616), AV.int .u64 (Option.getD (foldD 0 s) 0 / 18446744073709551616 / 18446744073709551616 / 18446744073709551616 % 18446744073709551616)], AObj.row 24 4 [AV.int .u64 (Option.getD (foldD 0 s) 0 % 18446744073709551616), AV.int .u64 (Option.getD (foldD 0 s) 0 / 18446744073709551616 % 18446744073709551616), AV.int .u64 (Option.getD (foldD 0 s) 0 / 18446744073709551616 / 18446744073709551616 % 18446744073709551616), AV.int .u64 (Option.getD (foldD 0 s) 0 / 18446744073709551616 / 18446744073709551616 / 18446744073709551616 % 18446744073709551616)]]) (R (AV.tup [AV.agg [AV.int .u64 0, AV.int .u64 0, AV.int .u64 0, AV.int .u64 0], AV.int .i64 7]) [AObj.row 24 4 [AV.int .u64 0, AV.int .u64 0, AV.int .u64 0, AV.int .u64 0]]))) (R (AV.tup [AV.agg [AV.int .u64 0, AV.int .u64 0, AV.int .u64 0, AV.int .u64 0], AV.int .i64 10]) [AObj.row 24 4 [AV.int .u64 0, AV.int .u64 0, AV.int .u64 0, AV.int .u64 0]]))) ((envOf 77 [(0, AV.str s), (2, AV.ptr (some (0, 0))), (3, AV.int .i64 0), (4, AV.int .i64 0)], [AObj.row 24 4 [AV.int .u64 0, AV.int .u64 0, AV.int .u64 0, AV.int .u64 0]]) = (envOf 77 [(0, AV.str s), (2, AV.ptr (some (0, 0))), (3, AV.int .i64 0), (4, AV.int .i64 0)], [AObj.row 24 4 [AV.int .u64 0, AV.int .u64 0, AV.int .u64 0, AV.int .u64 0]]) ∧ askB (allD s) (askB (decide ((↑(List.length s) : Int) > 78)) (R (AV.tup [AV.agg [AV.int .u64 0, AV.int .u64 0, AV.int .u64 0, AV.int .u64 0], AV.int .i64 7]) [AObj.row 24 4 [AV.int .u64 0, AV.int .u64 0, AV.int .u64 0, AV.int .u64 0]]) ((envOf 77 [(0, AV.str s), (2, AV.ptr (some (0, 0))), (3, AV.int .i64 0), (5, AV.ptr (some (1, 0))), (6, AV.int .i64 0)], [AObj.row 24 4 [AV.int .u64 0, AV.int .u64 0, AV.int .u64 0, AV.int .u64 0], AObj.row 24 4 [AV.int .u64 0, AV.int .u64 0, AV.int .u64 0, AV.int .u64 0]]) = (envOf 77 [(0, AV.str s), (2, AV.ptr (some (0, 0))), (3, AV.int .i64 0), (5, AV.ptr (some (1, 0))), (6, AV.int .i64 0)], [AObj.row 24 4 [AV.int .u64 0, AV.int .u64 0, AV.int .u64 0, AV.int .u64 0], AObj.row 24 4 [AV.int .u64 0, AV.int .u64 0, AV.int .u64 0, AV.int .u64 0]]) ∧ allD s = true ∧ askB (Option.isSome (foldD 0 s)) (R (AV.tup [AV.agg [AV.int .u64 (Option.getD (foldD 0 s) 0 % 18446744073709551616), AV.int .u64 (Option.getD (foldD 0 s) 0 / 18446744073709551616 % 18446744073709551616), AV.int .u64 (Option.getD (foldD 0 s) 0 / 18446744073709551616 / 18446744073709551616 % 18446744073709551616), AV.int .u64 (Option.getD (foldD 0 s) 0 / 18446744073709551616 / 18446744073709551616 / 18446744073709551616 % 18446744073709551616)], AV.int .i64 0]) [AObj.row 24 4 [AV.int .u64 (Option.getD (foldD 0 s) 0 % 18446744073709551616), AV.int .u64 (Option.getD (foldD 0 s) 0 / 18446744073709551616 % 18446744073709551616), AV.int .u64 (Option.getD (foldD 0 s) 0 / 18446744073709551616 / 18446744073709551616 % 18446744073709551616), AV.int .u64 (Option.getD (foldD 0 s) 0 / 18446744073709551616 / 18446744073709551616 / 18446744073709551616 % 18446744073709551616)], AObj.row 24 4 [AV.int .u64 (Option.getD (foldD 0 s) 0 % 18446744073709551616), AV.int .u64 (Option.getD (foldD 0 s) 0 / 18446744073709551616 % 18446744073709551616), AV.int .u64 (Option.getD (foldD 0 s) 0 / 18446744073709551616 / 18446744073709551616 % 18446744073709551616), AV.int .u64 (Option.getD (foldD 0 s) 0 / 18446744073709551616 / 18446744073709551616 / 18446744073709551616 % 18446744073709551616)]]) (R (AV.tup [AV.agg [AV.int .u64 0, AV.int .u64 0, AV.int .u64 0, AV.int .u64 0], AV.int .i64 7]) [AObj.row 24 4 [AV.int .u64 0, AV.int .u64 0, AV.int .u64 0, AV.int .u64 0]]))) (R (AV.tup [AV.agg [AV.int .u64 0, AV.int .u64 0, AV.int .u64 0, AV.int .u64 0], AV.int .i64 10]) [AObj.row 24 4 [AV.int .u64 0, AV.int .u64 0, AV.int .u64 0, AV.int .u64 0]]))))) = (wpF Tryd.prog (C56 s) 80 p56 [.str s] [] R) := by kernel_rfl

theorem allD_at {s : List UInt8} (h : allD s = true) {i : Nat} (hi : i < s.length) : isD (s.getD i 0) = true := by
  unfold allD at h
  rw [List.all_eq_true] at h
  rw [List.getD_eq_getElem?_getD, List.getElem?_eq_getElem hi]
  exact h _ (List.getElem_mem hi)
theorem allD_of {s : List UInt8} (h : ∀ i, i < s.length → isD (s.getD i 0) = true) : allD s = true := by
  unfold allD
  rw [List.all_eq_true]
  intro c hc
  obtain ⟨i, hi, rfl⟩ := List.getElem_of_mem hc
  have := h i hi
  rwa [List.getD_eq_getElem?_getD, List.getElem?_eq_getElem hi] at this
theorem mul_ten {v : Int} (h0 : 0 ≤ v) (h1 : v < 115792089237316195423570985008687907853269984665640564039457584007913129639936) : sMul [.agg (limbs v), .agg [.int .u64 10, .int .u64 0, .int .u64 0, .int .u64 0]] = some (.tup [.agg (limbs (v * 10 / 115792089237316195423570985008687907853269984665640564039457584007913129639936)), .agg (limbs (v * 10))]) := by
  unfold limbs sMul
  have hu : (u64s (v % 18446744073709551616) (v / 18446744073709551616 % 18446744073709551616) (v / 18446744073709551616 / 18446744073709551616 % 18446744073709551616) (v / 18446744073709551616 / 18446744073709551616 / 18446744073709551616 % 18446744073709551616) && u64s 10 0 0 0) = true := by
    simp only [u64s, u64B, Bool.and_eq_true, decide_eq_true_eq]; omega
  simp only [hu, if_true]
  have hn : num4 (v % 18446744073709551616) (v / 18446744073709551616 % 18446744073709551616) (v / 18446744073709551616 / 18446744073709551616 % 18446744073709551616) (v / 18446744073709551616 / 18446744073709551616 / 18446744073709551616 % 18446744073709551616) = v := by unfold num4; omega
  have ht : num4 10 0 0 0 = 10 := by unfold num4; omega
  rw [hn, ht]
  rfl
theorem add_dig {w d : Int} (h0 : 0 ≤ w) (hd : 0 ≤ d) (hd2 : d < 10) : sAdd [.agg (limbs w), .agg [.int .u64 d, .int .u64 0, .int .u64 0, .int .u64 0]] = some (.tup [.agg (limbs (w % 115792089237316195423570985008687907853269984665640564039457584007913129639936 + d)), .bool (decide (w % 115792089237316195423570985008687907853269984665640564039457584007913129639936 + d ≥ 115792089237316195423570985008687907853269984665640564039457584007913129639936))]) := by
  unfold limbs sAdd
  have hu : (u64s (w % 18446744073709551616) (w / 18446744073709551616 % 18446744073709551616) (w / 18446744073709551616 / 18446744073709551616 % 18446744073709551616) (w / 18446744073709551616 / 18446744073709551616 / 18446744073709551616 % 18446744073709551616) && u64s d 0 0 0) = true := by
    simp only [u64s, u64B, Bool.and_eq_true, decide_eq_true_eq]; omega
  simp only [hu, if_true]
  have hn : num4 (w % 18446744073709551616) (w / 18446744073709551616 % 18446744073709551616) (w / 18446744073709551616 / 18446744073709551616 % 18446744073709551616) (w / 18446744073709551616 / 18446744073709551616 / 18446744073709551616 % 18446744073709551616) = w % 115792089237316195423570985008687907853269984665640564039457584007913129639936 := by unfold num4; omega
  have ht : num4 d 0 0 0 = d := by unfold num4; omega
  rw [hn, ht]
  rfl
theorem high0 {h : Int} (h0 : 0 ≤ h) (h1 : h < 10) : (!(h % 18446744073709551616 == 0 && (h / 18446744073709551616 % 18446744073709551616 == 0 && (h / 18446744073709551616 / 18446744073709551616 % 18446744073709551616 == 0 && (h / 18446744073709551616 / 18446744073709551616 / 18446744073709551616 % 18446744073709551616 == 0 && true))))) = decide (h ≠ 0) := by
  have e1 : h % 18446744073709551616 = h := by omega
  have e2 : h / 18446744073709551616 = 0 := by omega
  rw [e1, e2]
  by_cases hz : h = 0
  · subst hz; rfl
  · have : (h == 0) = false := by simpa using hz
    rw [this, decide_eq_true hz]; rfl
theorem drop_cons {s : List UInt8} {i : Nat} (h : i < s.length) : s.drop i = s.getD i 0 :: s.drop (i + 1) := by
  rw [List.drop_eq_getElem_cons h, List.getD_eq_getElem?_getD, List.getElem?_eq_getElem h]; rfl
theorem fold_step {v : Int} {s : List UInt8} {i : Nat} (h : i < s.length) : foldD v (s.drop i) = if v * 10 + (((s.getD i 0).toNat : Int) - 48) ≥ 115792089237316195423570985008687907853269984665640564039457584007913129639936 then none else foldD (v * 10 + (((s.getD i 0).toNat : Int) - 48)) (s.drop (i + 1)) := by
  rw [drop_cons h]; rfl
theorem fold_end {v : Int} {s : List UInt8} {i : Nat} (h : s.length ≤ i) : foldD v (s.drop i) = some v := by
  rw [List.drop_eq_nil_of_le h]; rfl

theorem loop56a (s : List UInt8) (hs : s.length ≤ 1099511627776) : W Tryd.prog (tbS Q tbPR) 0 (.inl (.loop p56_l1)) (g56a s 0) (fun e st => if allD s = true then e = .exit 0 ∧ st = e56a s else e = .ret ∧ st = b56 10) := by
  have hcw : CwOK (tbS Q tbPR) (tbW Q tbPR) := tbW_ok rfl
  have main := W_roundsG (P := Tryd.prog) (S := tbS Q tbPR) (b0 := 0) (a := p56_l1) (fun i : Nat => g56a s i) (fun i => i ≤ s.length ∧ ∀ j, j < i → isD (s.getD j 0) = true) (fun i => s.length - i)
    (fun _ e st => if allD s = true then e = .exit 0 ∧ st = e56a s else e = .ret ∧ st = b56 10) ?_ 0 ⟨by omega, fun j hj => by omega⟩
  · exact main
  · rintro i ⟨h1, h2⟩
    refine W_wpX (C := C56a) hcw (by intro x hx; cases hx) (n := 60) (tn := t56a) (tx := x56a) (tr := r56) ((v56a s i _).mp ?_)
    rcases Nat.lt_or_ge i s.length with hi | hi
    · have hbad : isD (s.getD i 0) = false → (if allD s = true then AExit.ret = .exit 0 ∧ b56 10 = e56a s else AExit.ret = .ret ∧ b56 10 = b56 10) := fun h => by
        rw [if_neg (fun ha => by rw [allD_at ha hi] at h; cases h)]; exact ⟨rfl, rfl⟩
      have hi1 : IntKind.wrap .i64 ((i : Int) + 1) = ((i + 1 : Nat) : Int) := by rw [IntKind.wrap_i64]; omega
      refine askT (decide_eq_true (by omega)) (chkI (decide_eq_true (by omega)) (askI (fun g1 => hbad ?_) fun g1 => chkI (decide_eq_true (by omega)) (askI (fun g2 => hbad ?_) fun g2 => ⟨i + 1, by rw [hi1]; rfl, ⟨by omega, fun j hj => ?_⟩, by omega, fun e st h => h⟩)))
      · simp only [decide_eq_true_eq] at g1
        unfold isD; rw [decide_eq_false (by omega)]; rfl
      · simp only [decide_eq_true_eq] at g2
        unfold isD; rw [decide_eq_false (p := (s.getD i 0).toNat ≤ 57) (by omega), Bool.and_false]
      · simp only [decide_eq_false_iff_not] at g1 g2
        rcases Nat.lt_or_ge j i with q | q
        · exact h2 j q
        · obtain rfl : j = i := by omega
          unfold isD; rw [decide_eq_true (by omega), decide_eq_true (p := (s.getD j 0).toNat ≤ 57) (by omega)]; rfl
    · refine askF (decide_eq_false (by omega)) ?_
      show if allD s = true then _ else _
      rw [if_pos (allD_of fun j hj => h2 j (by omega))]
      exact ⟨rfl, rfl⟩

theorem loop56b (s : List UInt8) (hs : s.length ≤ 1099511627776) (hD : allD s = true) : W Tryd.prog (tbS Q tbPR) 0 (.inl (.loop p56_l0)) (g56b s 0 0) (fun e st => if (foldD 0 s).isSome = true then e = .exit 2 ∧ st = e56b ((foldD 0 s).getD 0) else e = .ret ∧ st = b56 7) := by
  have hcw : CwOK (tbS Q tbPR) (tbW Q tbPR) := tbW_ok rfl
  have main := W_roundsG (P := Tryd.prog) (S := tbS Q tbPR) (b0 := 0) (a := p56_l0) (fun p : Nat × Int => g56b s p.2 p.1) (fun p => p.1 ≤ s.length ∧ 0 ≤ p.2 ∧ p.2 < 115792089237316195423570985008687907853269984665640564039457584007913129639936 ∧ foldD 0 s = foldD p.2 (s.drop p.1)) (fun p => s.length - p.1)
    (fun _ e st => if (foldD 0 s).isSome = true then e = .exit 2 ∧ st = e56b ((foldD 0 s).getD 0) else e = .ret ∧ st = b56 7) ?_ (0, 0) ⟨by show 0 ≤ s.length; omega, by show (0 : Int) ≤ 0; omega, by show (0 : Int) < 115792089237316195423570985008687907853269984665640564039457584007913129639936; omega, rfl⟩
  · exact main
  · rintro ⟨i, v⟩ ⟨h1, h2, h3, h4⟩
    simp only at h1 h2 h3 h4
    refine W_wpX (C := C56a) hcw (by intro x hx; cases hx) (n := 80) (tn := t56b) (tx := x56b) (tr := r56) ((v56b s v i _).mp ?_)
    rcases Nat.lt_or_ge i s.length with hi | hi
    · have hd := allD_at hD hi
      simp only [isD, Bool.and_eq_true, decide_eq_true_eq] at hd
      have hst := fold_step (v := v) hi
      obtain ⟨d, hdd⟩ : ∃ d : Int, d = ((s.getD i 0).toNat : Int) - 48 := ⟨_, rfl⟩
      have hw : IntKind.wrap .u64 (IntKind.wrap .u8 (((s.getD i 0).toNat : Int) - 48)) = d := by rw [IntKind.wrap_u8, IntKind.wrap_u64]; omega
      rw [← hdd, ← h4] at hst
      have hi1 : IntKind.wrap .i64 ((i : Int) + 1) = ((i + 1 : Nat) : Int) := by rw [IntKind.wrap_i64]; omega
      have hbad : v * 10 + d ≥ 115792089237316195423570985008687907853269984665640564039457584007913129639936 → (if (foldD 0 s).isSome = true then AExit.ret = .exit 2 ∧ b56 7 = e56b ((foldD 0 s).getD 0) else AExit.ret = .ret ∧ b56 7 = b56 7) := fun h => by
        rw [hst, if_pos h]; exact ⟨rfl, rfl⟩
      skip
      refine askT (decide_eq_true (by omega)) ⟨10, 0, 0, 0, rfl, _, _, _, _, _, _, _, _, mul_ten h2 h3, chkI (decide_eq_true (by omega)) ⟨_, _, _, _, rfl, ?_⟩⟩
      rw [hw]
      refine ⟨_, _, _, _, _, add_dig (w := v * 10) (by omega) (by omega) (by omega), askI (fun g1 => ?_) fun g1 => ?_⟩
      · simp only [decide_eq_true_eq] at g1
        exact askI (fun g2 => hbad (by omega)) fun g2 => hbad (by omega)
      rw [high0 (by omega) (by omega)]
      refine askI (fun g2 => hbad ?_) fun g2 => ?_
      · simp only [decide_eq_true_eq] at g2; omega
      simp only [decide_eq_false_iff_not] at g1 g2
      have hm : v * 10 % 115792089237316195423570985008687907853269984665640564039457584007913129639936 = v * 10 := by omega
      refine ⟨(i + 1, v * 10 + d), ?_, ⟨by show i + 1 ≤ s.length; omega, by show 0 ≤ v * 10 + d; omega, by show v * 10 + d < 115792089237316195423570985008687907853269984665640564039457584007913129639936; omega, ?_⟩, by show s.length - (i + 1) < s.length - i; omega, fun e st h => h⟩
      · rw [hm, hi1]; rfl
      · show foldD 0 s = foldD (v * 10 + d) (s.drop (i + 1))
        rw [hst, if_neg (by omega)]
    · have hf := fold_end (v := v) hi
      rw [← h4] at hf
      refine askF (decide_eq_false (by omega)) ?_
      skip
      show if (foldD 0 s).isSome = true then _ else _
      rw [hf]
      exact ⟨rfl, rfl⟩

theorem eq48 (c : UInt8) : (((c.toNat : Nat) : Int) == 48) = (c == 48) := by
  have h := ne_u8 c 48
  rw [bne, bne] at h
  exact Bool.not_inj h
theorem pn_zero {s : List UInt8} (h : s ≠ []) (hz : (s.getD 0 0 == 48) = true) (hl : 1 < s.length) : parseN s = (0, 10) := by
  unfold parseN
  have he : s.isEmpty = false := by cases s with | nil => exact absurd rfl h | cons _ _ => rfl
  rw [if_neg (by rw [he]; decide), if_pos (by rw [hz, decide_eq_true hl]; rfl)]
theorem pn_rest {s : List UInt8} (h : s ≠ []) (hz : (s.getD 0 0 == 48) = false ∨ ¬ 1 < s.length) : parseN s = if allD s = true then (match foldD 0 s with
    | some v => ((v, 0) : Int × Int)
    | none => (0, 7)) else (0, 10) := by
  have he : s.isEmpty = false := by cases s with | nil => exact absurd rfl h | cons _ _ => rfl
  have h2 : ¬ ((s.getD 0 0 == 48 && decide (1 < s.length)) = true) := by
    rcases hz with hz | hz
    · rw [hz]; simp
    · rw [decide_eq_false hz]; simp
  unfold parseN
  rw [if_neg (by rw [he]; decide), if_neg h2]
  all_goals
    by_cases hA : allD s = true
    · rw [if_pos hA, if_pos hA]
      try (cases foldD 0 s <;> rfl)
    · rw [if_neg hA, if_neg hA]
theorem fold_ge : ∀ (l : List UInt8) (v r : Int), 0 ≤ v → allD l = true → foldD v l = some r → v * 10 ^ l.length ≤ r
  | [], v, r, _, _, h => by
    simp only [foldD, Option.some.injEq] at h
    subst h; simp
  | c :: l, v, r, hv, hA, h => by
    have hc : isD c = true ∧ allD l = true := by simpa [allD] using hA
    have hd := hc.1
    simp only [isD, Bool.and_eq_true, decide_eq_true_eq] at hd
    simp only [foldD] at h
    split at h
    · cases h
    · have := fold_ge l _ r (by omega) hc.2 h
      refine Int.le_trans ?_ this
      rw [List.length_cons, Int.pow_succ, Int.mul_comm (10 ^ l.length) 10, ← Int.mul_assoc]
      refine Int.mul_le_mul_of_nonneg_right (by omega) ?_
      exact Int.le_of_lt (Int.pow_pos (by decide))
theorem fold_lt : ∀ (l : List UInt8) (v r : Int), v < 115792089237316195423570985008687907853269984665640564039457584007913129639936 → foldD v l = some r → r < 115792089237316195423570985008687907853269984665640564039457584007913129639936
  | [], v, r, hv, h => by simp only [foldD, Option.some.injEq] at h; omega
  | c :: l, v, r, hv, h => by
    simp only [foldD] at h
    split at h
    · cases h
    · exact fold_lt l _ r (by omega) h
theorem fold_long {s : List UInt8} (hA : allD s = true) (hl : 78 < s.length) (hz : (s.getD 0 0 == 48) = false ∨ s.length ≤ 1) : foldD 0 s = none := by
  rcases hz with hz | hz
  · cases hx : foldD 0 s with
    | none => rfl
    | some r =>
      exfalso
      cases s with
      | nil => simp at hl
      | cons c l =>
        have hc : isD c = true ∧ allD l = true := by simpa [allD] using hA
        have hd := hc.1
        simp only [isD, Bool.and_eq_true, decide_eq_true_eq] at hd
        have hz2 : c ≠ 48 := by simpa using hz
        have hz3 : c.toNat ≠ 48 := fun h => hz2 (UInt8.toNat_inj.1 h)
        have hr := fold_lt _ _ r (by omega) hx
        simp only [foldD] at hx
        split at hx
        · cases hx
        · have hg := fold_ge l _ r (by omega) hc.2 hx
          simp only [List.length_cons] at hl
          obtain ⟨k, hk⟩ : ∃ k, l.length = 78 + k := ⟨l.length - 78, by omega⟩
          rw [hk, Int.pow_add] at hg
          have h1 : (1 : Int) ≤ 10 ^ k := Int.pow_pos (by decide)
          have h78 : (10 : Int) ^ 78 = 1000000000000000000000000000000000000000000000000000000000000000000000000000000 := by decide +kernel
          rw [h78] at hg
          have h2 : (1 : Int) * (1000000000000000000000000000000000000000000000000000000000000000000000000000000 * 1) ≤ (0 * 10 + ((c.toNat : Int) - 48)) * (1000000000000000000000000000000000000000000000000000000000000000000000000000000 * 10 ^ k) :=
            Int.mul_le_mul (by omega) (by omega) (by decide) (by omega)
          omega
  · omega

theorem parseR_ok : QuietOK Tryd.prog 34 fun vs _ => sParseN vs := quiet_plain ht56 fun args v h => by
  unfold sParseN at h
  split at h
  · rename_i s
    split at h
    · rename_i hs
      cases h
      refine ⟨rfl, rfl, ?_⟩
      have hS : (tbS Q tbPR).OK Tryd.prog := tbS_ok quietText (by
        intro x hx
        simp only [tbPR, List.mem_cons, List.not_mem_nil, or_false] at hx
        rcases hx with rfl | rfl | rfl
        · exact fromR_ok
        · exact mulR_ok
        · exact addR_ok)
      by_cases hD : allD s = true ∨ allD s = false
      · obtain ⟨u, h', rfl, hsem⟩ := sem_vc mixed (C := C56 s) hS (tbS_q _ _) (tbW_ok rfl) ht56 c56 (fun x hx => by
          have e : partsIn p56.body = [.loop p56_l1, .loop p56_l0] := rfl
          rw [e] at hx
          simp only [List.mem_cons, List.not_mem_nil, or_false] at hx
          rcases hx with rfl | rfl
          · exact part_loop (id := 4) rfl rfl fun st K hT => by
              obtain ⟨rfl, hk⟩ := hT
              refine W_mono (loop56a s hs) fun e st he => ?_
              rcases askD hk with ⟨h1, h2⟩ | ⟨h1, h2⟩
              · rw [if_pos h1] at he; obtain ⟨rfl, rfl⟩ := he; exact h2
              · rw [if_neg (by rw [h1]; decide)] at he; obtain ⟨rfl, rfl⟩ := he; exact h2
          · by_cases hA : allD s = true
            · exact part_loop (id := 12) rfl rfl fun st K hT => by
                obtain ⟨rfl, _, hk⟩ := hT
                refine W_mono (loop56b s hs hA) fun e st he => ?_
                rcases askD hk with ⟨h1, h2⟩ | ⟨h1, h2⟩
                · rw [if_pos h1] at he; obtain ⟨rfl, rfl⟩ := he; exact h2
                · rw [if_neg (by rw [h1]; decide)] at he; obtain ⟨rfl, rfl⟩ := he; exact h2
            · exact part_loop (id := 12) rfl rfl fun st K hT => (hA hT.2.1).elim) (v56 s fun u _ => u = .tup [.agg (limbs (parseN s).1), .int .i64 (parseN s).2]) (by
        refine askI (fun h0 => ?_) fun h0 => ?_
        · have : s = [] := by simpa using h0
          subst this; rfl
        have hne : s ≠ [] := by simpa using h0
        have hpos : 0 < s.length := by cases s with | nil => exact absurd rfl hne | cons _ _ => simp
        refine chkI (decide_eq_true hpos) (askI (fun h1 => askI (fun h2 => ?_) fun h2 => ?_) fun h1 => ?_)
        · have hz : s.getD 0 0 == 48 := by rw [← eq48]; exact h1
          simp only [decide_eq_true_eq] at h2
          rw [pn_zero hne hz (by omega)]; rfl
        · simp only [decide_eq_false_iff_not] at h2
          have hp := pn_rest hne (.inr (show ¬ 1 < s.length by omega))
          have hz : (s.getD 0 0 == 48) = false ∨ s.length ≤ 1 := .inr (by omega)
          refine ⟨rfl, askI (fun hA => askI (fun hL => ?_) fun hL => ⟨rfl, hA, askI (fun hF => ?_) fun hF => ?_⟩) fun hA => ?_⟩
          · simp only [decide_eq_true_eq] at hL
            have hn : foldD 0 s = none := fold_long hA (by omega) hz
            rw [hp, if_pos hA, hn]
            rfl
          · obtain ⟨v, hv⟩ := Option.isSome_iff_exists.1 hF
            rw [hp, if_pos hA, hv]
            rfl
          · have hn : foldD 0 s = none := by
              cases hx : foldD 0 s with
              | none => rfl
              | some v => rw [hx] at hF; cases hF
            rw [hp, if_pos hA, hn]
            rfl
          · rw [hp, if_neg (by rw [hA]; decide)]
            rfl
        · have hz0 : (s.getD 0 0 == 48) = false := by rw [← eq48]; exact h1
          have hp := pn_rest hne (.inl hz0)
          have hz : (s.getD 0 0 == 48) = false ∨ s.length ≤ 1 := .inl hz0
          refine ⟨rfl, askI (fun hA => askI (fun hL => ?_) fun hL => ⟨rfl, hA, askI (fun hF => ?_) fun hF => ?_⟩) fun hA => ?_⟩
          · simp only [decide_eq_true_eq] at hL
            have hn : foldD 0 s = none := fold_long hA (by omega) hz
            rw [hp, if_pos hA, hn]
            rfl
          · obtain ⟨v, hv⟩ := Option.isSome_iff_exists.1 hF
            rw [hp, if_pos hA, hv]
            rfl
          · have hn : foldD 0 s = none := by
              cases hx : foldD 0 s with
              | none => rfl
              | some v => rw [hx] at hF; cases hF
            rw [hp, if_pos hA, hn]
            rfl
          · rw [hp, if_neg (by rw [hA]; decide)]
            rfl
        )
        exact ⟨h', hsem⟩
      · cases h : allD s <;> simp [h] at hD
    · cases h
  · cases h

end Go.Proofs.YtddalcnajejibaaDoor
