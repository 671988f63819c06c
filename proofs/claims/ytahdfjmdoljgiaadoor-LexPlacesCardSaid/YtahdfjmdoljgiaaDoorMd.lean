/- Written by merging: Lmj Lmk Lml Lmm Lna Lnb Lnc Lnd. -/
import Derived.Test.YtahdfjmdoljgiaaDoorMc
namespace Go.Proofs.YtahdfjmdoljgiaaDoor
open Go Go.Am
set_option maxRecDepth 100000
set_option linter.unusedVariables false
set_option linter.unusedSimpArgs false
/- Digits to a number: what both Parses come to; shapes of their runs. -/

def isD (c : UInt8) : Bool := decide (48 ≤ c.toNat) && decide (c.toNat ≤ 57)
def allD (s : List UInt8) : Bool := s.all isD
def foldD : Int → List UInt8 → Option Int
  | v, [] => some v
  | v, c :: l => if v * 10 + ((c.toNat : Int) - 48) ≥ 115792089237316195423570985008687907853269984665640564039457584007913129639936 then none else foldD (v * 10 + ((c.toNat : Int) - 48)) l
def parseN (s : List UInt8) : Int × Int :=
  if s.isEmpty then (0, 10) else if s.getD 0 0 == 48 && decide (1 < s.length) then (0, 10) else if allD s then (match foldD 0 s with
    | some v => (v, 0)
    | none => (0, 7)) else (0, 10)
def sParseN : List AV → Option AV
  | [.str s] => if s.length ≤ 1099511627776 then some (.tup [.agg (limbs (parseN s).1), .int .i64 (parseN s).2]) else none
  | _ => none
def kd53 (t : Nat) : Kd := if t = 32 ∨ t = 47 then .one (.int .u8) else if t = 72 then .agg [.int .u64, .int .u64, .int .u64, .int .u64] else .one (.int .u64)
def zr : AObj := .row 35 4 [.int .u64 0, .int .u64 0, .int .u64 0, .int .u64 0]
-- limb.Parse
def tbP : List TbE := [⟨67, fun vs _ => sFrom vs, .of ag4⟩, ⟨66, fun vs _ => sMul vs, .tup [ag4, ag4]⟩, ⟨68, fun vs _ => sAdd vs, .tup [ag4, .one .bool]⟩]
def g53a (s : List UInt8) (i : Int) : St := (envOf 73 [(0, .str s), (2, .ptr (some (0, 0))), (3, .int .i64 0), (27, .sl (some (1, 0)) s.length (.rel 0)), (28, .int .i64 s.length), (29, .int .i64 i)], [zr, .ro (bv s)])
def t53a : Tidy := ⟨dropT 73 [0, 2, 3, 27, 28, 29], .rows [0, 1]⟩
def x53a : Tidy := ⟨dropT 73 [0, 2, 3], .rows [0]⟩
def r53 : Tidy := ⟨dropT 73 [2, 3], .rows [0]⟩
def e53a (s : List UInt8) : St := (envOf 73 [(0, .str s), (2, .ptr (some (0, 0))), (3, .int .i64 0)], [zr])
def b53 (e : Int) : St := (envOf 73 [(2, .ptr (some (0, 0))), (3, .int .i64 e)], [zr])
def g53b (s : List UInt8) (v : Int) (i : Int) : St := (envOf 73 [(2, .ptr (some (0, 0))), (3, .int .i64 0), (6, .ptr (some (1, 0))), (42, .sl (some (2, 0)) s.length (.rel 0)), (43, .int .i64 s.length), (44, .int .i64 i)], [zr, .row 35 4 (limbs v), .ro (bv s)])
def t53b : Tidy := ⟨dropT 73 [2, 3, 6, 42, 43, 44], .rows [0, 1, 2]⟩
def x53b : Tidy := ⟨dropT 73 [2, 3, 6], .rows [0, 1]⟩
def e53b (v : Int) : St := (envOf 73 [(2, .ptr (some (0, 0))), (3, .int .i64 0), (6, .ptr (some (1, 0)))], [zr, .row 35 4 (limbs v)])
def C53a : Cfg := tbC Q tbP (fun k => k == 1) kd53
def C53b : Cfg := tbC Q tbP (fun k => k == 2) kd53
def C53 (s : List UInt8) : Cfg := { tbC Q tbP (fun k => k == 1 || k == 2) kd53 with
  lw := fun id => if id = 4 then some fun st K => st = g53a s 0 ∧ askB (allD s) (K (.exit 0) (e53a s)) (K .ret (b53 10))
    else if id = 11 then some fun st K => st = g53b s 0 0 ∧ allD s = true ∧ askB (foldD 0 s).isSome (K (.exit 2) (e53b ((foldD 0 s).getD 0))) (K .ret (b53 7)) else none
  F := fun id => if id = 4 then t53a else if id = 11 then t53b else ⟨[], .all⟩ }
-- the document's Parse
def tbPR : List TbE := [⟨70, fun vs _ => sFrom vs, .of ag4⟩, ⟨69, fun vs _ => sMul vs, .tup [ag4, ag4]⟩, ⟨71, fun vs _ => sAdd vs, .tup [ag4, .one .bool]⟩]
def g56a (s : List UInt8) (i : Int) : St := (envOf 77 [(0, .str s), (2, .ptr (some (0, 0))), (3, .int .i64 0), (4, .int .i64 i)], [zr])
def t56a : Tidy := ⟨dropT 77 [0, 2, 3, 4], .rows [0]⟩
def x56a : Tidy := ⟨dropT 77 [0, 2, 3], .rows [0]⟩
def r56 : Tidy := ⟨dropT 77 [2, 3], .rows [0]⟩
def e56a (s : List UInt8) : St := (envOf 77 [(0, .str s), (2, .ptr (some (0, 0))), (3, .int .i64 0)], [zr])
def b56 (e : Int) : St := (envOf 77 [(2, .ptr (some (0, 0))), (3, .int .i64 e)], [zr])
def g56b (s : List UInt8) (v : Int) (i : Int) : St := (envOf 77 [(0, .str s), (2, .ptr (some (0, 0))), (3, .int .i64 0), (5, .ptr (some (1, 0))), (6, .int .i64 i)], [zr, .row 35 4 (limbs v)])
def t56b : Tidy := ⟨dropT 77 [0, 2, 3, 5, 6], .rows [0, 1]⟩
def x56b : Tidy := ⟨dropT 77 [2, 3, 5], .rows [0, 1]⟩
def e56b (v : Int) : St := (envOf 77 [(2, .ptr (some (0, 0))), (3, .int .i64 0), (5, .ptr (some (1, 0)))], [zr, .row 35 4 (limbs v)])
def C56a : Cfg := tbC Q tbPR (fun _ => false) kd53
def C56 (s : List UInt8) : Cfg := { tbC Q tbPR (fun _ => false) kd53 with
  lw := fun id => if id = 4 then some fun st K => st = g56a s 0 ∧ askB (allD s) (K (.exit 0) (e56a s)) (K .ret (b56 10))
    else if id = 12 then some fun st K => st = g56b s 0 0 ∧ allD s = true ∧ askB (foldD 0 s).isSome (K (.exit 2) (e56b ((foldD 0 s).getD 0))) (K .ret (b56 7)) else none
  F := fun id => if id = 4 then t56a else if id = 12 then t56b else ⟨[], .all⟩ }

/- What both Parses' code must meet: written by vcgen.py. -/
theorem v53a (s : List UInt8) (i : Nat) (K : AExit → St → Prop) : (askB (decide ((↑i : Int) < (↑(List.length s) : Int))) (chkW (decide ((↑i : Int) < (↑(List.length s) : Int))) (∃ (n : Int), (Option.bind (cellsAt [AObj.row 35 4 [AV.int .u64 0, AV.int .u64 0, AV.int .u64 0, AV.int .u64 0], AObj.ro (bv s)] 1) fun (x : List AV) => partR none x (0 + i * 1)) = some (AV.int .u8 n) ∧ askB (decide (n < 48)) (chkW (objClosed (AObj.ro (bv s))) (K AExit.ret (envOf 73 [(2, AV.ptr (some (0, 0))), (3, AV.int .i64 10)], [AObj.row 35 4 [AV.int .u64 0, AV.int .u64 0, AV.int .u64 0, AV.int .u64 0]]))) (askB (decide (n > 57)) (chkW (objClosed (AObj.ro (bv s))) (K AExit.ret (envOf 73 [(2, AV.ptr (some (0, 0))), (3, AV.int .i64 10)], [AObj.row 35 4 [AV.int .u64 0, AV.int .u64 0, AV.int .u64 0, AV.int .u64 0]]))) (chkW (objClosed (AObj.ro (bv s))) (K AExit.normal (envOf 73 [(0, AV.str s), (2, AV.ptr (some (0, 0))), (3, AV.int .i64 0), (27, AV.sl (some (1, 0)) (List.length s) (ACap.rel 0)), (28, AV.int .i64 (↑(List.length s) : Int)), (29, AV.int .i64 (IntKind.wrap .i64 ((↑i : Int) + 1)))], [AObj.row 35 4 [AV.int .u64 0, AV.int .u64 0, AV.int .u64 0, AV.int .u64 0], AObj.ro (bv s)])))))) (chkW (objClosed (AObj.ro (bv s))) (K (AExit.exit 0) (envOf 73 [(0, AV.str s), (2, AV.ptr (some (0, 0))), (3, AV.int .i64 0)], [AObj.row 35 4 [AV.int .u64 0, AV.int .u64 0, AV.int .u64 0, AV.int .u64 0]])))) = (wpP Tryd.prog C53a 60 (.inl p53_l1) (g53a s i) (postX C53a t53a x53a r53 K)) := by kernel_rfl
theorem v53b (s : List UInt8) (v : Int) (i : Nat) (K : AExit → St → Prop) : (askB (decide ((↑i : Int) < (↑(List.length s) : Int))) (chkW (decide ((↑i : Int) < (↑(List.length s) : Int))) (∃ (n : Int), (Option.bind (cellsAt [AObj.row 35 4 [AV.int .u64 0, AV.int .u64 0, AV.int .u64 0, AV.int .u64 0], AObj.row 35 4 [AV.int .u64 (v % 18446744073709551616), AV.int .u64 (v / 18446744073709551616 % 18446744073709551616), AV.int .u64 (v / 18446744073709551616 / 18446744073709551616 % 18446744073709551616), AV.int .u64 (v / 18446744073709551616 / 18446744073709551616 / 18446744073709551616 % 18446744073709551616)], AObj.ro (bv s)] 2) fun (x : List AV) => partR none x (0 + i * 1)) = some (AV.int .u8 n) ∧ ∃ (n_1 : Int), ∃ (n_2 : Int), ∃ (n_3 : Int), ∃ (n_4 : Int), some (AV.agg [AV.int .u64 10, AV.int .u64 0, AV.int .u64 0, AV.int .u64 0]) = some (AV.agg [AV.int .u64 n_1, AV.int .u64 n_2, AV.int .u64 n_3, AV.int .u64 n_4]) ∧ ∃ (n_5 : Int), ∃ (n_6 : Int), ∃ (n_7 : Int), ∃ (n_8 : Int), ∃ (n_9 : Int), ∃ (n_10 : Int), ∃ (n_11 : Int), ∃ (n_12 : Int), sMul [AV.agg [AV.int .u64 (v % 18446744073709551616), AV.int .u64 (v / 18446744073709551616 % 18446744073709551616), AV.int .u64 (v / 18446744073709551616 / 18446744073709551616 % 18446744073709551616), AV.int .u64 (v / 18446744073709551616 / 18446744073709551616 / 18446744073709551616 % 18446744073709551616)], AV.agg [AV.int .u64 n_1, AV.int .u64 n_2, AV.int .u64 n_3, AV.int .u64 n_4]] = some (AV.tup [AV.agg [AV.int .u64 n_5, AV.int .u64 n_6, AV.int .u64 n_7, AV.int .u64 n_8], AV.agg [AV.int .u64 n_9, AV.int .u64 n_10, AV.int .u64 n_11, AV.int .u64 n_12]]) ∧ ∃ (n_13 : Int), ∃ (n_14 : Int), ∃ (n_15 : Int), ∃ (n_16 : Int), some (AV.agg [AV.int .u64 (IntKind.wrap .u64 (IntKind.wrap .u8 (n - 48))), AV.int .u64 0, AV.int .u64 0, AV.int .u64 0]) = some (AV.agg [AV.int .u64 n_13, AV.int .u64 n_14, AV.int .u64 n_15, AV.int .u64 n_16]) ∧ ∃ (n : Int), ∃ (n_17 : Int), ∃ (n_18 : Int), ∃ (n_19 : Int), ∃ (b : Bool), sAdd [AV.agg [AV.int .u64 n_9, AV.int .u64 n_10, AV.int .u64 n_11, AV.int .u64 n_12], AV.agg [AV.int .u64 n_13, AV.int .u64 n_14, AV.int .u64 n_15, AV.int .u64 n_16]] = some (AV.tup [AV.agg [AV.int .u64 n, AV.int .u64 n_17, AV.int .u64 n_18, AV.int .u64 n_19], AV.bool b]) ∧ askB b (chkW (objClosed (AObj.ro (bv s))) (K AExit.ret (envOf 73 [(2, AV.ptr (some (0, 0))), (3, AV.int .i64 7)], [AObj.row 35 4 [AV.int .u64 0, AV.int .u64 0, AV.int .u64 0, AV.int .u64 0]]))) (askB (!(n_5 == 0 && (n_6 == 0 && (n_7 == 0 && (n_8 == 0 && true))))) (chkW (objClosed (AObj.ro (bv s))) (K AExit.ret (envOf 73 [(2, AV.ptr (some (0, 0))), (3, AV.int .i64 7)], [AObj.row 35 4 [AV.int .u64 0, AV.int .u64 0, AV.int .u64 0, AV.int .u64 0]]))) (chkW (objClosed (AObj.ro (bv s))) (K AExit.normal (envOf 73 [(2, AV.ptr (some (0, 0))), (3, AV.int .i64 0), (6, AV.ptr (some (1, 0))), (42, AV.sl (some (2, 0)) (List.length s) (ACap.rel 0)), (43, AV.int .i64 (↑(List.length s) : Int)), (44, AV.int .i64 (IntKind.wrap .i64 ((↑i : Int) + 1)))], [AObj.row 35 4 [AV.int .u64 0, AV.int .u64 0, AV.int .u64 0, AV.int .u64 0], AObj.row 35 4 [AV.int .u64 n, AV.int .u64 n_17, AV.int .u64 n_18, AV.int .u64 n_19], AObj.ro (bv s)])))))) (chkW (objClosed (AObj.ro (bv s))) (K (AExit.exit 2) (envOf 73 [(2, AV.ptr (some (0, 0))), (3, AV.int .i64 0), (6, AV.ptr (some (1, 0)))], [AObj.row 35 4 [AV.int .u64 0, AV.int .u64 0, AV.int .u64 0, AV.int .u64 0], AObj.row 35 4 [AV.int .u64 (v % 18446744073709551616), AV.int .u64 (v / 18446744073709551616 % 18446744073709551616), AV.int .u64 (v / 18446744073709551616 / 18446744073709551616 % 18446744073709551616), AV.int .u64 (v / 18446744073709551616 / 18446744073709551616 / 18446744073709551616 % 18446744073709551616)]])))) = (wpP Tryd.prog C53b 80 (.inl p53_l0) (g53b s v i) (postX C53b t53b x53b r53 K)) := by kernel_rfl
theorem v53 (s : List UInt8) (R : AV → AHeap → Prop) : (askB (s == []) (R (AV.tup [AV.agg [AV.int .u64 0, AV.int .u64 0, AV.int .u64 0, AV.int .u64 0], AV.int .i64 10]) [AObj.row 35 4 [AV.int .u64 0, AV.int .u64 0, AV.int .u64 0, AV.int .u64 0]]) (chkW (decide (0 < List.length s)) (askB ((↑(UInt8.toNat (List.getD s 0 0)) : Int) == 48) (askB (decide ((↑(List.length s) : Int) > 1)) (R (AV.tup [AV.agg [AV.int .u64 0, AV.int .u64 0, AV.int .u64 0, AV.int .u64 0], AV.int .i64 10]) [AObj.row 35 4 [AV.int .u64 0, AV.int .u64 0, AV.int .u64 0, AV.int .u64 0]]) (chkW (objClosed (AObj.ro (List.map (fun (x : UInt8) => AV.int .u8 (↑(UInt8.toNat x) : Int)) s))) ((envOf 73 [(0, AV.str s), (2, AV.ptr (some (0, 0))), (3, AV.int .i64 0), (27, AV.sl (some (1, 0)) (List.length s) (ACap.rel 0)), (28, AV.int .i64 (↑(List.length s) : Int)), (29, AV.int .i64 0)], [AObj.row 35 4 [AV.int .u64 0, AV.int .u64 0, AV.int .u64 0, AV.int .u64 0], AObj.ro (List.map (fun (x : UInt8) => AV.int .u8 (↑(UInt8.toNat x) : Int)) s)]) = (envOf 73 [(0, AV.str s), (2, AV.ptr (some (0, 0))), (3, AV.int .i64 0), (27, AV.sl (some (1, 0)) (List.length s) (ACap.rel 0)), (28, AV.int .i64 (↑(List.length s) : Int)), (29, AV.int .i64 0)], [AObj.row 35 4 [AV.int .u64 0, AV.int .u64 0, AV.int .u64 0, AV.int .u64 0], AObj.ro (bv s)]) ∧ askB (allD s) (chkW (objClosed (AObj.ro (List.map (fun (x : UInt8) => AV.int .u8 (↑(UInt8.toNat x) : Int)) s))) ((envOf 73 [(2, AV.ptr (some (0, 0))), (3, AV.int .i64 0), (6, AV.ptr (some (1, 0))), (42, AV.sl (some (2, 0)) (List.length s) (ACap.rel 0)), (43, AV.int .i64 (↑(List.length s) : Int)), (44, AV.int .i64 0)], [AObj.row 35 4 [AV.int .u64 0, AV.int .u64 0, AV.int .u64 0, AV.int .u64 0], AObj.row 35 4 [AV.int .u64 0, AV.int .u64 0, AV.int .u64 0, AV.int .u64 0], AObj.ro (List.map (fun (x : UInt8) => AV.int .u8 (↑(UInt8.toNat x) : Int)) s)]) = (envOf 73 [(2, AV.ptr (some (0, 0))), (3, AV.int .i64 0), (6, AV.ptr (some (1, 0))), (42, AV.sl (some (2, 0)) (List.length s) (ACap.rel 0)), (43, AV.int .i64 (↑(List.length s) : Int)), (44, AV.int .i64 0)], [AObj.row 35 4 [AV.int .u64 0, AV.int .u64 0, AV.int .u64 0, AV.int .u64 0], AObj.row 35 4 [AV.int .u64 0, AV.int .u64 0, AV.int .u64 0, AV.int .u64 0], AObj.ro (bv s)]) ∧ allD s = true ∧ askB (Option.isSome (foldD 0 s)) (∃ (n : Int), ∃ (n_1 : Int), ∃ (n_2 : Int), ∃ (n_3 : Int), some (AV.agg [AV.int .u64 (Option.getD (foldD 0 s) 0 % 18446744073709551616), AV.int .u64 (Option.getD (foldD 0 s) 0 / 18446744073709551616 % 18446744073709551616), AV.int .u64 (Option.getD (foldD 0 s) 0 / 18446744073709551616 / 18446744073709551616 % 18446744073709551616), AV.int .u64 (Option.getD (foldD 0 s) 0 / 18446744073709551616 / 18446744073709551616 / 18446744073709551616 % 18446744073709551616)]) = some (AV.agg [AV.int .u64 n, AV.int .u64 n_1, AV.int .u64 n_2, AV.int .u64 n_3]) ∧ R (AV.tup [AV.agg [AV.int .u64 n, AV.int .u64 n_1, AV.int .u64 n_2, AV.int .u64 n_3], AV.int .i64 0]) [AObj.row 35 4 [AV.int .u64 n, AV.int .u64 n_1, AV.int .u64 n_2, AV.int .u64 n_3], AObj.row 35 4 [AV.int .u64 (Option.getD (foldD 0 s) 0 % 18446744073709551616), AV.int .u64 (Option.getD (foldD 0 s) 0 / 18446744073709551616 % 18446744073709551616), AV.int .u64 (Option.getD (foldD 0 s) 0 / 18446744073709551616 / 18446744073709551616 % 18446744073709551616), AV.int .u64 (Option.getD (foldD 0 s) 0 / 18446744073709551616 / 18446744073709551616 / 18446744073709551616 % 18446744073709551616)]]) (R (AV.tup [AV.agg [AV.int .u64 0, AV.int .u64 0, AV.int .u64 0, AV.int .u64 0], AV.int .i64 7]) [AObj.row 35 4 [AV.int .u64 0, AV.int .u64 0, AV.int .u64 0, AV.int .u64 0]]))) (R (AV.tup [AV.agg [AV.int .u64 0, AV.int .u64 0, AV.int .u64 0, AV.int .u64 0], AV.int .i64 10]) [AObj.row 35 4 [AV.int .u64 0, AV.int .u64 0, AV.int .u64 0, AV.int .u64 0]])))) (chkW (objClosed (AObj.ro (List.map (fun (x : UInt8) => AV.int .u8 (↑(UInt8.toNat x) : Int)) s))) ((envOf 73 [(0, AV.str s), (2, AV.ptr (some (0, 0))), (3, AV.int .i64 0), (27, AV.sl (some (1, 0)) (List.length s) (ACap.rel 0)), (28, AV.int .i64 (↑(List.length s) : Int)), (29, AV.int .i64 0)], [AObj.row 35 4 [AV.int .u64 0, AV.int .u64 0, AV.int .u64 0, AV.int .u64 0], AObj.ro (List.map (fun (x : UInt8) => AV.int .u8 (↑(UInt8.toNat x) : Int)) s)]) = (envOf 73 [(0, AV.str s), (2, AV.ptr (some (0, 0))), (3, AV.int .i64 0), (27, AV.sl (some (1, 0)) (List.length s) (ACap.rel 0)), (28, AV.int .i64 (↑(List.length s) : Int)), (29, AV.int .i64 0)], [AObj.row 35 4 [AV.int .u64 0, AV.int .u64 0, AV.int .u64 0, AV.int .u64 0], AObj.ro (bv s)]) ∧ askB (allD s) (chkW (objClosed (AObj.ro (List.map (fun (x : UInt8) => AV.int .u8 (↑(UInt8.toNat x) : Int)) s))) ((envOf 73 [(2, AV.ptr (some (0, 0))), (3, AV.int .i64 0), (6, AV.ptr (some (1, 0))), (42, AV.sl (some (2, 0)) (List.length s) (ACap.rel 0)), (43, AV.int .i64 (↑(List.length s) : Int)), (44, AV.int .i64 0)], [AObj.row 35 4 [AV.int .u64 0, AV.int .u64 0, AV.int .u64 0, AV.int .u64 0], AObj.row 35 4 [AV.int .u64 0, AV.int .u64 0, AV.int .u64 0, AV.int .u64 0], AObj.ro (List.map (fun (x : UInt8) => AV.int .u8 (↑(UInt8.toNat x) : Int)) s)]) = (envOf 73 [(2, AV.ptr (some (0, 0))), (3, AV.int .i64 0), (6, AV.ptr (some (1, 0))), (42, AV.sl (some (2, 0)) (List.length s) (ACap.rel 0)), (43, AV.int .i64 (↑(List.length s) : Int)), (44, AV.int .i64 0)], [AObj.row 35 4 [AV.int .u64 0, AV.int .u64 0, AV.int .u64 0, AV.int .u64 0], AObj.row 35 4 [AV.int .u64 0, AV.int .u64 0, AV.int .u64 0, AV.int .u64 0], AObj.ro (bv s)]) ∧ allD s = true ∧ askB (Option.isSome (foldD 0 s)) (∃ (n : Int), ∃ (n_1 : Int), ∃ (n_2 : Int), ∃ (n_3 : Int), some (AV.agg [AV.int .u64 (Option.getD (foldD 0 s) 0 % 18446744073709551616), AV.int .u64 (Option.getD (foldD 0 s) 0 / 18446744073709551616 % 18446744073709551616), AV.int .u64 (Option.getD (foldD 0 s) 0 / 18446744073709551616 / 18446744073709551616 % 18446744073709551616), AV.int .u64 (Option.getD (foldD 0 s) 0 / 18446744073709551616 / 18446744073709551616 / 18446744073709551616 % 18446744073709551616)]) = some (AV.agg [AV.int .u64 n, AV.int .u64 n_1, AV.int .u64 n_2, AV.int .u64 n_3]) ∧ R (AV.tup [AV.agg [AV.int .u64 n, AV.int .u64 n_1, AV.int .u64 n_2, AV.int .u64 n_3], AV.int .i64 0]) [AObj.row 35 4 [AV.int .u64 n, AV.int .u64 n_1, AV.int .u64 n_2, AV.int .u64 n_3], AObj.row 35 4 [AV.int .u64 (Option.getD (foldD 0 s) 0 % 18446744073709551616), AV.int .u64 (Option.getD (foldD 0 s) 0 / 18446744073709551616 % 18446744073709551616), AV.int .u64 (Option.getD (foldD 0 s) 0 / 18446744073709551616 / 18446744073709551616 % 18446744073709551616), AV.int .u64 (Option.getD (foldD 0 s) 0 / 18446744073709551616 / 18446744073709551616 / 18446744073709551616 % 18446744073709551616)]]) (R (AV.tup [AV.agg [AV.int .u64 0, AV.int .u64 0, AV.int .u64 0, AV.int .u64 0], AV.int .i64 7]) [AObj.row 35 4 [AV.int .u64 0, AV.int .u64 0, AV.int .u64 0, AV.int .u64 0]]))) (R (AV.tup [AV.agg [AV.int .u64 0, AV.int .u64 0, AV.int .u64 0, AV.int .u64 0], AV.int .i64 10]) [AObj.row 35 4 [AV.int .u64 0, AV.int .u64 0, AV.int .u64 0, AV.int .u64 0]])))))) = (wpF Tryd.prog (C53 s) 80 p53 [.str s] [] R) := by kernel_rfl
theorem v56a (s : List UInt8) (i : Nat) (K : AExit → St → Prop) : (askB (decide ((↑i : Int) < (↑(List.length s) : Int))) (chkW (decide (i < List.length s)) (askB (decide ((↑(UInt8.toNat (List.getD s i 0)) : Int) < 48)) (K AExit.ret (envOf 77 [(2, AV.ptr (some (0, 0))), (3, AV.int .i64 10)], [AObj.row 35 4 [AV.int .u64 0, AV.int .u64 0, AV.int .u64 0, AV.int .u64 0]])) (chkW (decide (i < List.length s)) (askB (decide ((↑(UInt8.toNat (List.getD s i 0)) : Int) > 57)) (K AExit.ret (envOf 77 [(2, AV.ptr (some (0, 0))), (3, AV.int .i64 10)], [AObj.row 35 4 [AV.int .u64 0, AV.int .u64 0, AV.int .u64 0, AV.int .u64 0]])) (K AExit.normal (envOf 77 [(0, AV.str s), (2, AV.ptr (some (0, 0))), (3, AV.int .i64 0), (4, AV.int .i64 (IntKind.wrap .i64 ((↑i : Int) + 1)))], [AObj.row 35 4 [AV.int .u64 0, AV.int .u64 0, AV.int .u64 0, AV.int .u64 0]])))))) (K (AExit.exit 0) (envOf 77 [(0, AV.str s), (2, AV.ptr (some (0, 0))), (3, AV.int .i64 0)], [AObj.row 35 4 [AV.int .u64 0, AV.int .u64 0, AV.int .u64 0, AV.int .u64 0]]))) = (wpP Tryd.prog C56a 60 (.inl p56_l1) (g56a s i) (postX C56a t56a x56a r56 K)) := by kernel_rfl
theorem v56b (s : List UInt8) (v : Int) (i : Nat) (K : AExit → St → Prop) : (askB (decide ((↑i : Int) < (↑(List.length s) : Int))) (∃ (n : Int), ∃ (n_1 : Int), ∃ (n_2 : Int), ∃ (n_3 : Int), some (AV.agg [AV.int .u64 10, AV.int .u64 0, AV.int .u64 0, AV.int .u64 0]) = some (AV.agg [AV.int .u64 n, AV.int .u64 n_1, AV.int .u64 n_2, AV.int .u64 n_3]) ∧ ∃ (n_4 : Int), ∃ (n_5 : Int), ∃ (n_6 : Int), ∃ (n_7 : Int), ∃ (n_8 : Int), ∃ (n_9 : Int), ∃ (n_10 : Int), ∃ (n_11 : Int), sMul [AV.agg [AV.int .u64 (v % 18446744073709551616), AV.int .u64 (v / 18446744073709551616 % 18446744073709551616), AV.int .u64 (v / 18446744073709551616 / 18446744073709551616 % 18446744073709551616), AV.int .u64 (v / 18446744073709551616 / 18446744073709551616 / 18446744073709551616 % 18446744073709551616)], AV.agg [AV.int .u64 n, AV.int .u64 n_1, AV.int .u64 n_2, AV.int .u64 n_3]] = some (AV.tup [AV.agg [AV.int .u64 n_4, AV.int .u64 n_5, AV.int .u64 n_6, AV.int .u64 n_7], AV.agg [AV.int .u64 n_8, AV.int .u64 n_9, AV.int .u64 n_10, AV.int .u64 n_11]]) ∧ chkW (decide (i < List.length s)) (∃ (n : Int), ∃ (n_12 : Int), ∃ (n_13 : Int), ∃ (n_14 : Int), some (AV.agg [AV.int .u64 (IntKind.wrap .u64 (IntKind.wrap .u8 ((↑(UInt8.toNat (List.getD s i 0)) : Int) - 48))), AV.int .u64 0, AV.int .u64 0, AV.int .u64 0]) = some (AV.agg [AV.int .u64 n, AV.int .u64 n_12, AV.int .u64 n_13, AV.int .u64 n_14]) ∧ ∃ (n_15 : Int), ∃ (n_16 : Int), ∃ (n_17 : Int), ∃ (n_18 : Int), ∃ (b : Bool), sAdd [AV.agg [AV.int .u64 n_8, AV.int .u64 n_9, AV.int .u64 n_10, AV.int .u64 n_11], AV.agg [AV.int .u64 n, AV.int .u64 n_12, AV.int .u64 n_13, AV.int .u64 n_14]] = some (AV.tup [AV.agg [AV.int .u64 n_15, AV.int .u64 n_16, AV.int .u64 n_17, AV.int .u64 n_18], AV.bool b]) ∧ askB b (askB (!(n_4 == 0 && (n_5 == 0 && (n_6 == 0 && (n_7 == 0 && true))))) (K AExit.ret (envOf 77 [(2, AV.ptr (some (0, 0))), (3, AV.int .i64 7)], [AObj.row 35 4 [AV.int .u64 0, AV.int .u64 0, AV.int .u64 0, AV.int .u64 0]])) (K AExit.ret (envOf 77 [(2, AV.ptr (some (0, 0))), (3, AV.int .i64 7)], [AObj.row 35 4 [AV.int .u64 0, AV.int .u64 0, AV.int .u64 0, AV.int .u64 0]]))) (askB (!(n_4 == 0 && (n_5 == 0 && (n_6 == 0 && (n_7 == 0 && true))))) (K AExit.ret (envOf 77 [(2, AV.ptr (some (0, 0))), (3, AV.int .i64 7)], [AObj.row 35 4 [AV.int .u64 0, AV.int .u64 0, AV.int .u64 0, AV.int .u64 0]])) (K AExit.normal (envOf 77 [(0, AV.str s), (2, AV.ptr (some (0, 0))), (3, AV.int .i64 0), (5, AV.ptr (some (1, 0))), (6, AV.int .i64 (IntKind.wrap .i64 ((↑i : Int) + 1)))], [AObj.row 35 4 [AV.int .u64 0, AV.int .u64 0, AV.int .u64 0, AV.int .u64 0], AObj.row 35 4 [AV.int .u64 n_15, AV.int .u64 n_16, AV.int .u64 n_17, AV.int .u64 n_18]]))))) (K (AExit.exit 2) (envOf 77 [(2, AV.ptr (some (0, 0))), (3, AV.int .i64 0), (5, AV.ptr (some (1, 0)))], [AObj.row 35 4 [AV.int .u64 0, AV.int .u64 0, AV.int .u64 0, AV.int .u64 0], AObj.row 35 4 [AV.int .u64 (v % 18446744073709551616), AV.int .u64 (v / 18446744073709551616 % 18446744073709551616), AV.int .u64 (v / 18446744073709551616 / 18446744073709551616 % 18446744073709551616), AV.int .u64 (v / 18446744073709551616 / 18446744073709551616 / 18446744073709551616 % 18446744073709551616)]]))) = (wpP Tryd.prog C56a 80 (.inl p56_l0) (g56b s v i) (postX C56a t56b x56b r56 K)) := by kernel_rfl
theorem v56 (s : List UInt8) (R : AV → AHeap → Prop) : (askB (s == []) (R (AV.tup [AV.agg [AV.int .u64 0, AV.int .u64 0, AV.int .u64 0, AV.int .u64 0], AV.int .i64 10]) [AObj.row 35 4 [AV.int .u64 0, AV.int .u64 0, AV.int .u64 0, AV.int .u64 0]]) (chkW (decide (0 < List.length s)) (askB ((↑(UInt8.toNat (List.getD s 0 0)) : Int) == 48) (askB (decide ((↑(List.length s) : Int) > 1)) (R (AV.tup [AV.agg [AV.int .u64 0, AV.int .u64 0, AV.int .u64 0, AV.int .u64 0], AV.int .i64 10]) [AObj.row 35 4 [AV.int .u64 0, AV.int .u64 0, AV.int .u64 0, AV.int .u64 0]]) ((envOf 77 [(0, AV.str s), (2, AV.ptr (some (0, 0))), (3, AV.int .i64 0), (4, AV.int .i64 0)], [AObj.row 35 4 [AV.int .u64 0, AV.int .u64 0, AV.int .u64 0, AV.int .u64 0]]) = (envOf 77 [(0, AV.str s), (2, AV.ptr (some (0, 0))), (3, AV.int .i64 0), (4, AV.int .i64 0)], [AObj.row 35 4 [AV.int .u64 0, AV.int .u64 0, AV.int .u64 0, AV.int .u64 0]]) ∧ askB (allD s) (askB (decide ((↑(List.length s) : Int) > 78)) (R (AV.tup [AV.agg [AV.int .u64 0, AV.int .u64 0, AV.int .u64 0, AV.int .u64 0], AV.int .i64 7]) [AObj.row 35 4 [AV.int .u64 0, AV.int .u64 0, AV.int .u64 0, AV.int .u64 0]]) ((envOf 77 [(0, AV.str s), (2, AV.ptr (some (0, 0))), (3, AV.int .i64 0), (5, AV.ptr (some (1, 0))), (6, AV.int .i64 0)], [AObj.row 35 4 [AV.int .u64 0, AV.int .u64 0, AV.int .u64 0, AV.int .u64 0], AObj.row 35 4 [AV.int .u64 0, AV.int .u64 0, AV.int .u64 0, AV.int .u64 0]]) = (envOf 77 [(0, AV.str s), (2, AV.ptr (some (0, 0))), (3, AV.int .i64 0), (5, AV.ptr (some (1, 0))), (6, AV.int .i64 0)], [AObj.row 35 4 [AV.int .u64 0, AV.int .u64 0, AV.int .u64 0, AV.int .u64 0], AObj.row 35 4 [AV.int .u64 0, AV.int .u64 0, AV.int .u64 0, AV.int .u64 0]]) ∧ allD s = true ∧ askB (Option.isSome (foldD 0 s)) (R (AV.tup [AV.agg [AV.int .u64 (Option.getD (foldD 0 s) 0 % 18446744073709551616), AV.int .u64 (Option.getD (foldD 0 s) 0 / 18446744073709551616 % 18446744073709551616), AV.int .u64 (Option.getD (foldD 0 s) 0 / 18446744073709551616 / 18446744073709551616 % 18446744073709551616), AV.int .u64 (Option.getD (foldD 0 s) 0 / 18446744073709551616 / 18446744073709551616 / 18446744073709551616 % 18446744073709551616)], AV.int .i64 0]) [AObj.row 35 4 [AV.int .u64 (Option.getD (foldD 0 s) 0 % 18446744073709551616), AV.int .u64 (Option.getD (foldD 0 s) 0 / 18446744073709551616 % 18446744073709551616), AV.int .u64 (Option.getD (foldD 0 s) 0 / 18446744073709551616 / 18446744073709551616 % 18446744073709551616), AV.int .u64 (Option.getD (foldD 0 s) 0 / 18446744073709551616 / 18446744073709551616 / 18446744073709551616 % 18446744073709551616)], AObj.row 35 4 [AV.int .u64 (Option.getD (foldD 0 s) 0 % 18446744073709551616), AV.int .u64 (Option.getD (foldD 0 s) 0 / 18446744073709551616 % 18446744073709551616), AV.int .u64 (Option.getD (foldD 0 s) 0 / 18446744073709551616 / 18446744073709551616 % 18446744073709551616), AV.int .u64 (Option.getD (foldD 0 s) 0 / 18446744073709551616 / 18446744073709551616 / 18446744073709551616 % 18446744073709551616)]]) (R (AV.tup [AV.agg [AV.int .u64 0, AV.int .u64 0, AV.int .u64 0, AV.int .u64 0], AV.int .i64 7]) [AObj.row 35 4 [AV.int .u64 0, AV.int .u64 0, AV.int .u64 0, AV.int .u64 0]]))) (R (AV.tup [AV.agg [AV.int .u64 0, AV.int .u64 0, AV.int .u64 0, AV.int .u64 0], AV.int .i64 10]) [AObj.row 35 4 [AV.int .u64 0, AV.int .u64 0, AV.int .u64 0, AV.int .u64 0]]))) ((envOf 77 [(0, AV.str s), (2, AV.ptr (some (0, 0))), (3, AV.int .i64 0), (4, AV.int .i64 0)], [AObj.row 35 4 [AV.int .u64 0, AV.int .u64 0, AV.int .u64 0, AV.int .u64 0]]) = (envOf 77 [(0, AV.str s), (2, AV.ptr (some (0, 0))), (3, AV.int .i64 0), (4, AV.int .i64 0)], [AObj.row 35 4 [AV.int .u64 0, AV.int .u64 0, AV.int .u64 0, AV.int .u64 0]]) ∧ askB (allD s) (askB (decide ((↑(List.length s) : Int) > 78)) (R (AV.tup [AV.agg [AV.int .u64 0, AV.int .u64 0, AV.int .u64 0, AV.int .u64 0], AV.int .i64 7]) [AObj.row 35 4 [AV.int .u64 0, AV.int .u64 0, AV.int .u64 0, AV.int .u64 0]]) ((envOf 77 [(0, AV.str s), (2, AV.ptr (some (0, 0))), (3, AV.int .i64 0), (5, AV.ptr (some (1, 0))), (6, AV.int .i64 0)], [AObj.row 35 4 [AV.int .u64 0, AV.int .u64 0, AV.int .u64 0, AV.int .u64 0], AObj.row 35 4 [AV.int .u64 0, AV.int .u64 0, AV.int .u64 0, AV.int .u64 0]]) = (envOf 77 [(0, AV.str s), (2, AV.ptr (some (0, 0))), (3, AV.int .i64 0), (5, AV.ptr (some (1, 0))), (6, AV.int .i64 0)], [AObj.row 35 4 [AV.int .u64 0, AV.int .u64 0, AV.int .u64 0, AV.int .u64 0], AObj.row 35 4 [AV.int .u64 0, AV.int .u64 0, AV.int .u64 0, AV.int .u64 0]]) ∧ allD s = true ∧ askB (Option.isSome (foldD 0 s)) (R (AV.tup [AV.agg [AV.int .u64 (Option.getD (foldD 0 s) 0 % 18446744073709551616), AV.int .u64 (Option.getD (foldD 0 s) 0 / 18446744073709551616 % 18446744073709551616), AV.int .u64 (Option.getD (foldD 0 s) 0 / 18446744073709551616 / 18446744073709551616 % 18446744073709551616), AV.int .u64 (Option.getD (foldD 0 s) 0 / 18446744073709551616 / 18446744073709551616 / 18446744073709551616 % 18446744073709551616)], AV.int .i64 0]) [AObj.row 35 4 [AV.int .u64 (Option.getD (foldD 0 s) 0 % 18446744073709551616), AV.int .u64 (Option.getD (foldD 0 s) 0 / 18446744073709551616 % 18446744073709551616), AV.int .u64 (Option.getD (foldD 0 s) 0 / 18446744073709551616 / 18446744073709551616 % 18446744073709551616), AV.int .u64 (Option.getD (foldD 0 s) 0 / 18446744073709551616 / 18446744073709551616 / 18446744073709551616 % 18446744073709551616)], AObj.row 35 4 [AV.int .u64 (Option.getD (foldD 0 s) 0 % 18446744073709551616), AV.int .u64 (Option.getD (foldD 0 s) 0 / 18446744073709551616 % 18446744073709551616), AV.int .u64 (Option.getD (foldD 0 s) 0 / 18446744073709551616 / 18446744073709551616 % 18446744073709551616), AV.int .u64 (Option.getD (foldD 0 s) 0 / 18446744073709551616 / 18446744073709551616 / 18446744073709551616 % 18446744073709551616)]]) (R (AV.tup [AV.agg [AV.int .u64 0, AV.int .u64 0, AV.int .u64 0, AV.int .u64 0], AV.int .i64 7]) [AObj.row 35 4 [AV.int .u64 0, AV.int .u64 0, AV.int .u64 0, AV.int .u64 0]]))) (R (AV.tup [AV.agg [AV.int .u64 0, AV.int .u64 0, AV.int .u64 0, AV.int .u64 0], AV.int .i64 10]) [AObj.row 35 4 [AV.int .u64 0, AV.int .u64 0, AV.int .u64 0, AV.int .u64 0]]))))) = (wpF Tryd.prog (C56 s) 80 p56 [.str s] [] R) := by kernel_rfl

/- Both Parses of digits: their contracts. -/

theorem bv_at {s : List UInt8} {i : Nat} (h : i < s.length) : (bv s)[i]? = some (.int .u8 (s.getD i 0).toNat) := by
  simp [bv, List.getElem?_eq_getElem h]
theorem ro_ocl (l : List UInt8) : objClosed (.ro (bv l)) = true := bv_closed l
theorem allD_at {s : List UInt8} (h : allD s = true) {i : Nat} (hi : i < s.length) : isD (s.getD i 0) = true := by
  unfold allD at h
  rw [List.all_eq_true] at h
  rw [List.getD_eq_getElem?_getD, List.getElem?_eq_getElem hi]
  exact h _ (List.getElem_mem hi)
theorem allD_of {s : List UInt8} (h : ∀ i, i < s.length → isD (s.getD i 0) = true) : allD s = true := by
  unfold allD
  rw [List.all_eq_true]
  intro c hc
  obtain ⟨i, hi, rfl⟩ := List.getElem_of_mem hc
  have := h i hi
  rwa [List.getD_eq_getElem?_getD, List.getElem?_eq_getElem hi] at this
theorem mul_ten {v : Int} (h0 : 0 ≤ v) (h1 : v < 115792089237316195423570985008687907853269984665640564039457584007913129639936) : sMul [.agg (limbs v), .agg [.int .u64 10, .int .u64 0, .int .u64 0, .int .u64 0]] = some (.tup [.agg (limbs (v * 10 / 115792089237316195423570985008687907853269984665640564039457584007913129639936)), .agg (limbs (v * 10))]) := by
  unfold limbs sMul
  have hu : (u64s (v % 18446744073709551616) (v / 18446744073709551616 % 18446744073709551616) (v / 18446744073709551616 / 18446744073709551616 % 18446744073709551616) (v / 18446744073709551616 / 18446744073709551616 / 18446744073709551616 % 18446744073709551616) && u64s 10 0 0 0) = true := by
    simp only [u64s, u64B, Bool.and_eq_true, decide_eq_true_eq]; omega
  simp only [hu, if_true]
  have hn : num4 (v % 18446744073709551616) (v / 18446744073709551616 % 18446744073709551616) (v / 18446744073709551616 / 18446744073709551616 % 18446744073709551616) (v / 18446744073709551616 / 18446744073709551616 / 18446744073709551616 % 18446744073709551616) = v := by unfold num4; omega
  have ht : num4 10 0 0 0 = 10 := by unfold num4; omega
  rw [hn, ht]
  rfl
theorem add_dig {w d : Int} (h0 : 0 ≤ w) (hd : 0 ≤ d) (hd2 : d < 10) : sAdd [.agg (limbs w), .agg [.int .u64 d, .int .u64 0, .int .u64 0, .int .u64 0]] = some (.tup [.agg (limbs (w % 115792089237316195423570985008687907853269984665640564039457584007913129639936 + d)), .bool (decide (w % 115792089237316195423570985008687907853269984665640564039457584007913129639936 + d ≥ 115792089237316195423570985008687907853269984665640564039457584007913129639936))]) := by
  unfold limbs sAdd
  have hu : (u64s (w % 18446744073709551616) (w / 18446744073709551616 % 18446744073709551616) (w / 18446744073709551616 / 18446744073709551616 % 18446744073709551616) (w / 18446744073709551616 / 18446744073709551616 / 18446744073709551616 % 18446744073709551616) && u64s d 0 0 0) = true := by
    simp only [u64s, u64B, Bool.and_eq_true, decide_eq_true_eq]; omega
  simp only [hu, if_true]
  have hn : num4 (w % 18446744073709551616) (w / 18446744073709551616 % 18446744073709551616) (w / 18446744073709551616 / 18446744073709551616 % 18446744073709551616) (w / 18446744073709551616 / 18446744073709551616 / 18446744073709551616 % 18446744073709551616) = w % 115792089237316195423570985008687907853269984665640564039457584007913129639936 := by unfold num4; omega
  have ht : num4 d 0 0 0 = d := by unfold num4; omega
  rw [hn, ht]
  rfl
theorem high0 {h : Int} (h0 : 0 ≤ h) (h1 : h < 10) : (!(h % 18446744073709551616 == 0 && (h / 18446744073709551616 % 18446744073709551616 == 0 && (h / 18446744073709551616 / 18446744073709551616 % 18446744073709551616 == 0 && (h / 18446744073709551616 / 18446744073709551616 / 18446744073709551616 % 18446744073709551616 == 0 && true))))) = decide (h ≠ 0) := by
  have e1 : h % 18446744073709551616 = h := by omega
  have e2 : h / 18446744073709551616 = 0 := by omega
  rw [e1, e2]
  by_cases hz : h = 0
  · subst hz; rfl
  · have : (h == 0) = false := by simpa using hz
    rw [this, decide_eq_true hz]; rfl
theorem drop_cons {s : List UInt8} {i : Nat} (h : i < s.length) : s.drop i = s.getD i 0 :: s.drop (i + 1) := by
  rw [List.drop_eq_getElem_cons h, List.getD_eq_getElem?_getD, List.getElem?_eq_getElem h]; rfl
theorem fold_step {v : Int} {s : List UInt8} {i : Nat} (h : i < s.length) : foldD v (s.drop i) = if v * 10 + (((s.getD i 0).toNat : Int) - 48) ≥ 115792089237316195423570985008687907853269984665640564039457584007913129639936 then none else foldD (v * 10 + (((s.getD i 0).toNat : Int) - 48)) (s.drop (i + 1)) := by
  rw [drop_cons h]; rfl
theorem fold_end {v : Int} {s : List UInt8} {i : Nat} (h : s.length ≤ i) : foldD v (s.drop i) = some v := by
  rw [List.drop_eq_nil_of_le h]; rfl

theorem loop53a (s : List UInt8) (hs : s.length ≤ 1099511627776) : W Tryd.prog (tbS Q tbP) 0 (.inl (.loop p53_l1)) (g53a s 0) (fun e st => if allD s = true then e = .exit 0 ∧ st = e53a s else e = .ret ∧ st = b53 10) := by
  have hcw : CwOK (tbS Q tbP) (tbW Q tbP) := tbW_ok rfl
  have main := W_roundsG (P := Tryd.prog) (S := tbS Q tbP) (b0 := 0) (a := p53_l1) (fun i : Nat => g53a s i) (fun i => i ≤ s.length ∧ ∀ j, j < i → isD (s.getD j 0) = true) (fun i => s.length - i)
    (fun _ e st => if allD s = true then e = .exit 0 ∧ st = e53a s else e = .ret ∧ st = b53 10) ?_ 0 ⟨by omega, fun j hj => by omega⟩
  · exact main
  · rintro i ⟨h1, h2⟩
    refine W_wpX (C := C53a) hcw (by intro x hx; cases hx) (n := 60) (tn := t53a) (tx := x53a) (tr := r53) ((v53a s i _).mp ?_)
    rcases Nat.lt_or_ge i s.length with hi | hi
    · have hbad : isD (s.getD i 0) = false → (if allD s = true then AExit.ret = .exit 0 ∧ b53 10 = e53a s else AExit.ret = .ret ∧ b53 10 = b53 10) := fun h => by
        rw [if_neg (fun ha => by rw [allD_at ha hi] at h; cases h)]; exact ⟨rfl, rfl⟩
      have hi1 : IntKind.wrap .i64 ((i : Int) + 1) = ((i + 1 : Nat) : Int) := by rw [IntKind.wrap_i64]; omega
      rw [show (0 + i * 1 : Nat) = i by omega]
      refine askT (decide_eq_true (by omega)) (chkI (decide_eq_true (by omega)) ⟨_, bv_at hi, askI (fun g1 => chkI (ro_ocl s) (hbad ?_)) fun g1 => askI (fun g2 => chkI (ro_ocl s) (hbad ?_)) fun g2 => chkI (ro_ocl s) ⟨i + 1, by rw [hi1]; rfl, ⟨by omega, fun j hj => ?_⟩, by omega, fun e st h => h⟩⟩)
      · simp only [decide_eq_true_eq] at g1
        unfold isD; rw [decide_eq_false (by omega)]; rfl
      · simp only [decide_eq_true_eq] at g2
        unfold isD; rw [decide_eq_false (p := (s.getD i 0).toNat ≤ 57) (by omega), Bool.and_false]
      · simp only [decide_eq_false_iff_not] at g1 g2
        rcases Nat.lt_or_ge j i with q | q
        · exact h2 j q
        · obtain rfl : j = i := by omega
          unfold isD; rw [decide_eq_true (by omega), decide_eq_true (p := (s.getD j 0).toNat ≤ 57) (by omega)]; rfl
    · refine askF (decide_eq_false (by omega)) (chkI (ro_ocl s) ?_)
      show if allD s = true then _ else _
      rw [if_pos (allD_of fun j hj => h2 j (by omega))]
      exact ⟨rfl, rfl⟩
theorem loop56a (s : List UInt8) (hs : s.length ≤ 1099511627776) : W Tryd.prog (tbS Q tbPR) 0 (.inl (.loop p56_l1)) (g56a s 0) (fun e st => if allD s = true then e = .exit 0 ∧ st = e56a s else e = .ret ∧ st = b56 10) := by
  have hcw : CwOK (tbS Q tbPR) (tbW Q tbPR) := tbW_ok rfl
  have main := W_roundsG (P := Tryd.prog) (S := tbS Q tbPR) (b0 := 0) (a := p56_l1) (fun i : Nat => g56a s i) (fun i => i ≤ s.length ∧ ∀ j, j < i → isD (s.getD j 0) = true) (fun i => s.length - i)
    (fun _ e st => if allD s = true then e = .exit 0 ∧ st = e56a s else e = .ret ∧ st = b56 10) ?_ 0 ⟨by omega, fun j hj => by omega⟩
  · exact main
  · rintro i ⟨h1, h2⟩
    refine W_wpX (C := C56a) hcw (by intro x hx; cases hx) (n := 60) (tn := t56a) (tx := x56a) (tr := r56) ((v56a s i _).mp ?_)
    rcases Nat.lt_or_ge i s.length with hi | hi
    · have hbad : isD (s.getD i 0) = false → (if allD s = true then AExit.ret = .exit 0 ∧ b56 10 = e56a s else AExit.ret = .ret ∧ b56 10 = b56 10) := fun h => by
        rw [if_neg (fun ha => by rw [allD_at ha hi] at h; cases h)]; exact ⟨rfl, rfl⟩
      have hi1 : IntKind.wrap .i64 ((i : Int) + 1) = ((i + 1 : Nat) : Int) := by rw [IntKind.wrap_i64]; omega
      refine askT (decide_eq_true (by omega)) (chkI (decide_eq_true (by omega)) (askI (fun g1 => hbad ?_) fun g1 => chkI (decide_eq_true (by omega)) (askI (fun g2 => hbad ?_) fun g2 => ⟨i + 1, by rw [hi1]; rfl, ⟨by omega, fun j hj => ?_⟩, by omega, fun e st h => h⟩)))
      · simp only [decide_eq_true_eq] at g1
        unfold isD; rw [decide_eq_false (by omega)]; rfl
      · simp only [decide_eq_true_eq] at g2
        unfold isD; rw [decide_eq_false (p := (s.getD i 0).toNat ≤ 57) (by omega), Bool.and_false]
      · simp only [decide_eq_false_iff_not] at g1 g2
        rcases Nat.lt_or_ge j i with q | q
        · exact h2 j q
        · obtain rfl : j = i := by omega
          unfold isD; rw [decide_eq_true (by omega), decide_eq_true (p := (s.getD j 0).toNat ≤ 57) (by omega)]; rfl
    · refine askF (decide_eq_false (by omega)) ?_
      show if allD s = true then _ else _
      rw [if_pos (allD_of fun j hj => h2 j (by omega))]
      exact ⟨rfl, rfl⟩

theorem loop53b (s : List UInt8) (hs : s.length ≤ 1099511627776) (hD : allD s = true) : W Tryd.prog (tbS Q tbP) 0 (.inl (.loop p53_l0)) (g53b s 0 0) (fun e st => if (foldD 0 s).isSome = true then e = .exit 2 ∧ st = e53b ((foldD 0 s).getD 0) else e = .ret ∧ st = b53 7) := by
  have hcw : CwOK (tbS Q tbP) (tbW Q tbP) := tbW_ok rfl
  have main := W_roundsG (P := Tryd.prog) (S := tbS Q tbP) (b0 := 0) (a := p53_l0) (fun p : Nat × Int => g53b s p.2 p.1) (fun p => p.1 ≤ s.length ∧ 0 ≤ p.2 ∧ p.2 < 115792089237316195423570985008687907853269984665640564039457584007913129639936 ∧ foldD 0 s = foldD p.2 (s.drop p.1)) (fun p => s.length - p.1)
    (fun _ e st => if (foldD 0 s).isSome = true then e = .exit 2 ∧ st = e53b ((foldD 0 s).getD 0) else e = .ret ∧ st = b53 7) ?_ (0, 0) ⟨by show 0 ≤ s.length; omega, by show (0 : Int) ≤ 0; omega, by show (0 : Int) < 115792089237316195423570985008687907853269984665640564039457584007913129639936; omega, rfl⟩
  · exact main
  · rintro ⟨i, v⟩ ⟨h1, h2, h3, h4⟩
    simp only at h1 h2 h3 h4
    refine W_wpX (C := C53b) hcw (by intro x hx; cases hx) (n := 80) (tn := t53b) (tx := x53b) (tr := r53) ((v53b s v i _).mp ?_)
    rcases Nat.lt_or_ge i s.length with hi | hi
    · have hd := allD_at hD hi
      simp only [isD, Bool.and_eq_true, decide_eq_true_eq] at hd
      have hst := fold_step (v := v) hi
      obtain ⟨d, hdd⟩ : ∃ d : Int, d = ((s.getD i 0).toNat : Int) - 48 := ⟨_, rfl⟩
      have hw : IntKind.wrap .u64 (IntKind.wrap .u8 (((s.getD i 0).toNat : Int) - 48)) = d := by rw [IntKind.wrap_u8, IntKind.wrap_u64]; omega
      rw [← hdd, ← h4] at hst
      have hi1 : IntKind.wrap .i64 ((i : Int) + 1) = ((i + 1 : Nat) : Int) := by rw [IntKind.wrap_i64]; omega
      have hbad : v * 10 + d ≥ 115792089237316195423570985008687907853269984665640564039457584007913129639936 → (if (foldD 0 s).isSome = true then AExit.ret = .exit 2 ∧ b53 7 = e53b ((foldD 0 s).getD 0) else AExit.ret = .ret ∧ b53 7 = b53 7) := fun h => by
        rw [hst, if_pos h]; exact ⟨rfl, rfl⟩
      rw [show (0 + i * 1 : Nat) = i by omega]
      refine askT (decide_eq_true (by omega)) (chkI (decide_eq_true (by omega)) ⟨_, bv_at hi, 10, 0, 0, 0, rfl, _, _, _, _, _, _, _, _, mul_ten h2 h3, _, _, _, _, rfl, ?_⟩)
      rw [hw]
      refine ⟨_, _, _, _, _, add_dig (w := v * 10) (by omega) (by omega) (by omega), askI (fun g1 => chkI (ro_ocl s) (hbad ?_)) fun g1 => ?_⟩
      · simp only [decide_eq_true_eq] at g1; omega
      rw [high0 (by omega) (by omega)]
      refine askI (fun g2 => chkI (ro_ocl s) (hbad ?_)) fun g2 => chkI (ro_ocl s) ?_
      · simp only [decide_eq_true_eq] at g2; omega
      simp only [decide_eq_false_iff_not] at g1 g2
      have hm : v * 10 % 115792089237316195423570985008687907853269984665640564039457584007913129639936 = v * 10 := by omega
      refine ⟨(i + 1, v * 10 + d), ?_, ⟨by show i + 1 ≤ s.length; omega, by show 0 ≤ v * 10 + d; omega, by show v * 10 + d < 115792089237316195423570985008687907853269984665640564039457584007913129639936; omega, ?_⟩, by show s.length - (i + 1) < s.length - i; omega, fun e st h => h⟩
      · rw [hm, hi1]; rfl
      · show foldD 0 s = foldD (v * 10 + d) (s.drop (i + 1))
        rw [hst, if_neg (by omega)]
    · have hf := fold_end (v := v) hi
      rw [← h4] at hf
      refine askF (decide_eq_false (by omega)) ?_
      refine chkI (ro_ocl s) ?_
      show if (foldD 0 s).isSome = true then _ else _
      rw [hf]
      exact ⟨rfl, rfl⟩

theorem loop56b (s : List UInt8) (hs : s.length ≤ 1099511627776) (hD : allD s = true) : W Tryd.prog (tbS Q tbPR) 0 (.inl (.loop p56_l0)) (g56b s 0 0) (fun e st => if (foldD 0 s).isSome = true then e = .exit 2 ∧ st = e56b ((foldD 0 s).getD 0) else e = .ret ∧ st = b56 7) := by
  have hcw : CwOK (tbS Q tbPR) (tbW Q tbPR) := tbW_ok rfl
  have main := W_roundsG (P := Tryd.prog) (S := tbS Q tbPR) (b0 := 0) (a := p56_l0) (fun p : Nat × Int => g56b s p.2 p.1) (fun p => p.1 ≤ s.length ∧ 0 ≤ p.2 ∧ p.2 < 115792089237316195423570985008687907853269984665640564039457584007913129639936 ∧ foldD 0 s = foldD p.2 (s.drop p.1)) (fun p => s.length - p.1)
    (fun _ e st => if (foldD 0 s).isSome = true then e = .exit 2 ∧ st = e56b ((foldD 0 s).getD 0) else e = .ret ∧ st = b56 7) ?_ (0, 0) ⟨by show 0 ≤ s.length; omega, by show (0 : Int) ≤ 0; omega, by show (0 : Int) < 115792089237316195423570985008687907853269984665640564039457584007913129639936; omega, rfl⟩
  · exact main
  · rintro ⟨i, v⟩ ⟨h1, h2, h3, h4⟩
    simp only at h1 h2 h3 h4
    refine W_wpX (C := C56a) hcw (by intro x hx; cases hx) (n := 80) (tn := t56b) (tx := x56b) (tr := r56) ((v56b s v i _).mp ?_)
    rcases Nat.lt_or_ge i s.length with hi | hi
    · have hd := allD_at hD hi
      simp only [isD, Bool.and_eq_true, decide_eq_true_eq] at hd
      have hst := fold_step (v := v) hi
      obtain ⟨d, hdd⟩ : ∃ d : Int, d = ((s.getD i 0).toNat : Int) - 48 := ⟨_, rfl⟩
      have hw : IntKind.wrap .u64 (IntKind.wrap .u8 (((s.getD i 0).toNat : Int) - 48)) = d := by rw [IntKind.wrap_u8, IntKind.wrap_u64]; omega
      rw [← hdd, ← h4] at hst
      have hi1 : IntKind.wrap .i64 ((i : Int) + 1) = ((i + 1 : Nat) : Int) := by rw [IntKind.wrap_i64]; omega
      have hbad : v * 10 + d ≥ 115792089237316195423570985008687907853269984665640564039457584007913129639936 → (if (foldD 0 s).isSome = true then AExit.ret = .exit 2 ∧ b56 7 = e56b ((foldD 0 s).getD 0) else AExit.ret = .ret ∧ b56 7 = b56 7) := fun h => by
        rw [hst, if_pos h]; exact ⟨rfl, rfl⟩
      skip
      refine askT (decide_eq_true (by omega)) ⟨10, 0, 0, 0, rfl, _, _, _, _, _, _, _, _, mul_ten h2 h3, chkI (decide_eq_true (by omega)) ⟨_, _, _, _, rfl, ?_⟩⟩
      rw [hw]
      refine ⟨_, _, _, _, _, add_dig (w := v * 10) (by omega) (by omega) (by omega), askI (fun g1 => ?_) fun g1 => ?_⟩
      · simp only [decide_eq_true_eq] at g1
        exact askI (fun g2 => hbad (by omega)) fun g2 => hbad (by omega)
      rw [high0 (by omega) (by omega)]
      refine askI (fun g2 => hbad ?_) fun g2 => ?_
      · simp only [decide_eq_true_eq] at g2; omega
      simp only [decide_eq_false_iff_not] at g1 g2
      have hm : v * 10 % 115792089237316195423570985008687907853269984665640564039457584007913129639936 = v * 10 := by omega
      refine ⟨(i + 1, v * 10 + d), ?_, ⟨by show i + 1 ≤ s.length; omega, by show 0 ≤ v * 10 + d; omega, by show v * 10 + d < 115792089237316195423570985008687907853269984665640564039457584007913129639936; omega, ?_⟩, by show s.length - (i + 1) < s.length - i; omega, fun e st h => h⟩
      · rw [hm, hi1]; rfl
      · show foldD 0 s = foldD (v * 10 + d) (s.drop (i + 1))
        rw [hst, if_neg (by omega)]
    · have hf := fold_end (v := v) hi
      rw [← h4] at hf
      refine askF (decide_eq_false (by omega)) ?_
      skip
      show if (foldD 0 s).isSome = true then _ else _
      rw [hf]
      exact ⟨rfl, rfl⟩

/- Both Parses of digits: contracts. -/

theorem eq48 (c : UInt8) : (((c.toNat : Nat) : Int) == 48) = (c == 48) := by
  have h := ne_u8 c 48
  rw [bne, bne] at h
  exact Bool.not_inj h
theorem pn_zero {s : List UInt8} (h : s ≠ []) (hz : (s.getD 0 0 == 48) = true) (hl : 1 < s.length) : parseN s = (0, 10) := by
  unfold parseN
  have he : s.isEmpty = false := by cases s with | nil => exact absurd rfl h | cons _ _ => rfl
  rw [if_neg (by rw [he]; decide), if_pos (by rw [hz, decide_eq_true hl]; rfl)]
theorem pn_rest {s : List UInt8} (h : s ≠ []) (hz : (s.getD 0 0 == 48) = false ∨ ¬ 1 < s.length) : parseN s = if allD s = true then (match foldD 0 s with
    | some v => ((v, 0) : Int × Int)
    | none => (0, 7)) else (0, 10) := by
  have he : s.isEmpty = false := by cases s with | nil => exact absurd rfl h | cons _ _ => rfl
  have h2 : ¬ ((s.getD 0 0 == 48 && decide (1 < s.length)) = true) := by
    rcases hz with hz | hz
    · rw [hz]; simp
    · rw [decide_eq_false hz]; simp
  unfold parseN
  rw [if_neg (by rw [he]; decide), if_neg h2]
  all_goals
    by_cases hA : allD s = true
    · rw [if_pos hA, if_pos hA]
      try (cases foldD 0 s <;> rfl)
    · rw [if_neg hA, if_neg hA]
theorem fold_ge : ∀ (l : List UInt8) (v r : Int), 0 ≤ v → allD l = true → foldD v l = some r → v * 10 ^ l.length ≤ r
  | [], v, r, _, _, h => by
    simp only [foldD, Option.some.injEq] at h
    subst h; simp
  | c :: l, v, r, hv, hA, h => by
    have hc : isD c = true ∧ allD l = true := by simpa [allD] using hA
    have hd := hc.1
    simp only [isD, Bool.and_eq_true, decide_eq_true_eq] at hd
    simp only [foldD] at h
    split at h
    · cases h
    · have := fold_ge l _ r (by omega) hc.2 h
      refine Int.le_trans ?_ this
      rw [List.length_cons, Int.pow_succ, Int.mul_comm (10 ^ l.length) 10, ← Int.mul_assoc]
      refine Int.mul_le_mul_of_nonneg_right (by omega) ?_
      exact Int.le_of_lt (Int.pow_pos (by decide))
theorem fold_lt : ∀ (l : List UInt8) (v r : Int), v < 115792089237316195423570985008687907853269984665640564039457584007913129639936 → foldD v l = some r → r < 115792089237316195423570985008687907853269984665640564039457584007913129639936
  | [], v, r, hv, h => by simp only [foldD, Option.some.injEq] at h; omega
  | c :: l, v, r, hv, h => by
    simp only [foldD] at h
    split at h
    · cases h
    · exact fold_lt l _ r (by omega) h
theorem fold_long {s : List UInt8} (hA : allD s = true) (hl : 78 < s.length) (hz : (s.getD 0 0 == 48) = false ∨ s.length ≤ 1) : foldD 0 s = none := by
  rcases hz with hz | hz
  · cases hx : foldD 0 s with
    | none => rfl
    | some r =>
      exfalso
      cases s with
      | nil => simp at hl
      | cons c l =>
        have hc : isD c = true ∧ allD l = true := by simpa [allD] using hA
        have hd := hc.1
        simp only [isD, Bool.and_eq_true, decide_eq_true_eq] at hd
        have hz2 : c ≠ 48 := by simpa using hz
        have hz3 : c.toNat ≠ 48 := fun h => hz2 (UInt8.toNat_inj.1 h)
        have hr := fold_lt _ _ r (by omega) hx
        simp only [foldD] at hx
        split at hx
        · cases hx
        · have hg := fold_ge l _ r (by omega) hc.2 hx
          simp only [List.length_cons] at hl
          obtain ⟨k, hk⟩ : ∃ k, l.length = 78 + k := ⟨l.length - 78, by omega⟩
          rw [hk, Int.pow_add] at hg
          have h1 : (1 : Int) ≤ 10 ^ k := Int.pow_pos (by decide)
          have h78 : (10 : Int) ^ 78 = 1000000000000000000000000000000000000000000000000000000000000000000000000000000 := by decide +kernel
          rw [h78] at hg
          have h2 : (1 : Int) * (1000000000000000000000000000000000000000000000000000000000000000000000000000000 * 1) ≤ (0 * 10 + ((c.toNat : Int) - 48)) * (1000000000000000000000000000000000000000000000000000000000000000000000000000000 * 10 ^ k) :=
            Int.mul_le_mul (by omega) (by omega) (by decide) (by omega)
          omega
  · omega

theorem parse_ok : QuietOK Tryd.prog 53 fun vs _ => sParseN vs := quiet_plain ht53 fun args v h => by
  unfold sParseN at h
  split at h
  · rename_i s
    split at h
    · rename_i hs
      cases h
      refine ⟨rfl, rfl, ?_⟩
      have hS : (tbS Q tbP).OK Tryd.prog := tbS_ok quietText (by
        intro x hx
        simp only [tbP, List.mem_cons, List.not_mem_nil, or_false] at hx
        rcases hx with rfl | rfl | rfl
        · exact from_ok
        · exact mul_ok
        · exact add_ok)
      by_cases hD : allD s = true ∨ allD s = false
      · obtain ⟨u, h', rfl, hsem⟩ := sem_vc mixed (C := C53 s) hS (tbS_q _ _) (tbW_ok rfl) ht53 c53 (fun x hx => by
          have e : partsIn p53.body = [.loop p53_l1, .loop p53_l0] := rfl
          rw [e] at hx
          simp only [List.mem_cons, List.not_mem_nil, or_false] at hx
          rcases hx with rfl | rfl
          · exact part_loop (id := 4) rfl rfl fun st K hT => by
              obtain ⟨rfl, hk⟩ := hT
              refine W_mono (loop53a s hs) fun e st he => ?_
              rcases askD hk with ⟨h1, h2⟩ | ⟨h1, h2⟩
              · rw [if_pos h1] at he; obtain ⟨rfl, rfl⟩ := he; exact h2
              · rw [if_neg (by rw [h1]; decide)] at he; obtain ⟨rfl, rfl⟩ := he; exact h2
          · by_cases hA : allD s = true
            · exact part_loop (id := 11) rfl rfl fun st K hT => by
                obtain ⟨rfl, _, hk⟩ := hT
                refine W_mono (loop53b s hs hA) fun e st he => ?_
                rcases askD hk with ⟨h1, h2⟩ | ⟨h1, h2⟩
                · rw [if_pos h1] at he; obtain ⟨rfl, rfl⟩ := he; exact h2
                · rw [if_neg (by rw [h1]; decide)] at he; obtain ⟨rfl, rfl⟩ := he; exact h2
            · exact part_loop (id := 11) rfl rfl fun st K hT => (hA hT.2.1).elim) (v53 s fun u _ => u = .tup [.agg (limbs (parseN s).1), .int .i64 (parseN s).2]) (by
        refine askI (fun h0 => ?_) fun h0 => ?_
        · have : s = [] := by simpa using h0
          subst this; rfl
        have hne : s ≠ [] := by simpa using h0
        have hpos : 0 < s.length := by cases s with | nil => exact absurd rfl hne | cons _ _ => simp
        refine chkI (decide_eq_true hpos) (askI (fun h1 => askI (fun h2 => ?_) fun h2 => ?_) fun h1 => ?_)
        · have hz : s.getD 0 0 == 48 := by rw [← eq48]; exact h1
          simp only [decide_eq_true_eq] at h2
          rw [pn_zero hne hz (by omega)]; rfl
        · simp only [decide_eq_false_iff_not] at h2
          have hp := pn_rest hne (.inr (show ¬ 1 < s.length by omega))
          have hz : (s.getD 0 0 == 48) = false ∨ s.length ≤ 1 := .inr (by omega)
          refine chkI (ro_ocl s) ⟨rfl, askI (fun hA => chkI (ro_ocl s) ⟨rfl, hA, askI (fun hF => ?_) fun hF => ?_⟩) fun hA => ?_⟩
          · refine ⟨_, _, _, _, rfl, ?_⟩
            obtain ⟨v, hv⟩ := Option.isSome_iff_exists.1 hF
            rw [hp, if_pos hA, hv]
            rfl
          · have hn : foldD 0 s = none := by
              cases hx : foldD 0 s with
              | none => rfl
              | some v => rw [hx] at hF; cases hF
            rw [hp, if_pos hA, hn]
            rfl
          · rw [hp, if_neg (by rw [hA]; decide)]
            rfl
        · have hz0 : (s.getD 0 0 == 48) = false := by rw [← eq48]; exact h1
          have hp := pn_rest hne (.inl hz0)
          have hz : (s.getD 0 0 == 48) = false ∨ s.length ≤ 1 := .inl hz0
          refine chkI (ro_ocl s) ⟨rfl, askI (fun hA => chkI (ro_ocl s) ⟨rfl, hA, askI (fun hF => ?_) fun hF => ?_⟩) fun hA => ?_⟩
          · refine ⟨_, _, _, _, rfl, ?_⟩
            obtain ⟨v, hv⟩ := Option.isSome_iff_exists.1 hF
            rw [hp, if_pos hA, hv]
            rfl
          · have hn : foldD 0 s = none := by
              cases hx : foldD 0 s with
              | none => rfl
              | some v => rw [hx] at hF; cases hF
            rw [hp, if_pos hA, hn]
            rfl
          · rw [hp, if_neg (by rw [hA]; decide)]
            rfl
        )
        exact ⟨h', hsem⟩
      · cases h : allD s <;> simp [h] at hD
    · cases h
  · cases h

theorem parseR_ok : QuietOK Tryd.prog 56 fun vs _ => sParseN vs := quiet_plain ht56 fun args v h => by
  unfold sParseN at h
  split at h
  · rename_i s
    split at h
    · rename_i hs
      cases h
      refine ⟨rfl, rfl, ?_⟩
      have hS : (tbS Q tbPR).OK Tryd.prog := tbS_ok quietText (by
        intro x hx
        simp only [tbPR, List.mem_cons, List.not_mem_nil, or_false] at hx
        rcases hx with rfl | rfl | rfl
        · exact fromR_ok
        · exact mulR_ok
        · exact addR_ok)
      by_cases hD : allD s = true ∨ allD s = false
      · obtain ⟨u, h', rfl, hsem⟩ := sem_vc mixed (C := C56 s) hS (tbS_q _ _) (tbW_ok rfl) ht56 c56 (fun x hx => by
          have e : partsIn p56.body = [.loop p56_l1, .loop p56_l0] := rfl
          rw [e] at hx
          simp only [List.mem_cons, List.not_mem_nil, or_false] at hx
          rcases hx with rfl | rfl
          · exact part_loop (id := 4) rfl rfl fun st K hT => by
              obtain ⟨rfl, hk⟩ := hT
              refine W_mono (loop56a s hs) fun e st he => ?_
              rcases askD hk with ⟨h1, h2⟩ | ⟨h1, h2⟩
              · rw [if_pos h1] at he; obtain ⟨rfl, rfl⟩ := he; exact h2
              · rw [if_neg (by rw [h1]; decide)] at he; obtain ⟨rfl, rfl⟩ := he; exact h2
          · by_cases hA : allD s = true
            · exact part_loop (id := 12) rfl rfl fun st K hT => by
                obtain ⟨rfl, _, hk⟩ := hT
                refine W_mono (loop56b s hs hA) fun e st he => ?_
                rcases askD hk with ⟨h1, h2⟩ | ⟨h1, h2⟩
                · rw [if_pos h1] at he; obtain ⟨rfl, rfl⟩ := he; exact h2
                · rw [if_neg (by rw [h1]; decide)] at he; obtain ⟨rfl, rfl⟩ := he; exact h2
            · exact part_loop (id := 12) rfl rfl fun st K hT => (hA hT.2.1).elim) (v56 s fun u _ => u = .tup [.agg (limbs (parseN s).1), .int .i64 (parseN s).2]) (by
        refine askI (fun h0 => ?_) fun h0 => ?_
        · have : s = [] := by simpa using h0
          subst this; rfl
        have hne : s ≠ [] := by simpa using h0
        have hpos : 0 < s.length := by cases s with | nil => exact absurd rfl hne | cons _ _ => simp
        refine chkI (decide_eq_true hpos) (askI (fun h1 => askI (fun h2 => ?_) fun h2 => ?_) fun h1 => ?_)
        · have hz : s.getD 0 0 == 48 := by rw [← eq48]; exact h1
          simp only [decide_eq_true_eq] at h2
          rw [pn_zero hne hz (by omega)]; rfl
        · simp only [decide_eq_false_iff_not] at h2
          have hp := pn_rest hne (.inr (show ¬ 1 < s.length by omega))
          have hz : (s.getD 0 0 == 48) = false ∨ s.length ≤ 1 := .inr (by omega)
          refine ⟨rfl, askI (fun hA => askI (fun hL => ?_) fun hL => ⟨rfl, hA, askI (fun hF => ?_) fun hF => ?_⟩) fun hA => ?_⟩
          · simp only [decide_eq_true_eq] at hL
            have hn : foldD 0 s = none := fold_long hA (by omega) hz
            rw [hp, if_pos hA, hn]
            rfl
          · obtain ⟨v, hv⟩ := Option.isSome_iff_exists.1 hF
            rw [hp, if_pos hA, hv]
            rfl
          · have hn : foldD 0 s = none := by
              cases hx : foldD 0 s with
              | none => rfl
              | some v => rw [hx] at hF; cases hF
            rw [hp, if_pos hA, hn]
            rfl
          · rw [hp, if_neg (by rw [hA]; decide)]
            rfl
        · have hz0 : (s.getD 0 0 == 48) = false := by rw [← eq48]; exact h1
          have hp := pn_rest hne (.inl hz0)
          have hz : (s.getD 0 0 == 48) = false ∨ s.length ≤ 1 := .inl hz0
          refine ⟨rfl, askI (fun hA => askI (fun hL => ?_) fun hL => ⟨rfl, hA, askI (fun hF => ?_) fun hF => ?_⟩) fun hA => ?_⟩
          · simp only [decide_eq_true_eq] at hL
            have hn : foldD 0 s = none := fold_long hA (by omega) hz
            rw [hp, if_pos hA, hn]
            rfl
          · obtain ⟨v, hv⟩ := Option.isSome_iff_exists.1 hF
            rw [hp, if_pos hA, hv]
            rfl
          · have hn : foldD 0 s = none := by
              cases hx : foldD 0 s with
              | none => rfl
              | some v => rw [hx] at hF; cases hF
            rw [hp, if_pos hA, hn]
            rfl
          · rw [hp, if_neg (by rw [hA]; decide)]
            rfl
        )
        exact ⟨h', hsem⟩
      · cases h : allD s <;> simp [h] at hD
    · cases h
  · cases h

/- The longest beginning that is a decimal text: what Prefix comes to; shapes of its runs. -/

def dgA (s : List UInt8) (i : Nat) : Bool := decide (i < s.length) && isD (s.getD i 0)
def sDigit : List AV → Option AV
  | [.str s, .int .i64 i] => if 0 ≤ i then some (.bool (dgA s i.toNat)) else none
  | _ => none
def runD : List UInt8 → Nat
  | [] => 0
  | c :: l => if isD c then runD l + 1 else 0
def behindL (neg : Bool) : List UInt8 → Nat → Bool → Nat → Nat
  | [], _, _, good => good
  | c :: l, i, low, good => if isD c then behindL neg l (i + 1) (low || c != 48) (if (low || c != 48) || !neg then i + 1 else good) else good
def wholeP (neg : Bool) (s : List UInt8) (i : Nat) (low : Bool) : Nat :=
  if decide (i < s.length) && s.getD i 0 == 46 then behindL neg (s.drop (i + 1)) (i + 1) low (if low || !neg then i else 0) else (if low || !neg then i else 0)
def prefixF (s : List UInt8) : Nat :=
  if dgA s (if decide (0 < s.length) && s.getD 0 0 == 45 then 1 else 0) then
    (if s.getD (if decide (0 < s.length) && s.getD 0 0 == 45 then 1 else 0) 0 == 48 then wholeP (decide (0 < s.length) && s.getD 0 0 == 45) s ((if decide (0 < s.length) && s.getD 0 0 == 45 then 1 else 0) + 1) false
    else wholeP (decide (0 < s.length) && s.getD 0 0 == 45) s ((if decide (0 < s.length) && s.getD 0 0 == 45 then 1 else 0) + runD (s.drop (if decide (0 < s.length) && s.getD 0 0 == 45 then 1 else 0))) true) else 0
def sPrefix : List AV → Option AV
  | [.str s] => if s.length ≤ 1099511627776 then some (.int .i64 (prefixF s)) else none
  | _ => none
def tb37 : List TbE := [⟨49, fun vs _ => sDigit vs, .of (.one .bool)⟩]
def q37 (s : List UInt8) (good : Int) (i : Nat) (low neg : Bool) : St := (envOf 69 [(0, .str s), (3, .int .i64 good), (4, .int .i64 i), (5, .bool low), (6, .bool neg)], [])
def r37 (v : Int) : St := (envOf 69 [(2, .int .i64 v), (3, .int .i64 v), (68, .int .i64 v)], [])
def C37 : Cfg := { tbC Q tb37 (fun _ => false) kdI with
  F := fun id => if id = 21 then ⟨dropT 69 [3], .all⟩ else if id = 1000002 ∨ id = 1000003 then ⟨dropT 69 [0, 3, 4, 5, 6], .all⟩ else ⟨[], .all⟩ }
def G37 (s : List UInt8) (m : Nat) (l : Nat) : Option (St → (AExit → St → Prop) → Prop) :=
  if l = 2 then some fun st K => ∃ (i : Nat) (neg : Bool), st = q37 s 0 i true neg ∧ (dgA s i = true ∧ s.length - i < m) ∧ K .ret (r37 (wholeP neg s (i + runD (s.drop i)) true))
  else if l = 3 then some fun st K => ∃ (i good : Nat) (low neg : Bool), st = q37 s good i low neg ∧ (i ≤ s.length ∧ s.length - i < m) ∧ K .ret (r37 (behindL neg (s.drop i) i low good)) else none

/- What Prefix' code must meet: written by vcgen.py. -/
theorem v49 (s : List UInt8) (i : Nat) (R : AV → AHeap → Prop) : (askB (decide ((↑i : Int) < (↑(List.length s) : Int))) (chkW (decide (i < List.length s)) (askB (decide ((↑(UInt8.toNat (List.getD s i 0)) : Int) ≥ 48)) (chkW (decide (i < List.length s)) (askB (decide ((↑(UInt8.toNat (List.getD s i 0)) : Int) ≤ 57)) (R (AV.bool true) []) (R (AV.bool false) []))) (R (AV.bool false) []))) (R (AV.bool false) [])) = (wpF Tryd.prog { tbC Q [] (fun _ => false) kdI with F := fun _ => ⟨[], .all⟩ } 40 p49 [.str s, .int .i64 i] [] R) := by kernel_rfl
theorem v37_2 (s : List UInt8) (m i : Nat) (neg : Bool) (K : AExit → St → Prop) : (∃ (b : Bool), sDigit [AV.str s, AV.int .i64 (IntKind.wrap .i64 ((↑i : Int) + 1))] = some (AV.bool b) ∧ askB b (∃ (i_1 : Nat), ∃ (neg_1 : Bool), (envOf 69 [(0, AV.str s), (3, AV.int .i64 0), (4, AV.int .i64 (IntKind.wrap .i64 ((↑i : Int) + 1))), (5, AV.bool true), (6, AV.bool neg)], ([] : AHeap)) = (envOf 69 [(0, AV.str s), (3, AV.int .i64 0), (4, AV.int .i64 (↑i_1 : Int)), (5, AV.bool true), (6, AV.bool neg_1)], []) ∧ (dgA s i_1 = true ∧ List.length s - i_1 < m) ∧ K AExit.ret (envOf 69 [(2, AV.int .i64 (↑(wholeP neg_1 s (i_1 + runD (List.drop i_1 s)) true) : Int)), (3, AV.int .i64 (↑(wholeP neg_1 s (i_1 + runD (List.drop i_1 s)) true) : Int)), (68, AV.int .i64 (↑(wholeP neg_1 s (i_1 + runD (List.drop i_1 s)) true) : Int))], [])) (askB (decide (IntKind.wrap .i64 ((↑i : Int) + 1) ≥ (↑(List.length s) : Int))) (K AExit.ret (envOf 69 [(2, AV.int .i64 (IntKind.wrap .i64 ((↑i : Int) + 1))), (3, AV.int .i64 (IntKind.wrap .i64 ((↑i : Int) + 1))), (68, AV.int .i64 (IntKind.wrap .i64 ((↑i : Int) + 1)))], [])) (chkW (decide (0 ≤ IntKind.wrap .i64 ((↑i : Int) + 1))) (chkW (decide (Int.toNat (IntKind.wrap .i64 ((↑i : Int) + 1)) < List.length s)) (askB ((↑(UInt8.toNat (List.getD s (Int.toNat (IntKind.wrap .i64 ((↑i : Int) + 1))) 0)) : Int) != 46) (K AExit.ret (envOf 69 [(2, AV.int .i64 (IntKind.wrap .i64 ((↑i : Int) + 1))), (3, AV.int .i64 (IntKind.wrap .i64 ((↑i : Int) + 1))), (68, AV.int .i64 (IntKind.wrap .i64 ((↑i : Int) + 1)))], [])) (∃ (b : Bool), sDigit [AV.str s, AV.int .i64 (IntKind.wrap .i64 (IntKind.wrap .i64 ((↑i : Int) + 1) + 1))] = some (AV.bool b) ∧ askB b (∃ (i_1 : Nat), ∃ (good : Nat), ∃ (low : Bool), ∃ (neg_1 : Bool), (envOf 69 [(0, AV.str s), (3, AV.int .i64 (IntKind.wrap .i64 (IntKind.wrap .i64 (IntKind.wrap .i64 ((↑i : Int) + 1) + 1) + 1))), (4, AV.int .i64 (IntKind.wrap .i64 (IntKind.wrap .i64 (IntKind.wrap .i64 ((↑i : Int) + 1) + 1) + 1))), (5, AV.bool true), (6, AV.bool neg)], ([] : AHeap)) = (envOf 69 [(0, AV.str s), (3, AV.int .i64 (↑good : Int)), (4, AV.int .i64 (↑i_1 : Int)), (5, AV.bool low), (6, AV.bool neg_1)], []) ∧ (i_1 ≤ List.length s ∧ List.length s - i_1 < m) ∧ K AExit.ret (envOf 69 [(2, AV.int .i64 (↑(behindL neg_1 (List.drop i_1 s) i_1 low good) : Int)), (3, AV.int .i64 (↑(behindL neg_1 (List.drop i_1 s) i_1 low good) : Int)), (68, AV.int .i64 (↑(behindL neg_1 (List.drop i_1 s) i_1 low good) : Int))], [])) (K AExit.ret (envOf 69 [(2, AV.int .i64 (IntKind.wrap .i64 ((↑i : Int) + 1))), (3, AV.int .i64 (IntKind.wrap .i64 ((↑i : Int) + 1))), (68, AV.int .i64 (IntKind.wrap .i64 ((↑i : Int) + 1)))], [])))))))) = (wpP Tryd.prog { C37 with gw := G37 s m } 80 (.inr ((match p37.body with | .seq _ (.scope a) => a | _ => .skip), ((findP (match p37.body with | .seq _ (.scope a) => a | _ => .skip) 2).getD .skip))) (q37 s 0 i true neg) K) := by kernel_rfl
theorem v37_3 (s : List UInt8) (m i good : Nat) (low neg : Bool) (K : AExit → St → Prop) : (∃ (b : Bool), some (AV.bool (dgA s i)) = some (AV.bool b) ∧ askB b (askB low (∃ (i_1 : Nat), ∃ (good : Nat), ∃ (low : Bool), ∃ (neg_1 : Bool), (envOf 69 [(0, AV.str s), (3, AV.int .i64 (IntKind.wrap .i64 ((↑i : Int) + 1))), (4, AV.int .i64 (IntKind.wrap .i64 ((↑i : Int) + 1))), (5, AV.bool true), (6, AV.bool neg)], ([] : AHeap)) = (envOf 69 [(0, AV.str s), (3, AV.int .i64 (↑good : Int)), (4, AV.int .i64 (↑i_1 : Int)), (5, AV.bool low), (6, AV.bool neg_1)], []) ∧ (i_1 ≤ List.length s ∧ List.length s - i_1 < m) ∧ K AExit.ret (envOf 69 [(2, AV.int .i64 (↑(behindL neg_1 (List.drop i_1 s) i_1 low good) : Int)), (3, AV.int .i64 (↑(behindL neg_1 (List.drop i_1 s) i_1 low good) : Int)), (68, AV.int .i64 (↑(behindL neg_1 (List.drop i_1 s) i_1 low good) : Int))], [])) (chkW (decide (i < List.length s)) (askB ((↑(UInt8.toNat (List.getD s i 0)) : Int) != 48) (∃ (i_1 : Nat), ∃ (good : Nat), ∃ (low : Bool), ∃ (neg_1 : Bool), (envOf 69 [(0, AV.str s), (3, AV.int .i64 (IntKind.wrap .i64 ((↑i : Int) + 1))), (4, AV.int .i64 (IntKind.wrap .i64 ((↑i : Int) + 1))), (5, AV.bool true), (6, AV.bool neg)], ([] : AHeap)) = (envOf 69 [(0, AV.str s), (3, AV.int .i64 (↑good : Int)), (4, AV.int .i64 (↑i_1 : Int)), (5, AV.bool low), (6, AV.bool neg_1)], []) ∧ (i_1 ≤ List.length s ∧ List.length s - i_1 < m) ∧ K AExit.ret (envOf 69 [(2, AV.int .i64 (↑(behindL neg_1 (List.drop i_1 s) i_1 low good) : Int)), (3, AV.int .i64 (↑(behindL neg_1 (List.drop i_1 s) i_1 low good) : Int)), (68, AV.int .i64 (↑(behindL neg_1 (List.drop i_1 s) i_1 low good) : Int))], [])) (askB neg (∃ (i_1 : Nat), ∃ (good_1 : Nat), ∃ (low : Bool), ∃ (neg_1 : Bool), (envOf 69 [(0, AV.str s), (3, AV.int .i64 (↑good : Int)), (4, AV.int .i64 (IntKind.wrap .i64 ((↑i : Int) + 1))), (5, AV.bool false), (6, AV.bool neg)], ([] : AHeap)) = (envOf 69 [(0, AV.str s), (3, AV.int .i64 (↑good_1 : Int)), (4, AV.int .i64 (↑i_1 : Int)), (5, AV.bool low), (6, AV.bool neg_1)], []) ∧ (i_1 ≤ List.length s ∧ List.length s - i_1 < m) ∧ K AExit.ret (envOf 69 [(2, AV.int .i64 (↑(behindL neg_1 (List.drop i_1 s) i_1 low good_1) : Int)), (3, AV.int .i64 (↑(behindL neg_1 (List.drop i_1 s) i_1 low good_1) : Int)), (68, AV.int .i64 (↑(behindL neg_1 (List.drop i_1 s) i_1 low good_1) : Int))], [])) (∃ (i_1 : Nat), ∃ (good : Nat), ∃ (low : Bool), ∃ (neg_1 : Bool), (envOf 69 [(0, AV.str s), (3, AV.int .i64 (IntKind.wrap .i64 ((↑i : Int) + 1))), (4, AV.int .i64 (IntKind.wrap .i64 ((↑i : Int) + 1))), (5, AV.bool false), (6, AV.bool neg)], ([] : AHeap)) = (envOf 69 [(0, AV.str s), (3, AV.int .i64 (↑good : Int)), (4, AV.int .i64 (↑i_1 : Int)), (5, AV.bool low), (6, AV.bool neg_1)], []) ∧ (i_1 ≤ List.length s ∧ List.length s - i_1 < m) ∧ K AExit.ret (envOf 69 [(2, AV.int .i64 (↑(behindL neg_1 (List.drop i_1 s) i_1 low good) : Int)), (3, AV.int .i64 (↑(behindL neg_1 (List.drop i_1 s) i_1 low good) : Int)), (68, AV.int .i64 (↑(behindL neg_1 (List.drop i_1 s) i_1 low good) : Int))], [])))))) (K AExit.ret (envOf 69 [(2, AV.int .i64 (↑good : Int)), (3, AV.int .i64 (↑good : Int)), (68, AV.int .i64 (↑good : Int))], []))) = (wpP Tryd.prog { C37 with gw := G37 s m } 80 (.inr ((match p37.body with | .seq _ (.scope a) => a | _ => .skip), ((findP (match p37.body with | .seq _ (.scope a) => a | _ => .skip) 3).getD .skip))) (q37 s good i low neg) K) := by kernel_rfl
theorem v37 (s : List UInt8) (m : Nat) (R : AV → AHeap → Prop) : (askB (decide ((↑(List.length s) : Int) > 0)) (chkW (decide (0 < List.length s)) (askB ((↑(UInt8.toNat (List.getD s 0 0)) : Int) == 45) (∃ (b : Bool), some (AV.bool (dgA s 1)) = some (AV.bool b) ∧ askB b (chkW (decide (1 < List.length s)) (askB ((↑(UInt8.toNat (List.getD s 1 0)) : Int) == 48) (askB (decide (2 ≥ (↑(List.length s) : Int))) (R (AV.int .i64 0) []) (chkW (decide (2 < List.length s)) (askB ((↑(UInt8.toNat (List.getD s 2 0)) : Int) != 46) (R (AV.int .i64 0) []) (∃ (b : Bool), some (AV.bool (dgA s 3)) = some (AV.bool b) ∧ askB b (chkW (decide (3 < List.length s)) (askB ((↑(UInt8.toNat (List.getD s 3 0)) : Int) != 48) (∃ (i : Nat), ∃ (good : Nat), ∃ (low : Bool), ∃ (neg : Bool), (envOf 69 [(0, AV.str s), (3, AV.int .i64 4), (4, AV.int .i64 4), (5, AV.bool true), (6, AV.bool true)], ([] : AHeap)) = (envOf 69 [(0, AV.str s), (3, AV.int .i64 (↑good : Int)), (4, AV.int .i64 (↑i : Int)), (5, AV.bool low), (6, AV.bool neg)], []) ∧ (i ≤ List.length s ∧ List.length s - i < m) ∧ R (AV.int .i64 (↑(behindL neg (List.drop i s) i low good) : Int)) []) (∃ (i : Nat), ∃ (good : Nat), ∃ (low : Bool), ∃ (neg : Bool), (envOf 69 [(0, AV.str s), (3, AV.int .i64 0), (4, AV.int .i64 4), (5, AV.bool false), (6, AV.bool true)], ([] : AHeap)) = (envOf 69 [(0, AV.str s), (3, AV.int .i64 (↑good : Int)), (4, AV.int .i64 (↑i : Int)), (5, AV.bool low), (6, AV.bool neg)], []) ∧ (i ≤ List.length s ∧ List.length s - i < m) ∧ R (AV.int .i64 (↑(behindL neg (List.drop i s) i low good) : Int)) []))) (R (AV.int .i64 0) []))))) (∃ (b : Bool), some (AV.bool (dgA s 2)) = some (AV.bool b) ∧ askB b (∃ (i : Nat), ∃ (neg : Bool), (envOf 69 [(0, AV.str s), (3, AV.int .i64 0), (4, AV.int .i64 2), (5, AV.bool true), (6, AV.bool true)], ([] : AHeap)) = (envOf 69 [(0, AV.str s), (3, AV.int .i64 0), (4, AV.int .i64 (↑i : Int)), (5, AV.bool true), (6, AV.bool neg)], []) ∧ (dgA s i = true ∧ List.length s - i < m) ∧ R (AV.int .i64 (↑(wholeP neg s (i + runD (List.drop i s)) true) : Int)) []) (askB (decide (2 ≥ (↑(List.length s) : Int))) (R (AV.int .i64 2) []) (chkW (decide (2 < List.length s)) (askB ((↑(UInt8.toNat (List.getD s 2 0)) : Int) != 46) (R (AV.int .i64 2) []) (∃ (b : Bool), some (AV.bool (dgA s 3)) = some (AV.bool b) ∧ askB b (∃ (i : Nat), ∃ (good : Nat), ∃ (low : Bool), ∃ (neg : Bool), (envOf 69 [(0, AV.str s), (3, AV.int .i64 4), (4, AV.int .i64 4), (5, AV.bool true), (6, AV.bool true)], ([] : AHeap)) = (envOf 69 [(0, AV.str s), (3, AV.int .i64 (↑good : Int)), (4, AV.int .i64 (↑i : Int)), (5, AV.bool low), (6, AV.bool neg)], []) ∧ (i ≤ List.length s ∧ List.length s - i < m) ∧ R (AV.int .i64 (↑(behindL neg (List.drop i s) i low good) : Int)) []) (R (AV.int .i64 2) [])))))))) (R (AV.int .i64 0) [])) (∃ (b : Bool), some (AV.bool (dgA s 0)) = some (AV.bool b) ∧ askB b (chkW (decide (0 < List.length s)) (askB ((↑(UInt8.toNat (List.getD s 0 0)) : Int) == 48) (askB (decide (1 ≥ (↑(List.length s) : Int))) (R (AV.int .i64 1) []) (chkW (decide (1 < List.length s)) (askB ((↑(UInt8.toNat (List.getD s 1 0)) : Int) != 46) (R (AV.int .i64 1) []) (∃ (b : Bool), some (AV.bool (dgA s 2)) = some (AV.bool b) ∧ askB b (chkW (decide (2 < List.length s)) (askB ((↑(UInt8.toNat (List.getD s 2 0)) : Int) != 48) (∃ (i : Nat), ∃ (good : Nat), ∃ (low : Bool), ∃ (neg : Bool), (envOf 69 [(0, AV.str s), (3, AV.int .i64 3), (4, AV.int .i64 3), (5, AV.bool true), (6, AV.bool false)], ([] : AHeap)) = (envOf 69 [(0, AV.str s), (3, AV.int .i64 (↑good : Int)), (4, AV.int .i64 (↑i : Int)), (5, AV.bool low), (6, AV.bool neg)], []) ∧ (i ≤ List.length s ∧ List.length s - i < m) ∧ R (AV.int .i64 (↑(behindL neg (List.drop i s) i low good) : Int)) []) (∃ (i : Nat), ∃ (good : Nat), ∃ (low : Bool), ∃ (neg : Bool), (envOf 69 [(0, AV.str s), (3, AV.int .i64 3), (4, AV.int .i64 3), (5, AV.bool false), (6, AV.bool false)], ([] : AHeap)) = (envOf 69 [(0, AV.str s), (3, AV.int .i64 (↑good : Int)), (4, AV.int .i64 (↑i : Int)), (5, AV.bool low), (6, AV.bool neg)], []) ∧ (i ≤ List.length s ∧ List.length s - i < m) ∧ R (AV.int .i64 (↑(behindL neg (List.drop i s) i low good) : Int)) []))) (R (AV.int .i64 1) []))))) (∃ (b : Bool), some (AV.bool (dgA s 1)) = some (AV.bool b) ∧ askB b (∃ (i : Nat), ∃ (neg : Bool), (envOf 69 [(0, AV.str s), (3, AV.int .i64 0), (4, AV.int .i64 1), (5, AV.bool true), (6, AV.bool false)], ([] : AHeap)) = (envOf 69 [(0, AV.str s), (3, AV.int .i64 0), (4, AV.int .i64 (↑i : Int)), (5, AV.bool true), (6, AV.bool neg)], []) ∧ (dgA s i = true ∧ List.length s - i < m) ∧ R (AV.int .i64 (↑(wholeP neg s (i + runD (List.drop i s)) true) : Int)) []) (askB (decide (1 ≥ (↑(List.length s) : Int))) (R (AV.int .i64 1) []) (chkW (decide (1 < List.length s)) (askB ((↑(UInt8.toNat (List.getD s 1 0)) : Int) != 46) (R (AV.int .i64 1) []) (∃ (b : Bool), some (AV.bool (dgA s 2)) = some (AV.bool b) ∧ askB b (∃ (i : Nat), ∃ (good : Nat), ∃ (low : Bool), ∃ (neg : Bool), (envOf 69 [(0, AV.str s), (3, AV.int .i64 3), (4, AV.int .i64 3), (5, AV.bool true), (6, AV.bool false)], ([] : AHeap)) = (envOf 69 [(0, AV.str s), (3, AV.int .i64 (↑good : Int)), (4, AV.int .i64 (↑i : Int)), (5, AV.bool low), (6, AV.bool neg)], []) ∧ (i ≤ List.length s ∧ List.length s - i < m) ∧ R (AV.int .i64 (↑(behindL neg (List.drop i s) i low good) : Int)) []) (R (AV.int .i64 1) [])))))))) (R (AV.int .i64 0) [])))) (∃ (b : Bool), some (AV.bool (dgA s 0)) = some (AV.bool b) ∧ askB b (chkW (decide (0 < List.length s)) (askB ((↑(UInt8.toNat (List.getD s 0 0)) : Int) == 48) (askB (decide (1 ≥ (↑(List.length s) : Int))) (R (AV.int .i64 1) []) (chkW (decide (1 < List.length s)) (askB ((↑(UInt8.toNat (List.getD s 1 0)) : Int) != 46) (R (AV.int .i64 1) []) (∃ (b : Bool), some (AV.bool (dgA s 2)) = some (AV.bool b) ∧ askB b (chkW (decide (2 < List.length s)) (askB ((↑(UInt8.toNat (List.getD s 2 0)) : Int) != 48) (∃ (i : Nat), ∃ (good : Nat), ∃ (low : Bool), ∃ (neg : Bool), (envOf 69 [(0, AV.str s), (3, AV.int .i64 3), (4, AV.int .i64 3), (5, AV.bool true), (6, AV.bool false)], ([] : AHeap)) = (envOf 69 [(0, AV.str s), (3, AV.int .i64 (↑good : Int)), (4, AV.int .i64 (↑i : Int)), (5, AV.bool low), (6, AV.bool neg)], []) ∧ (i ≤ List.length s ∧ List.length s - i < m) ∧ R (AV.int .i64 (↑(behindL neg (List.drop i s) i low good) : Int)) []) (∃ (i : Nat), ∃ (good : Nat), ∃ (low : Bool), ∃ (neg : Bool), (envOf 69 [(0, AV.str s), (3, AV.int .i64 3), (4, AV.int .i64 3), (5, AV.bool false), (6, AV.bool false)], ([] : AHeap)) = (envOf 69 [(0, AV.str s), (3, AV.int .i64 (↑good : Int)), (4, AV.int .i64 (↑i : Int)), (5, AV.bool low), (6, AV.bool neg)], []) ∧ (i ≤ List.length s ∧ List.length s - i < m) ∧ R (AV.int .i64 (↑(behindL neg (List.drop i s) i low good) : Int)) []))) (R (AV.int .i64 1) []))))) (∃ (b : Bool), some (AV.bool (dgA s 1)) = some (AV.bool b) ∧ askB b (∃ (i : Nat), ∃ (neg : Bool), (envOf 69 [(0, AV.str s), (3, AV.int .i64 0), (4, AV.int .i64 1), (5, AV.bool true), (6, AV.bool false)], ([] : AHeap)) = (envOf 69 [(0, AV.str s), (3, AV.int .i64 0), (4, AV.int .i64 (↑i : Int)), (5, AV.bool true), (6, AV.bool neg)], []) ∧ (dgA s i = true ∧ List.length s - i < m) ∧ R (AV.int .i64 (↑(wholeP neg s (i + runD (List.drop i s)) true) : Int)) []) (askB (decide (1 ≥ (↑(List.length s) : Int))) (R (AV.int .i64 1) []) (chkW (decide (1 < List.length s)) (askB ((↑(UInt8.toNat (List.getD s 1 0)) : Int) != 46) (R (AV.int .i64 1) []) (∃ (b : Bool), some (AV.bool (dgA s 2)) = some (AV.bool b) ∧ askB b (∃ (i : Nat), ∃ (good : Nat), ∃ (low : Bool), ∃ (neg : Bool), (envOf 69 [(0, AV.str s), (3, AV.int .i64 3), (4, AV.int .i64 3), (5, AV.bool true), (6, AV.bool false)], ([] : AHeap)) = (envOf 69 [(0, AV.str s), (3, AV.int .i64 (↑good : Int)), (4, AV.int .i64 (↑i : Int)), (5, AV.bool low), (6, AV.bool neg)], []) ∧ (i ≤ List.length s ∧ List.length s - i < m) ∧ R (AV.int .i64 (↑(behindL neg (List.drop i s) i low good) : Int)) []) (R (AV.int .i64 1) [])))))))) (R (AV.int .i64 0) []))) = (wpF Tryd.prog { C37 with gw := G37 s m } 80 p37 [.str s] [] R) := by kernel_rfl

/- digit's contract; Prefix' gotos. -/

theorem dgA_lt {s : List UInt8} {i : Nat} (h : dgA s i = true) : i < s.length := by
  unfold dgA at h
  simp only [Bool.and_eq_true, decide_eq_true_eq] at h
  exact h.1
theorem dgA_eq {s : List UInt8} {i : Nat} (h : i < s.length) : dgA s i = isD (s.getD i 0) := by
  unfold dgA; rw [decide_eq_true h, Bool.true_and]
theorem digit_ok : QuietOK Tryd.prog 49 fun vs _ => sDigit vs := quiet_plain ht49 fun args v h => by
  unfold sDigit at h
  split at h
  · rename_i s z
    split at h
    · rename_i hz
      cases h
      obtain ⟨i, rfl⟩ : ∃ i : Nat, z = i := ⟨z.toNat, by omega⟩
      refine ⟨rfl, rfl, ?_⟩
      have hS : (tbS Q []).OK Tryd.prog := tbS_ok quietText (by simp)
      obtain ⟨u, h', rfl, hsem⟩ := sem_vc mixed (C := { tbC Q [] (fun _ => false) kdI with F := fun _ => ⟨[], .all⟩ }) hS (tbS_q _ _) (tbW_ok rfl) ht49 c49 (no_parts rfl) (v49 s i fun u _ => u = .bool (dgA s i)) (by
        refine askI (fun h1 => ?_) fun h1 => ?_
        · simp only [decide_eq_true_eq] at h1
          have hl : i < s.length := by omega
          rw [dgA_eq hl]
          refine chkI (decide_eq_true hl) (askI (fun h2 => chkI (decide_eq_true hl) (askI (fun h3 => ?_) fun h3 => ?_)) fun h2 => ?_)
          · simp only [decide_eq_true_eq] at h2 h3
            unfold isD; rw [decide_eq_true (by omega), decide_eq_true (p := (s.getD i 0).toNat ≤ 57) (by omega)]; rfl
          · simp only [decide_eq_false_iff_not] at h3
            unfold isD; rw [decide_eq_false (p := (s.getD i 0).toNat ≤ 57) (by omega), Bool.and_false]
          · simp only [decide_eq_false_iff_not] at h2
            unfold isD; rw [decide_eq_false (by omega)]; rfl
        · simp only [decide_eq_false_iff_not] at h1
          unfold dgA; rw [decide_eq_false (by omega)]; rfl)
      exact ⟨h', hsem⟩
    · cases h
  · cases h
theorem digit_at (s : List UInt8) (i : Nat) : sDigit [.str s, .int .i64 (i : Int)] = some (.bool (dgA s i)) := by
  show (if 0 ≤ (i : Int) then some (AV.bool (dgA s (Int.toNat (i : Int)))) else none) = _
  rw [if_pos (by omega)]; rfl
theorem runD_at {s : List UInt8} {i : Nat} (h : dgA s i = true) : runD (s.drop i) = runD (s.drop (i + 1)) + 1 := by
  have hl := dgA_lt h
  rw [drop_cons hl]
  rw [dgA_eq hl] at h
  simp only [runD, h, if_true]
theorem runD_no {s : List UInt8} {i : Nat} (h : dgA s i = false) : runD (s.drop i) = 0 := by
  rcases Nat.lt_or_ge i s.length with hl | hl
  · rw [drop_cons hl]
    rw [dgA_eq hl] at h
    simp only [runD, h, Bool.false_eq_true, if_false]
  · rw [List.drop_eq_nil_of_le hl]; rfl
theorem behind_at {neg low : Bool} {s : List UInt8} {i good : Nat} (h : dgA s i = true) : behindL neg (s.drop i) i low good = behindL neg (s.drop (i + 1)) (i + 1) (low || s.getD i 0 != 48) (if (low || s.getD i 0 != 48) || !neg then i + 1 else good) := by
  have hl := dgA_lt h
  rw [drop_cons hl]
  rw [dgA_eq hl] at h
  simp only [behindL, h, if_true]
theorem behind_no {neg low : Bool} {s : List UInt8} {i good : Nat} (h : dgA s i = false) : behindL neg (s.drop i) i low good = good := by
  rcases Nat.lt_or_ge i s.length with hl | hl
  · rw [drop_cons hl]
    rw [dgA_eq hl] at h
    simp only [behindL, h, Bool.false_eq_true, if_false]
  · rw [List.drop_eq_nil_of_le hl]; rfl
theorem ne48 (c : UInt8) : (((c.toNat : Nat) : Int) != 48) = (c != 48) := ne_u8 c 48
theorem ne46 (c : UInt8) : (((c.toNat : Nat) : Int) != 46) = (c != 46) := ne_u8 c 46
theorem wholeP_no {neg low : Bool} {s : List UInt8} {i : Nat} (h : (decide (i < s.length) && s.getD i 0 == 46) = false) : wholeP neg s i low = if low || !neg then i else 0 := by
  unfold wholeP; rw [h]; rfl
theorem wholeP_yes {neg low : Bool} {s : List UInt8} {i : Nat} (h : i < s.length) (h2 : (s.getD i 0 != 46) = false) : wholeP neg s i low = behindL neg (s.drop (i + 1)) (i + 1) low (if low || !neg then i else 0) := by
  have h3 : (s.getD i 0 == 46) = true := by rw [bne] at h2; simpa using h2
  unfold wholeP; rw [decide_eq_true h, h3]; rfl
def sc37 : PC := (match p37.body with | .seq _ (.scope a) => a | _ => .skip)
def CG (s : List UInt8) (m : Nat) : Cfg := { C37 with gw := G37 s m }
theorem gotos37 (s : List UInt8) (hs : s.length ≤ 1099511627776) : ∀ m, PartOK Tryd.prog { C37 with gw := G37 s m } (.scope sc37) := by
  have hcw : CwOK C37.S C37.cw := tbW_ok (Q := Q) (l := tb37) rfl
  refine part_gotos (P := Tryd.prog) (C := C37) hcw (a := sc37) (by
    have e : partsIn sc37 = [] := rfl
    rw [e]; intro x hx; cases hx) (G37 s) ?_
  intro m l T r st K hT hf ht
  unfold G37 at hT
  split at hT
  · rename_i hl
    subst hl
    cases hT
    obtain ⟨i, neg, rfl, ⟨hd, hm⟩, hk⟩ := ht
    have hlt := dgA_lt hd
    have hr : r = (findP sc37 2).getD .skip := by rw [hf]; rfl
    subst hr
    refine ⟨s.length - i, 80, hm, ?_⟩
    have hv := v37_2 s (s.length - i) i neg K
    refine Eq.subst (motive := fun p => p) hv ?_
    clear hv
    have w1 : IntKind.wrap .i64 ((i : Int) + 1) = ((i + 1 : Nat) : Int) := by rw [IntKind.wrap_i64]; omega
    have w2 : IntKind.wrap .i64 (((i + 1 : Nat) : Int) + 1) = ((i + 2 : Nat) : Int) := by rw [IntKind.wrap_i64]; omega
    have w3 : IntKind.wrap .i64 (((i + 2 : Nat) : Int) + 1) = ((i + 3 : Nat) : Int) := by rw [IntKind.wrap_i64]; omega
    rw [w1, w2, w3, Int.toNat_natCast, ne46]
    rw [runD_at hd] at hk
    refine ⟨dgA s (i + 1), digit_at s (i + 1), askI (fun g1 => ?_) fun g1 => ?_⟩
    · refine ⟨i + 1, neg, rfl, ⟨g1, by omega⟩, ?_⟩
      rw [show i + 1 + runD (s.drop (i + 1)) = i + (runD (s.drop (i + 1)) + 1) by omega]
      exact hk
    · rw [runD_no g1] at hk
      have hk2 : K .ret (r37 (wholeP neg s (i + 1) true)) := hk
      refine askI (fun g2 => ?_) fun g2 => ?_
      · simp only [decide_eq_true_eq] at g2
        rw [wholeP_no (by rw [decide_eq_false (by omega), Bool.false_and])] at hk2
        exact hk2
      · simp only [decide_eq_false_iff_not] at g2
        have h1 : i + 1 < s.length := by omega
        refine chkI (decide_eq_true (by omega)) (chkI (decide_eq_true h1) (askI (fun g3 => ?_) fun g3 => ⟨dgA s (i + 2), digit_at s (i + 2), askI (fun g4 => ?_) fun g4 => ?_⟩))
        · rw [wholeP_no (by rw [bne] at g3; rw [Bool.not_eq_true'] at g3; rw [g3, Bool.and_false])] at hk2
          exact hk2
        · have hl4 := dgA_lt g4
          rw [wholeP_yes h1 g3, show i + 1 + 1 = i + 2 by omega, behind_at g4] at hk2
          exact ⟨i + 3, i + 3, true, neg, rfl, ⟨by omega, by omega⟩, hk2⟩
        · rw [wholeP_yes h1 g3, show i + 1 + 1 = i + 2 by omega, behind_no g4] at hk2
          exact hk2
  · split at hT
    · rename_i hl
      subst hl
      cases hT
      obtain ⟨i, good, low, neg, rfl, ⟨hd, hm⟩, hk⟩ := ht
      have hr : r = (findP sc37 3).getD .skip := by rw [hf]; rfl
      subst hr
      refine ⟨s.length - i, 80, hm, ?_⟩
      have hv := v37_3 s (s.length - i) i good low neg K
      refine Eq.subst (motive := fun p => p) hv ?_
      clear hv
      refine ⟨dgA s i, rfl, askI (fun g1 => ?_) fun g1 => ?_⟩
      · have hlt := dgA_lt g1
        have w1 : IntKind.wrap .i64 ((i : Int) + 1) = ((i + 1 : Nat) : Int) := by rw [IntKind.wrap_i64]; omega
        rw [w1, ne48]
        rw [behind_at g1] at hk
        refine askI (fun g2 => ?_) fun g2 => chkI (decide_eq_true hlt) (askI (fun g3 => ?_) fun g3 => askI (fun g4 => ?_) fun g4 => ?_)
        · subst g2
          exact ⟨i + 1, i + 1, true, neg, rfl, ⟨by omega, by omega⟩, hk⟩
        · subst g2
          rw [g3] at hk
          exact ⟨i + 1, i + 1, true, neg, rfl, ⟨by omega, by omega⟩, hk⟩
        · subst g2 g4
          rw [g3] at hk
          exact ⟨i + 1, good, false, true, rfl, ⟨by omega, by omega⟩, hk⟩
        · subst g2 g4
          rw [g3] at hk
          exact ⟨i + 1, i + 1, false, false, rfl, ⟨by omega, by omega⟩, hk⟩
      · rw [behind_no g1] at hk
        exact hk
    · cases hT

/- Prefix' contract. -/

theorem eq45 (c : UInt8) : (((c.toNat : Nat) : Int) == 45) = (c == 45) := by
  have h := ne_u8 c 45
  rw [bne, bne] at h
  exact Bool.not_inj h
theorem pfx_neg {s : List UInt8} (h : (decide (0 < s.length) && s.getD 0 0 == 45) = true) : prefixF s = if dgA s 1 then (if s.getD 1 0 == 48 then wholeP true s 2 false else wholeP true s (1 + runD (s.drop 1)) true) else 0 := by
  unfold prefixF; rw [h]; rfl
theorem pfx_pos {s : List UInt8} (h : (decide (0 < s.length) && s.getD 0 0 == 45) = false) : prefixF s = if dgA s 0 then (if s.getD 0 0 == 48 then wholeP false s 1 false else wholeP false s (0 + runD (s.drop 0)) true) else 0 := by
  unfold prefixF; rw [h]; rfl
theorem prefix_ok : QuietOK Tryd.prog 37 fun vs _ => sPrefix vs := quiet_plain ht37 fun args v h => by
  unfold sPrefix at h
  split at h
  · rename_i s
    split at h
    · rename_i hs
      cases h
      refine ⟨rfl, rfl, ?_⟩
      have hS : (tbS Q tb37).OK Tryd.prog := tbS_ok quietText (by
        intro x hx
        simp only [tb37, List.mem_cons, List.not_mem_nil, or_false] at hx
        subst hx
        exact digit_ok)
      obtain ⟨u, h', rfl, hsem⟩ := sem_vc mixed (C := { C37 with gw := G37 s (s.length + 1) }) hS (tbS_q _ _) (tbW_ok rfl) ht37 c37 (fun x hx => by
        have e : partsIn p37.body = [.scope sc37] := rfl
        rw [e, List.mem_singleton] at hx
        subst hx
        exact gotos37 s hs (s.length + 1)) (v37 s (s.length + 1) fun u _ => u = .int .i64 (prefixF s)) (by
        refine askI (fun g1 => ?_) fun g1 => ?_
        · simp only [decide_eq_true_eq] at g1
          refine chkI (decide_eq_true (by omega)) ?_
          rw [eq45]
          refine askI (fun g2 => ?_) fun g2 => ?_
          · have hF := pfx_neg (s := s) (by rw [g2, decide_eq_true (by omega)]; rfl)
            refine ⟨dgA s 1, rfl, askI (fun f1 => ?_) fun f1 => ?_⟩
            · have l1 := dgA_lt f1
              rw [f1] at hF
              refine chkI (decide_eq_true (by omega)) ?_
              rw [eq48]
              refine askI (fun f2 => ?_) fun f2 => ⟨dgA s 2, rfl, askI (fun f3 => ?_) fun f3 => ?_⟩
              · rw [f2] at hF
                have hP : prefixF s = wholeP true s 2 false := hF
                refine askI (fun e1 => ?_) fun e1 => ?_
                · simp only [decide_eq_true_eq] at e1
                  rw [hP, wholeP_no (by rw [decide_eq_false (by omega), Bool.false_and])]; rfl
                simp only [decide_eq_false_iff_not] at e1
                refine chkI (decide_eq_true (by omega)) ?_
                rw [ne46]
                refine askI (fun e2 => ?_) fun e2 => ⟨dgA s 3, rfl, askI (fun e3 => ?_) fun e3 => ?_⟩
                · rw [hP, wholeP_no (by rw [bne] at e2; rw [Bool.not_eq_true'] at e2; rw [e2, Bool.and_false])]; rfl
                · have l3 := dgA_lt e3
                  rw [wholeP_yes (by omega) e2, behind_at e3] at hP
                  refine chkI (decide_eq_true (by omega)) ?_
                  rw [ne48]
                  refine askI (fun e4 => ?_) fun e4 => ?_
                  · rw [e4] at hP
                    exact ⟨4, 4, true, true, rfl, ⟨by omega, by omega⟩, by rw [hP]; rfl⟩
                  · rw [e4] at hP
                    exact ⟨4, 0, false, true, rfl, ⟨by omega, by omega⟩, by rw [hP]; rfl⟩
                · rw [wholeP_yes (by omega) e2, behind_no e3] at hP
                  rw [hP]; rfl
              · have hr : runD (s.drop 1) = runD (s.drop 2) + 1 := runD_at f1
                rw [f2, show 1 + runD (s.drop 1) = 2 + runD (s.drop 2) by omega] at hF
                have l3 := dgA_lt f3
                exact ⟨2, true, rfl, ⟨f3, by omega⟩, by rw [hF]; rfl⟩
              · have hr : runD (s.drop 1) = runD (s.drop 2) + 1 := runD_at f1
                rw [f2, show 1 + runD (s.drop 1) = 2 + runD (s.drop 2) by omega, runD_no f3] at hF
                have hP : prefixF s = wholeP true s 2 true := hF
                refine askI (fun e1 => ?_) fun e1 => ?_
                · simp only [decide_eq_true_eq] at e1
                  rw [hP, wholeP_no (by rw [decide_eq_false (by omega), Bool.false_and])]; rfl
                simp only [decide_eq_false_iff_not] at e1
                refine chkI (decide_eq_true (by omega)) ?_
                rw [ne46]
                refine askI (fun e2 => ?_) fun e2 => ⟨dgA s 3, rfl, askI (fun e3 => ?_) fun e3 => ?_⟩
                · rw [hP, wholeP_no (by rw [bne] at e2; rw [Bool.not_eq_true'] at e2; rw [e2, Bool.and_false])]; rfl
                · have l3 := dgA_lt e3
                  rw [wholeP_yes (by omega) e2, behind_at e3] at hP
                  exact ⟨4, 4, true, true, rfl, ⟨by omega, by omega⟩, by rw [hP]; rfl⟩
                · rw [wholeP_yes (by omega) e2, behind_no e3] at hP
                  rw [hP]; rfl
            · rw [f1] at hF
              rw [hF]; rfl
          · have hF := pfx_pos (s := s) (by rw [g2, Bool.and_false])
            refine ⟨dgA s 0, rfl, askI (fun f1 => ?_) fun f1 => ?_⟩
            · have l1 := dgA_lt f1
              rw [f1] at hF
              refine chkI (decide_eq_true (by omega)) ?_
              rw [eq48]
              refine askI (fun f2 => ?_) fun f2 => ⟨dgA s 1, rfl, askI (fun f3 => ?_) fun f3 => ?_⟩
              · rw [f2] at hF
                have hP : prefixF s = wholeP false s 1 false := hF
                refine askI (fun e1 => ?_) fun e1 => ?_
                · simp only [decide_eq_true_eq] at e1
                  rw [hP, wholeP_no (by rw [decide_eq_false (by omega), Bool.false_and])]; rfl
                simp only [decide_eq_false_iff_not] at e1
                refine chkI (decide_eq_true (by omega)) ?_
                rw [ne46]
                refine askI (fun e2 => ?_) fun e2 => ⟨dgA s 2, rfl, askI (fun e3 => ?_) fun e3 => ?_⟩
                · rw [hP, wholeP_no (by rw [bne] at e2; rw [Bool.not_eq_true'] at e2; rw [e2, Bool.and_false])]; rfl
                · have l3 := dgA_lt e3
                  rw [wholeP_yes (by omega) e2, behind_at e3] at hP
                  refine chkI (decide_eq_true (by omega)) ?_
                  rw [ne48]
                  refine askI (fun e4 => ?_) fun e4 => ?_
                  · rw [e4] at hP
                    exact ⟨3, 3, true, false, rfl, ⟨by omega, by omega⟩, by rw [hP]; rfl⟩
                  · rw [e4] at hP
                    exact ⟨3, 3, false, false, rfl, ⟨by omega, by omega⟩, by rw [hP]; rfl⟩
                · rw [wholeP_yes (by omega) e2, behind_no e3] at hP
                  rw [hP]; rfl
              · have hr : runD (s.drop 0) = runD (s.drop 1) + 1 := runD_at f1
                rw [f2, show 0 + runD (s.drop 0) = 1 + runD (s.drop 1) by omega] at hF
                have l3 := dgA_lt f3
                exact ⟨1, false, rfl, ⟨f3, by omega⟩, by rw [hF]; rfl⟩
              · have hr : runD (s.drop 0) = runD (s.drop 1) + 1 := runD_at f1
                rw [f2, show 0 + runD (s.drop 0) = 1 + runD (s.drop 1) by omega, runD_no f3] at hF
                have hP : prefixF s = wholeP false s 1 true := hF
                refine askI (fun e1 => ?_) fun e1 => ?_
                · simp only [decide_eq_true_eq] at e1
                  rw [hP, wholeP_no (by rw [decide_eq_false (by omega), Bool.false_and])]; rfl
                simp only [decide_eq_false_iff_not] at e1
                refine chkI (decide_eq_true (by omega)) ?_
                rw [ne46]
                refine askI (fun e2 => ?_) fun e2 => ⟨dgA s 2, rfl, askI (fun e3 => ?_) fun e3 => ?_⟩
                · rw [hP, wholeP_no (by rw [bne] at e2; rw [Bool.not_eq_true'] at e2; rw [e2, Bool.and_false])]; rfl
                · have l3 := dgA_lt e3
                  rw [wholeP_yes (by omega) e2, behind_at e3] at hP
                  exact ⟨3, 3, true, false, rfl, ⟨by omega, by omega⟩, by rw [hP]; rfl⟩
                · rw [wholeP_yes (by omega) e2, behind_no e3] at hP
                  rw [hP]; rfl
            · rw [f1] at hF
              rw [hF]; rfl
        · simp only [decide_eq_false_iff_not] at g1
          have hF := pfx_pos (s := s) (by rw [decide_eq_false (by omega), Bool.false_and])
          have f0 : dgA s 0 = false := by unfold dgA; rw [decide_eq_false (by omega), Bool.false_and]
          rw [f0] at hF
          refine ⟨dgA s 0, rfl, askF f0 ?_⟩
          rw [hF]; rfl)
      exact ⟨h', hsem⟩
    · cases h
  · cases h
end Go.Proofs.YtahdfjmdoljgiaaDoor
