/- Dectext: Rf; written by mk03.py. -/
import Derived.Test.YtddalcnajejibaaDoorRe
namespace Go.Proofs.YtddalcnajejibaaDoor
open Go Go.Am
set_option maxRecDepth 100000
set_option maxHeartbeats 1000000
set_option linter.unusedVariables false
set_option linter.unusedSimpArgs false
def allR : List UInt8 → List UInt8 → List UInt8
  | [], acc => acc
  | c :: l, acc => if c == 46 then allR l acc else if isD c then (if decide (0 < acc.length) || c != 48 then allR l (acc ++ [c]) else allR l acc) else allR l acc
def behR : List UInt8 → Bool → Nat → Nat
  | [], _, b => b
  | c :: l, p, b => if c == 46 then behR l true b else if isD c then behR l p (if p then b + 1 else b) else behR l p b
def tb44 : List TbE := [⟨32, fun vs _ => sWhole vs, .of (.one .bool)⟩, ⟨33, fun vs _ => sIsD vs, .of (.one .bool)⟩, ⟨34, fun vs _ => sParseN vs, .tup [ag4, .one (.int .i64)]⟩]
def d6 (neg : Bool) : AObj := .row 26 6 [.bool neg, .int .u64 0, .int .u64 0, .int .u64 0, .int .u64 0, .int .i64 0]
def n44 (s : List UInt8) (neg : Bool) (beh : Int) (pt : Bool) (i : Int) : St := (envOf 75 [(0, .str s), (2, .ptr (some (0, 0))), (4, .ptr (some (1, 0))), (5, .sl none 0 (.fix 0)), (6, .int .i64 beh), (7, .bool pt), (8, .int .i64 i)], [d6 false, d6 neg])
def h44 (s : List UInt8) (neg : Bool) (acc : List UInt8) (beh : Int) (pt : Bool) (i : Int) : St := (envOf 75 [(0, .str s), (2, .ptr (some (0, 0))), (4, .ptr (some (1, 0))), (5, .sl (some (2, 0)) acc.length (.rel 0)), (6, .int .i64 beh), (7, .bool pt), (8, .int .i64 i)], [d6 false, d6 neg, .row 5 1 (bv acc)])
def t44 : Tidy := ⟨dropT 75 [0, 2, 4, 5, 6, 7, 8], .auto⟩
def x44 : Tidy := ⟨dropT 75 [2, 4, 5, 6], .auto⟩
def xn44 (neg : Bool) (beh : Int) : St := (envOf 75 [(2, .ptr (some (0, 0))), (4, .ptr (some (1, 0))), (5, .sl none 0 (.fix 0)), (6, .int .i64 beh)], [d6 false, d6 neg])
def xh44 (neg : Bool) (acc : List UInt8) (beh : Int) : St := (envOf 75 [(2, .ptr (some (0, 0))), (4, .ptr (some (1, 0))), (5, .sl (some (2, 0)) acc.length (.rel 0)), (6, .int .i64 beh)], [d6 false, d6 neg, .row 5 1 (bv acc)])
def C44l : Cfg := tbC Q tb44 (fun _ => false) kdI
def C44m : Cfg := tbC Q tb44 (fun k => k == 2 || k == 4) kdI
def C44 (s : List UInt8) : Cfg := { tbC Q tb44 (fun k => k == 2) kdI with
  lw := fun id => if id = 8 then some fun st K => ∃ neg : Bool, st = n44 s neg 0 false 0 ∧ askB (allR s []).isEmpty (K (.exit 0) (xn44 neg (behR s false 0))) (K (.exit 0) (xh44 neg (allR s []) (behR s false 0))) else none
  F := fun id => if id = 8 then t44 else ⟨[], .all⟩ }

theorem v44n (s : List UInt8) (neg : Bool) (beh : Nat) (pt : Bool) (i : Nat) (K : AExit → St → Prop) : (askB (decide ((↑i : Int) < (↑(List.length s) : Int))) (chkW (decide (i < List.length s)) (askB ((↑(UInt8.toNat (List.getD s i 0)) : Int) == 46) (K AExit.normal (envOf 75 [(0, AV.str s), (2, AV.ptr (some (0, 0))), (4, AV.ptr (some (1, 0))), (5, AV.sl none 0 (ACap.fix 0)), (6, AV.int .i64 (↑beh : Int)), (7, AV.bool true), (8, AV.int .i64 (IntKind.wrap .i64 ((↑i : Int) + 1)))], [AObj.row 26 6 [AV.bool false, AV.int .u64 0, AV.int .u64 0, AV.int .u64 0, AV.int .u64 0, AV.int .i64 0], AObj.row 26 6 [AV.bool neg, AV.int .u64 0, AV.int .u64 0, AV.int .u64 0, AV.int .u64 0, AV.int .i64 0]])) (chkW (decide (i < List.length s)) (∃ (b : Bool), TbE.s { f := 33, s := fun (vs : List AV) (x : AHeap) => sIsD vs, r := Rs.of (Rs1.one K1.bool) } [AV.int .u8 (↑(UInt8.toNat (List.getD s i 0)) : Int)] [AObj.row 26 6 [AV.bool false, AV.int .u64 0, AV.int .u64 0, AV.int .u64 0, AV.int .u64 0, AV.int .i64 0], AObj.row 26 6 [AV.bool neg, AV.int .u64 0, AV.int .u64 0, AV.int .u64 0, AV.int .u64 0, AV.int .i64 0]] = some (AV.bool b) ∧ askB b (askB pt (chkW (decide (i < List.length s)) (askB ((↑(UInt8.toNat (List.getD s i 0)) : Int) != 48) (chkW (decide (i < List.length s)) (K AExit.normal (envOf 75 [(0, AV.str s), (2, AV.ptr (some (0, 0))), (4, AV.ptr (some (1, 0))), (5, AV.sl (some (2, 0)) 1 (ACap.rel 0)), (6, AV.int .i64 (IntKind.wrap .i64 ((↑beh : Int) + 1))), (7, AV.bool pt), (8, AV.int .i64 (IntKind.wrap .i64 ((↑i : Int) + 1)))], [AObj.row 26 6 [AV.bool false, AV.int .u64 0, AV.int .u64 0, AV.int .u64 0, AV.int .u64 0, AV.int .i64 0], AObj.row 26 6 [AV.bool neg, AV.int .u64 0, AV.int .u64 0, AV.int .u64 0, AV.int .u64 0, AV.int .i64 0], AObj.row 5 1 [AV.int .u8 (↑(UInt8.toNat (List.getD s i 0)) : Int)]]))) (K AExit.normal (envOf 75 [(0, AV.str s), (2, AV.ptr (some (0, 0))), (4, AV.ptr (some (1, 0))), (5, AV.sl none 0 (ACap.fix 0)), (6, AV.int .i64 (IntKind.wrap .i64 ((↑beh : Int) + 1))), (7, AV.bool pt), (8, AV.int .i64 (IntKind.wrap .i64 ((↑i : Int) + 1)))], [AObj.row 26 6 [AV.bool false, AV.int .u64 0, AV.int .u64 0, AV.int .u64 0, AV.int .u64 0, AV.int .i64 0], AObj.row 26 6 [AV.bool neg, AV.int .u64 0, AV.int .u64 0, AV.int .u64 0, AV.int .u64 0, AV.int .i64 0]])))) (chkW (decide (i < List.length s)) (askB ((↑(UInt8.toNat (List.getD s i 0)) : Int) != 48) (chkW (decide (i < List.length s)) (K AExit.normal (envOf 75 [(0, AV.str s), (2, AV.ptr (some (0, 0))), (4, AV.ptr (some (1, 0))), (5, AV.sl (some (2, 0)) 1 (ACap.rel 0)), (6, AV.int .i64 (↑beh : Int)), (7, AV.bool pt), (8, AV.int .i64 (IntKind.wrap .i64 ((↑i : Int) + 1)))], [AObj.row 26 6 [AV.bool false, AV.int .u64 0, AV.int .u64 0, AV.int .u64 0, AV.int .u64 0, AV.int .i64 0], AObj.row 26 6 [AV.bool neg, AV.int .u64 0, AV.int .u64 0, AV.int .u64 0, AV.int .u64 0, AV.int .i64 0], AObj.row 5 1 [AV.int .u8 (↑(UInt8.toNat (List.getD s i 0)) : Int)]]))) (K AExit.normal (envOf 75 [(0, AV.str s), (2, AV.ptr (some (0, 0))), (4, AV.ptr (some (1, 0))), (5, AV.sl none 0 (ACap.fix 0)), (6, AV.int .i64 (↑beh : Int)), (7, AV.bool pt), (8, AV.int .i64 (IntKind.wrap .i64 ((↑i : Int) + 1)))], [AObj.row 26 6 [AV.bool false, AV.int .u64 0, AV.int .u64 0, AV.int .u64 0, AV.int .u64 0, AV.int .i64 0], AObj.row 26 6 [AV.bool neg, AV.int .u64 0, AV.int .u64 0, AV.int .u64 0, AV.int .u64 0, AV.int .i64 0]]))))) (K AExit.normal (envOf 75 [(0, AV.str s), (2, AV.ptr (some (0, 0))), (4, AV.ptr (some (1, 0))), (5, AV.sl none 0 (ACap.fix 0)), (6, AV.int .i64 (↑beh : Int)), (7, AV.bool pt), (8, AV.int .i64 (IntKind.wrap .i64 ((↑i : Int) + 1)))], [AObj.row 26 6 [AV.bool false, AV.int .u64 0, AV.int .u64 0, AV.int .u64 0, AV.int .u64 0, AV.int .i64 0], AObj.row 26 6 [AV.bool neg, AV.int .u64 0, AV.int .u64 0, AV.int .u64 0, AV.int .u64 0, AV.int .i64 0]])))))) (K (AExit.exit 0) (envOf 75 [(2, AV.ptr (some (0, 0))), (4, AV.ptr (some (1, 0))), (5, AV.sl none 0 (ACap.fix 0)), (6, AV.int .i64 (↑beh : Int))], [AObj.row 26 6 [AV.bool false, AV.int .u64 0, AV.int .u64 0, AV.int .u64 0, AV.int .u64 0, AV.int .i64 0], AObj.row 26 6 [AV.bool neg, AV.int .u64 0, AV.int .u64 0, AV.int .u64 0, AV.int .u64 0, AV.int .i64 0]]))) = (wpP Tryd.prog C44l 60 (.inl p44_l0) (n44 s neg beh pt i) (postX C44l t44 x44 x44 K)) := by kernel_rfl
theorem v44b (s : List UInt8) (neg : Bool) (acc : List UInt8) (beh : Nat) (pt : Bool) (i : Nat) (K : AExit → St → Prop) : (askB (decide ((↑i : Int) < (↑(List.length s) : Int))) (chkW (decide (i < List.length s)) (askB ((↑(UInt8.toNat (List.getD s i 0)) : Int) == 46) (chkW (objClosed (AObj.row 5 1 (bv acc))) (K AExit.normal (envOf 75 [(0, AV.str s), (2, AV.ptr (some (0, 0))), (4, AV.ptr (some (1, 0))), (5, AV.sl (some (2, 0)) (List.length acc) (ACap.rel 0)), (6, AV.int .i64 (↑beh : Int)), (7, AV.bool true), (8, AV.int .i64 (IntKind.wrap .i64 ((↑i : Int) + 1)))], [AObj.row 26 6 [AV.bool false, AV.int .u64 0, AV.int .u64 0, AV.int .u64 0, AV.int .u64 0, AV.int .i64 0], AObj.row 26 6 [AV.bool neg, AV.int .u64 0, AV.int .u64 0, AV.int .u64 0, AV.int .u64 0, AV.int .i64 0], AObj.row 5 1 (bv acc)]))) (chkW (decide (i < List.length s)) (∃ (b : Bool), TbE.s { f := 33, s := fun (vs : List AV) (x : AHeap) => sIsD vs, r := Rs.of (Rs1.one K1.bool) } [AV.int .u8 (↑(UInt8.toNat (List.getD s i 0)) : Int)] [AObj.row 26 6 [AV.bool false, AV.int .u64 0, AV.int .u64 0, AV.int .u64 0, AV.int .u64 0, AV.int .i64 0], AObj.row 26 6 [AV.bool neg, AV.int .u64 0, AV.int .u64 0, AV.int .u64 0, AV.int .u64 0, AV.int .i64 0], AObj.row 5 1 (bv acc)] = some (AV.bool b) ∧ askB b (askB pt (askB (decide ((↑(List.length acc) : Int) > 0)) (chkW (decide (i < List.length s)) (∃ (t : TypeId), ∃ (s_1 : Nat), ∃ (cs : List AV), some (AObj.row 5 1 (bv acc)) = some (AObj.row t s_1 cs) ∧ chkW (decide (t = 5)) (chkW (decide (s_1 = 1)) (chkW (decide (List.length cs = List.length acc * 1)) (chkW (decide ((List.length acc + 1) * 1 ≤ 140737488355328)) (chkW (decide (List.length acc + 1 ≤ 9223372036854775807)) (chkW (objClosed (AObj.row 5 1 (cs ++ List.take (1 * 1) (List.drop 0 [AV.int .u8 (↑(UInt8.toNat (List.getD s i 0)) : Int)])))) (K AExit.normal (envOf 75 [(0, AV.str s), (2, AV.ptr (some (0, 0))), (4, AV.ptr (some (1, 0))), (5, AV.sl (some (2, 0)) (List.length acc + 1) (ACap.rel 0)), (6, AV.int .i64 (IntKind.wrap .i64 ((↑beh : Int) + 1))), (7, AV.bool pt), (8, AV.int .i64 (IntKind.wrap .i64 ((↑i : Int) + 1)))], [AObj.row 26 6 [AV.bool false, AV.int .u64 0, AV.int .u64 0, AV.int .u64 0, AV.int .u64 0, AV.int .i64 0], AObj.row 26 6 [AV.bool neg, AV.int .u64 0, AV.int .u64 0, AV.int .u64 0, AV.int .u64 0, AV.int .i64 0], AObj.row 5 1 (cs ++ List.take (1 * 1) (List.drop 0 [AV.int .u8 (↑(UInt8.toNat (List.getD s i 0)) : Int)]))]))))))))) (chkW (decide (i < List.length s)) (askB ((↑(UInt8.toNat (List.getD s i 0)) : Int) != 48) (chkW (decide (i < List.length s)) (∃ (t : TypeId), ∃ (s_1 : Nat), ∃ (cs : List AV), some (AObj.row 5 1 (bv acc)) = some (AObj.row t s_1 cs) ∧ chkW (decide (t = 5)) (chkW (decide (s_1 = 1)) (chkW (decide (List.length cs = List.length acc * 1)) (chkW (decide ((List.length acc + 1) * 1 ≤ 140737488355328)) (chkW (decide (List.length acc + 1 ≤ 9223372036854775807)) (chkW (objClosed (AObj.row 5 1 (cs ++ List.take (1 * 1) (List.drop 0 [AV.int .u8 (↑(UInt8.toNat (List.getD s i 0)) : Int)])))) (K AExit.normal (envOf 75 [(0, AV.str s), (2, AV.ptr (some (0, 0))), (4, AV.ptr (some (1, 0))), (5, AV.sl (some (2, 0)) (List.length acc + 1) (ACap.rel 0)), (6, AV.int .i64 (IntKind.wrap .i64 ((↑beh : Int) + 1))), (7, AV.bool pt), (8, AV.int .i64 (IntKind.wrap .i64 ((↑i : Int) + 1)))], [AObj.row 26 6 [AV.bool false, AV.int .u64 0, AV.int .u64 0, AV.int .u64 0, AV.int .u64 0, AV.int .i64 0], AObj.row 26 6 [AV.bool neg, AV.int .u64 0, AV.int .u64 0, AV.int .u64 0, AV.int .u64 0, AV.int .i64 0], AObj.row 5 1 (cs ++ List.take (1 * 1) (List.drop 0 [AV.int .u8 (↑(UInt8.toNat (List.getD s i 0)) : Int)]))]))))))))) (chkW (objClosed (AObj.row 5 1 (bv acc))) (K AExit.normal (envOf 75 [(0, AV.str s), (2, AV.ptr (some (0, 0))), (4, AV.ptr (some (1, 0))), (5, AV.sl (some (2, 0)) (List.length acc) (ACap.rel 0)), (6, AV.int .i64 (IntKind.wrap .i64 ((↑beh : Int) + 1))), (7, AV.bool pt), (8, AV.int .i64 (IntKind.wrap .i64 ((↑i : Int) + 1)))], [AObj.row 26 6 [AV.bool false, AV.int .u64 0, AV.int .u64 0, AV.int .u64 0, AV.int .u64 0, AV.int .i64 0], AObj.row 26 6 [AV.bool neg, AV.int .u64 0, AV.int .u64 0, AV.int .u64 0, AV.int .u64 0, AV.int .i64 0], AObj.row 5 1 (bv acc)])))))) (askB (decide ((↑(List.length acc) : Int) > 0)) (chkW (decide (i < List.length s)) (∃ (t : TypeId), ∃ (s_1 : Nat), ∃ (cs : List AV), some (AObj.row 5 1 (bv acc)) = some (AObj.row t s_1 cs) ∧ chkW (decide (t = 5)) (chkW (decide (s_1 = 1)) (chkW (decide (List.length cs = List.length acc * 1)) (chkW (decide ((List.length acc + 1) * 1 ≤ 140737488355328)) (chkW (decide (List.length acc + 1 ≤ 9223372036854775807)) (chkW (objClosed (AObj.row 5 1 (cs ++ List.take (1 * 1) (List.drop 0 [AV.int .u8 (↑(UInt8.toNat (List.getD s i 0)) : Int)])))) (K AExit.normal (envOf 75 [(0, AV.str s), (2, AV.ptr (some (0, 0))), (4, AV.ptr (some (1, 0))), (5, AV.sl (some (2, 0)) (List.length acc + 1) (ACap.rel 0)), (6, AV.int .i64 (↑beh : Int)), (7, AV.bool pt), (8, AV.int .i64 (IntKind.wrap .i64 ((↑i : Int) + 1)))], [AObj.row 26 6 [AV.bool false, AV.int .u64 0, AV.int .u64 0, AV.int .u64 0, AV.int .u64 0, AV.int .i64 0], AObj.row 26 6 [AV.bool neg, AV.int .u64 0, AV.int .u64 0, AV.int .u64 0, AV.int .u64 0, AV.int .i64 0], AObj.row 5 1 (cs ++ List.take (1 * 1) (List.drop 0 [AV.int .u8 (↑(UInt8.toNat (List.getD s i 0)) : Int)]))]))))))))) (chkW (decide (i < List.length s)) (askB ((↑(UInt8.toNat (List.getD s i 0)) : Int) != 48) (chkW (decide (i < List.length s)) (∃ (t : TypeId), ∃ (s_1 : Nat), ∃ (cs : List AV), some (AObj.row 5 1 (bv acc)) = some (AObj.row t s_1 cs) ∧ chkW (decide (t = 5)) (chkW (decide (s_1 = 1)) (chkW (decide (List.length cs = List.length acc * 1)) (chkW (decide ((List.length acc + 1) * 1 ≤ 140737488355328)) (chkW (decide (List.length acc + 1 ≤ 9223372036854775807)) (chkW (objClosed (AObj.row 5 1 (cs ++ List.take (1 * 1) (List.drop 0 [AV.int .u8 (↑(UInt8.toNat (List.getD s i 0)) : Int)])))) (K AExit.normal (envOf 75 [(0, AV.str s), (2, AV.ptr (some (0, 0))), (4, AV.ptr (some (1, 0))), (5, AV.sl (some (2, 0)) (List.length acc + 1) (ACap.rel 0)), (6, AV.int .i64 (↑beh : Int)), (7, AV.bool pt), (8, AV.int .i64 (IntKind.wrap .i64 ((↑i : Int) + 1)))], [AObj.row 26 6 [AV.bool false, AV.int .u64 0, AV.int .u64 0, AV.int .u64 0, AV.int .u64 0, AV.int .i64 0], AObj.row 26 6 [AV.bool neg, AV.int .u64 0, AV.int .u64 0, AV.int .u64 0, AV.int .u64 0, AV.int .i64 0], AObj.row 5 1 (cs ++ List.take (1 * 1) (List.drop 0 [AV.int .u8 (↑(UInt8.toNat (List.getD s i 0)) : Int)]))]))))))))) (chkW (objClosed (AObj.row 5 1 (bv acc))) (K AExit.normal (envOf 75 [(0, AV.str s), (2, AV.ptr (some (0, 0))), (4, AV.ptr (some (1, 0))), (5, AV.sl (some (2, 0)) (List.length acc) (ACap.rel 0)), (6, AV.int .i64 (↑beh : Int)), (7, AV.bool pt), (8, AV.int .i64 (IntKind.wrap .i64 ((↑i : Int) + 1)))], [AObj.row 26 6 [AV.bool false, AV.int .u64 0, AV.int .u64 0, AV.int .u64 0, AV.int .u64 0, AV.int .i64 0], AObj.row 26 6 [AV.bool neg, AV.int .u64 0, AV.int .u64 0, AV.int .u64 0, AV.int .u64 0, AV.int .i64 0], AObj.row 5 1 (bv acc)]))))))) (chkW (objClosed (AObj.row 5 1 (bv acc))) (K AExit.normal (envOf 75 [(0, AV.str s), (2, AV.ptr (some (0, 0))), (4, AV.ptr (some (1, 0))), (5, AV.sl (some (2, 0)) (List.length acc) (ACap.rel 0)), (6, AV.int .i64 (↑beh : Int)), (7, AV.bool pt), (8, AV.int .i64 (IntKind.wrap .i64 ((↑i : Int) + 1)))], [AObj.row 26 6 [AV.bool false, AV.int .u64 0, AV.int .u64 0, AV.int .u64 0, AV.int .u64 0, AV.int .i64 0], AObj.row 26 6 [AV.bool neg, AV.int .u64 0, AV.int .u64 0, AV.int .u64 0, AV.int .u64 0, AV.int .i64 0], AObj.row 5 1 (bv acc)]))))))) (chkW (objClosed (AObj.row 5 1 (bv acc))) (K (AExit.exit 0) (envOf 75 [(2, AV.ptr (some (0, 0))), (4, AV.ptr (some (1, 0))), (5, AV.sl (some (2, 0)) (List.length acc) (ACap.rel 0)), (6, AV.int .i64 (↑beh : Int))], [AObj.row 26 6 [AV.bool false, AV.int .u64 0, AV.int .u64 0, AV.int .u64 0, AV.int .u64 0, AV.int .i64 0], AObj.row 26 6 [AV.bool neg, AV.int .u64 0, AV.int .u64 0, AV.int .u64 0, AV.int .u64 0, AV.int .i64 0], AObj.row 5 1 (bv acc)])))) = (wpP Tryd.prog C44m 60 (.inl p44_l0) (h44 s neg acc beh pt i) (postX C44m t44 x44 x44 K)) := by kernel_rfl
theorem v44 (s : List UInt8) (R : AV → AHeap → Prop) : (∃ (b : Bool), TbE.s { f := 32, s := fun (vs : List AV) (x : AHeap) => sWhole vs, r := Rs.of (Rs1.one K1.bool) } [AV.str s] [AObj.row 26 6 [AV.bool false, AV.int .u64 0, AV.int .u64 0, AV.int .u64 0, AV.int .u64 0, AV.int .i64 0]] = some (AV.bool b) ∧ askB b (chkW (decide (0 < List.length s)) (askB ((↑(UInt8.toNat (List.getD s 0 0)) : Int) == 45) (∃ (neg : Bool), (envOf 75 [(0, AV.str s), (2, AV.ptr (some (0, 0))), (4, AV.ptr (some (1, 0))), (5, AV.sl none 0 (ACap.fix 0)), (6, AV.int .i64 0), (7, AV.bool false), (8, AV.int .i64 0)], [AObj.row 26 6 [AV.bool false, AV.int .u64 0, AV.int .u64 0, AV.int .u64 0, AV.int .u64 0, AV.int .i64 0], AObj.row 26 6 [AV.bool true, AV.int .u64 0, AV.int .u64 0, AV.int .u64 0, AV.int .u64 0, AV.int .i64 0]]) = (envOf 75 [(0, AV.str s), (2, AV.ptr (some (0, 0))), (4, AV.ptr (some (1, 0))), (5, AV.sl none 0 (ACap.fix 0)), (6, AV.int .i64 0), (7, AV.bool false), (8, AV.int .i64 0)], [AObj.row 26 6 [AV.bool false, AV.int .u64 0, AV.int .u64 0, AV.int .u64 0, AV.int .u64 0, AV.int .i64 0], AObj.row 26 6 [AV.bool neg, AV.int .u64 0, AV.int .u64 0, AV.int .u64 0, AV.int .u64 0, AV.int .i64 0]]) ∧ askB (List.isEmpty (allR s [])) (askB (decide ((↑(behR s false 0) : Int) > 18)) (R (AV.tup [AV.agg [AV.bool false, AV.int .u64 0, AV.int .u64 0, AV.int .u64 0, AV.int .u64 0, AV.int .i64 0], AV.int .i64 31]) [AObj.row 26 6 [AV.bool false, AV.int .u64 0, AV.int .u64 0, AV.int .u64 0, AV.int .u64 0, AV.int .i64 0], AObj.row 26 6 [AV.bool neg, AV.int .u64 0, AV.int .u64 0, AV.int .u64 0, AV.int .u64 0, AV.int .i64 0]]) (R (AV.tup [AV.agg [AV.bool neg, AV.int .u64 0, AV.int .u64 0, AV.int .u64 0, AV.int .u64 0, AV.int .i64 (↑(behR s false 0) : Int)], AV.int .i64 0]) [AObj.row 26 6 [AV.bool neg, AV.int .u64 0, AV.int .u64 0, AV.int .u64 0, AV.int .u64 0, AV.int .i64 (↑(behR s false 0) : Int)], AObj.row 26 6 [AV.bool neg, AV.int .u64 0, AV.int .u64 0, AV.int .u64 0, AV.int .u64 0, AV.int .i64 (↑(behR s false 0) : Int)]])) (askB (decide ((↑(behR s false 0) : Int) > 18)) (R (AV.tup [AV.agg [AV.bool false, AV.int .u64 0, AV.int .u64 0, AV.int .u64 0, AV.int .u64 0, AV.int .i64 0], AV.int .i64 31]) [AObj.row 26 6 [AV.bool false, AV.int .u64 0, AV.int .u64 0, AV.int .u64 0, AV.int .u64 0, AV.int .i64 0], AObj.row 26 6 [AV.bool neg, AV.int .u64 0, AV.int .u64 0, AV.int .u64 0, AV.int .u64 0, AV.int .i64 0], AObj.row 5 1 (bv (allR s []))]) (askB ((↑(List.length (allR s [])) : Int) == 0) (R (AV.tup [AV.agg [AV.bool neg, AV.int .u64 0, AV.int .u64 0, AV.int .u64 0, AV.int .u64 0, AV.int .i64 (↑(behR s false 0) : Int)], AV.int .i64 0]) [AObj.row 26 6 [AV.bool neg, AV.int .u64 0, AV.int .u64 0, AV.int .u64 0, AV.int .u64 0, AV.int .i64 (↑(behR s false 0) : Int)], AObj.row 26 6 [AV.bool neg, AV.int .u64 0, AV.int .u64 0, AV.int .u64 0, AV.int .u64 0, AV.int .i64 (↑(behR s false 0) : Int)], AObj.row 5 1 (bv (allR s []))]) (∃ (l : List UInt8), strOf [AObj.row 26 6 [AV.bool false, AV.int .u64 0, AV.int .u64 0, AV.int .u64 0, AV.int .u64 0, AV.int .i64 0], AObj.row 26 6 [AV.bool neg, AV.int .u64 0, AV.int .u64 0, AV.int .u64 0, AV.int .u64 0, AV.int .i64 (↑(behR s false 0) : Int)], AObj.row 5 1 (bv (allR s [])), AObj.hole] 2 0 (List.length (allR s [])) = some l ∧ ∃ (n : Int), ∃ (n_1 : Int), ∃ (n_2 : Int), ∃ (n_3 : Int), ∃ (n_4 : Int), TbE.s { f := 34, s := fun (vs : List AV) (x : AHeap) => sParseN vs, r := Rs.tup [ag4, Rs1.one (K1.int .i64)] } [AV.str l] [AObj.row 26 6 [AV.bool false, AV.int .u64 0, AV.int .u64 0, AV.int .u64 0, AV.int .u64 0, AV.int .i64 0], AObj.row 26 6 [AV.bool neg, AV.int .u64 0, AV.int .u64 0, AV.int .u64 0, AV.int .u64 0, AV.int .i64 (↑(behR s false 0) : Int)], AObj.row 5 1 (bv (allR s [])), AObj.hole] = some (AV.tup [AV.agg [AV.int .u64 n, AV.int .u64 n_1, AV.int .u64 n_2, AV.int .u64 n_3], AV.int .i64 n_4]) ∧ askB (n_4 != 0) (R (AV.tup [AV.agg [AV.bool false, AV.int .u64 0, AV.int .u64 0, AV.int .u64 0, AV.int .u64 0, AV.int .i64 0], AV.int .i64 n_4]) [AObj.row 26 6 [AV.bool false, AV.int .u64 0, AV.int .u64 0, AV.int .u64 0, AV.int .u64 0, AV.int .i64 0], AObj.row 26 6 [AV.bool neg, AV.int .u64 0, AV.int .u64 0, AV.int .u64 0, AV.int .u64 0, AV.int .i64 (↑(behR s false 0) : Int)], AObj.row 5 1 (bv (allR s [])), AObj.row 24 4 [AV.int .u64 n, AV.int .u64 n_1, AV.int .u64 n_2, AV.int .u64 n_3]]) (R (AV.tup [AV.agg [AV.bool neg, AV.int .u64 n, AV.int .u64 n_1, AV.int .u64 n_2, AV.int .u64 n_3, AV.int .i64 (↑(behR s false 0) : Int)], AV.int .i64 0]) [AObj.row 26 6 [AV.bool neg, AV.int .u64 n, AV.int .u64 n_1, AV.int .u64 n_2, AV.int .u64 n_3, AV.int .i64 (↑(behR s false 0) : Int)], AObj.row 26 6 [AV.bool neg, AV.int .u64 n, AV.int .u64 n_1, AV.int .u64 n_2, AV.int .u64 n_3, AV.int .i64 (↑(behR s false 0) : Int)], AObj.row 5 1 (bv (allR s [])), AObj.row 24 4 [AV.int .u64 n, AV.int .u64 n_1, AV.int .u64 n_2, AV.int .u64 n_3]]))))) (∃ (neg : Bool), (envOf 75 [(0, AV.str s), (2, AV.ptr (some (0, 0))), (4, AV.ptr (some (1, 0))), (5, AV.sl none 0 (ACap.fix 0)), (6, AV.int .i64 0), (7, AV.bool false), (8, AV.int .i64 0)], [AObj.row 26 6 [AV.bool false, AV.int .u64 0, AV.int .u64 0, AV.int .u64 0, AV.int .u64 0, AV.int .i64 0], AObj.row 26 6 [AV.bool false, AV.int .u64 0, AV.int .u64 0, AV.int .u64 0, AV.int .u64 0, AV.int .i64 0]]) = (envOf 75 [(0, AV.str s), (2, AV.ptr (some (0, 0))), (4, AV.ptr (some (1, 0))), (5, AV.sl none 0 (ACap.fix 0)), (6, AV.int .i64 0), (7, AV.bool false), (8, AV.int .i64 0)], [AObj.row 26 6 [AV.bool false, AV.int .u64 0, AV.int .u64 0, AV.int .u64 0, AV.int .u64 0, AV.int .i64 0], AObj.row 26 6 [AV.bool neg, AV.int .u64 0, AV.int .u64 0, AV.int .u64 0, AV.int .u64 0, AV.int .i64 0]]) ∧ askB (List.isEmpty (allR s [])) (askB (decide ((↑(behR s false 0) : Int) > 18)) (R (AV.tup [AV.agg [AV.bool false, AV.int .u64 0, AV.int .u64 0, AV.int .u64 0, AV.int .u64 0, AV.int .i64 0], AV.int .i64 31]) [AObj.row 26 6 [AV.bool false, AV.int .u64 0, AV.int .u64 0, AV.int .u64 0, AV.int .u64 0, AV.int .i64 0], AObj.row 26 6 [AV.bool neg, AV.int .u64 0, AV.int .u64 0, AV.int .u64 0, AV.int .u64 0, AV.int .i64 0]]) (R (AV.tup [AV.agg [AV.bool neg, AV.int .u64 0, AV.int .u64 0, AV.int .u64 0, AV.int .u64 0, AV.int .i64 (↑(behR s false 0) : Int)], AV.int .i64 0]) [AObj.row 26 6 [AV.bool neg, AV.int .u64 0, AV.int .u64 0, AV.int .u64 0, AV.int .u64 0, AV.int .i64 (↑(behR s false 0) : Int)], AObj.row 26 6 [AV.bool neg, AV.int .u64 0, AV.int .u64 0, AV.int .u64 0, AV.int .u64 0, AV.int .i64 (↑(behR s false 0) : Int)]])) (askB (decide ((↑(behR s false 0) : Int) > 18)) (R (AV.tup [AV.agg [AV.bool false, AV.int .u64 0, AV.int .u64 0, AV.int .u64 0, AV.int .u64 0, AV.int .i64 0], AV.int .i64 31]) [AObj.row 26 6 [AV.bool false, AV.int .u64 0, AV.int .u64 0, AV.int .u64 0, AV.int .u64 0, AV.int .i64 0], AObj.row 26 6 [AV.bool neg, AV.int .u64 0, AV.int .u64 0, AV.int .u64 0, AV.int .u64 0, AV.int .i64 0], AObj.row 5 1 (bv (allR s []))]) (askB ((↑(List.length (allR s [])) : Int) == 0) (R (AV.tup [AV.agg [AV.bool neg, AV.int .u64 0, AV.int .u64 0, AV.int .u64 0, AV.int .u64 0, AV.int .i64 (↑(behR s false 0) : Int)], AV.int .i64 0]) [AObj.row 26 6 [AV.bool neg, AV.int .u64 0, AV.int .u64 0, AV.int .u64 0, AV.int .u64 0, AV.int .i64 (↑(behR s false 0) : Int)], AObj.row 26 6 [AV.bool neg, AV.int .u64 0, AV.int .u64 0, AV.int .u64 0, AV.int .u64 0, AV.int .i64 (↑(behR s false 0) : Int)], AObj.row 5 1 (bv (allR s []))]) (∃ (l : List UInt8), strOf [AObj.row 26 6 [AV.bool false, AV.int .u64 0, AV.int .u64 0, AV.int .u64 0, AV.int .u64 0, AV.int .i64 0], AObj.row 26 6 [AV.bool neg, AV.int .u64 0, AV.int .u64 0, AV.int .u64 0, AV.int .u64 0, AV.int .i64 (↑(behR s false 0) : Int)], AObj.row 5 1 (bv (allR s [])), AObj.hole] 2 0 (List.length (allR s [])) = some l ∧ ∃ (n : Int), ∃ (n_1 : Int), ∃ (n_2 : Int), ∃ (n_3 : Int), ∃ (n_4 : Int), TbE.s { f := 34, s := fun (vs : List AV) (x : AHeap) => sParseN vs, r := Rs.tup [ag4, Rs1.one (K1.int .i64)] } [AV.str l] [AObj.row 26 6 [AV.bool false, AV.int .u64 0, AV.int .u64 0, AV.int .u64 0, AV.int .u64 0, AV.int .i64 0], AObj.row 26 6 [AV.bool neg, AV.int .u64 0, AV.int .u64 0, AV.int .u64 0, AV.int .u64 0, AV.int .i64 (↑(behR s false 0) : Int)], AObj.row 5 1 (bv (allR s [])), AObj.hole] = some (AV.tup [AV.agg [AV.int .u64 n, AV.int .u64 n_1, AV.int .u64 n_2, AV.int .u64 n_3], AV.int .i64 n_4]) ∧ askB (n_4 != 0) (R (AV.tup [AV.agg [AV.bool false, AV.int .u64 0, AV.int .u64 0, AV.int .u64 0, AV.int .u64 0, AV.int .i64 0], AV.int .i64 n_4]) [AObj.row 26 6 [AV.bool false, AV.int .u64 0, AV.int .u64 0, AV.int .u64 0, AV.int .u64 0, AV.int .i64 0], AObj.row 26 6 [AV.bool neg, AV.int .u64 0, AV.int .u64 0, AV.int .u64 0, AV.int .u64 0, AV.int .i64 (↑(behR s false 0) : Int)], AObj.row 5 1 (bv (allR s [])), AObj.row 24 4 [AV.int .u64 n, AV.int .u64 n_1, AV.int .u64 n_2, AV.int .u64 n_3]]) (R (AV.tup [AV.agg [AV.bool neg, AV.int .u64 n, AV.int .u64 n_1, AV.int .u64 n_2, AV.int .u64 n_3, AV.int .i64 (↑(behR s false 0) : Int)], AV.int .i64 0]) [AObj.row 26 6 [AV.bool neg, AV.int .u64 n, AV.int .u64 n_1, AV.int .u64 n_2, AV.int .u64 n_3, AV.int .i64 (↑(behR s false 0) : Int)], AObj.row 26 6 [AV.bool neg, AV.int .u64 n, AV.int .u64 n_1, AV.int .u64 n_2, AV.int .u64 n_3, AV.int .i64 (↑(behR s false 0) : Int)], AObj.row 5 1 (bv (allR s [])), AObj.row 24 4 [AV.int .u64 n, AV.int .u64 n_1, AV.int .u64 n_2, AV.int .u64 n_3]]))))))) (R (AV.tup [AV.agg [AV.bool false, AV.int .u64 0, AV.int .u64 0, AV.int .u64 0, AV.int .u64 0, AV.int .i64 0], AV.int .i64 30]) [AObj.row 26 6 [AV.bool false, AV.int .u64 0, AV.int .u64 0, AV.int .u64 0, AV.int .u64 0, AV.int .i64 0]])) = (wpF Tryd.prog (C44 s) 80 p44 [.str s] [] R) := by kernel_rfl

theorem eq46' (c : UInt8) : (((c.toNat : Nat) : Int) == 46) = (c == 46) := eqU8 c 46
theorem al_dot {s : List UInt8} {i : Nat} (h : i < s.length) (hc : (s.getD i 0 == 46) = true) (acc : List UInt8) (p : Bool) (b : Nat) : allR (s.drop i) acc = allR (s.drop (i + 1)) acc ∧ behR (s.drop i) p b = behR (s.drop (i + 1)) true b := by
  rw [drop_cons h]; exact ⟨if_pos hc, if_pos hc⟩
theorem al_no {s : List UInt8} {i : Nat} (h : i < s.length) (hc : (s.getD i 0 == 46) = false) (hd : isD (s.getD i 0) = false) (acc : List UInt8) (p : Bool) (b : Nat) : allR (s.drop i) acc = allR (s.drop (i + 1)) acc ∧ behR (s.drop i) p b = behR (s.drop (i + 1)) p b := by
  rw [drop_cons h]
  constructor
  · rw [allR, if_neg (by rw [hc]; decide), if_neg (by rw [hd]; decide)]
  · rw [behR, if_neg (by rw [hc]; decide), if_neg (by rw [hd]; decide)]
theorem al_add {s : List UInt8} {i : Nat} (h : i < s.length) (hc : (s.getD i 0 == 46) = false) (hd : isD (s.getD i 0) = true) (acc : List UInt8) (hk : (decide (0 < acc.length) || s.getD i 0 != 48) = true) : allR (s.drop i) acc = allR (s.drop (i + 1)) (acc ++ [s.getD i 0]) := by
  rw [drop_cons h, allR, if_neg (by rw [hc]; decide), if_pos hd, if_pos hk]
theorem al_skip {s : List UInt8} {i : Nat} (h : i < s.length) (hc : (s.getD i 0 == 46) = false) (hd : isD (s.getD i 0) = true) (acc : List UInt8) (hk : (decide (0 < acc.length) || s.getD i 0 != 48) = false) : allR (s.drop i) acc = allR (s.drop (i + 1)) acc := by
  rw [drop_cons h, allR, if_neg (by rw [hc]; decide), if_pos hd, if_neg (by rw [hk]; decide)]
theorem be_d {s : List UInt8} {i : Nat} (h : i < s.length) (hc : (s.getD i 0 == 46) = false) (hd : isD (s.getD i 0) = true) (p : Bool) (b : Nat) : behR (s.drop i) p b = behR (s.drop (i + 1)) p (if p then b + 1 else b) := by
  rw [drop_cons h, behR, if_neg (by rw [hc]; decide), if_pos hd]
def g44 (s : List UInt8) (neg : Bool) (p : Nat × List UInt8 × Bool × Nat) : St := if p.2.1.isEmpty then n44 s neg p.2.2.2 p.2.2.1 p.1 else h44 s neg p.2.1 p.2.2.2 p.2.2.1 p.1
theorem g44_app (s : List UInt8) (neg : Bool) (i : Nat) (acc : List UInt8) (c : UInt8) (pt : Bool) (b : Nat) : g44 s neg (i, acc ++ [c], pt, b) = (envOf 75 [(0, .str s), (2, .ptr (some (0, 0))), (4, .ptr (some (1, 0))), (5, .sl (some (2, 0)) (acc.length + 1) (.rel 0)), (6, .int .i64 b), (7, .bool pt), (8, .int .i64 i)], [d6 false, d6 neg, .row 5 1 (bv acc ++ [.int .u8 c.toNat])]) := by
  unfold g44
  have he : (acc ++ [c]).isEmpty = false := by cases acc <;> rfl
  simp only [he, Bool.false_eq_true, if_false]
  unfold h44
  rw [bv_app, List.length_append]
  rfl
def x44s (neg : Bool) (A : List UInt8) (B : Nat) : St := if A.isEmpty then xn44 neg B else xh44 neg A B
def I44 (s : List UInt8) (A : List UInt8) (B : Nat) (p : Nat × List UInt8 × Bool × Nat) : Prop := p.1 ≤ s.length ∧ allR (s.drop p.1) p.2.1 = A ∧ behR (s.drop p.1) p.2.2.1 p.2.2.2 = B ∧ p.2.1.length ≤ p.1 ∧ p.2.2.2 ≤ p.1
theorem loop44 (s : List UInt8) (hs : s.length ≤ 1099511627776) (neg : Bool) : W Tryd.prog (tbS Q tb44) 0 (.inl (.loop p44_l0)) (n44 s neg 0 false 0) (fun e st => e = .exit 0 ∧ st = x44s neg (allR s []) (behR s false 0)) := by
  have hcw : CwOK (tbS Q tb44) (tbW Q tb44) := tbW_ok rfl
  have main := W_roundsG (P := Tryd.prog) (S := tbS Q tb44) (b0 := 0) (a := p44_l0) (g44 s neg)
    (I44 s (allR s []) (behR s false 0)) (fun p => s.length - p.1) (fun _ e st => e = .exit 0 ∧ st = x44s neg (allR s []) (behR s false 0)) ?_ (0, [], false, 0) ⟨Nat.zero_le _, rfl, rfl, Nat.le_refl _, Nat.le_refl _⟩
  · exact main
  · generalize allR s [] = A
    generalize behR s false 0 = B
    rintro ⟨i, acc, pt, b⟩ ⟨h1, h2, h3, h4, h5⟩
    simp only at h1 h2 h3 h4 h5
    have w1 : IntKind.wrap .i64 ((i : Int) + 1) = ((i + 1 : Nat) : Int) := by rw [IntKind.wrap_i64]; omega
    have w2 : IntKind.wrap .i64 ((b : Int) + 1) = ((b + 1 : Nat) : Int) := by rw [IntKind.wrap_i64]; omega
    have go : ∀ (st : St) (acc' : List UInt8) (pt' : Bool) (b' : Nat), st = g44 s neg (i + 1, acc', pt', b') → i < s.length → allR (s.drop (i + 1)) acc' = A → behR (s.drop (i + 1)) pt' b' = B → acc'.length ≤ i + 1 → b' ≤ i + 1 →
        ∃ s', st = g44 s neg s' ∧ I44 s A B s' ∧ s.length - s'.1 < s.length - i ∧ ∀ e st, (e = AExit.exit 0 ∧ st = x44s neg A B) → (e = AExit.exit 0 ∧ st = x44s neg A B) :=
      fun st acc' pt' b' e0 hi e1 e2 e3 e4 => ⟨(i + 1, acc', pt', b'), e0, ⟨hi, e1, e2, e3, e4⟩, by show s.length - (i + 1) < s.length - i; omega, fun _ _ h => h⟩
    by_cases hE : acc.isEmpty = true
    · obtain rfl := List.isEmpty_iff.1 hE
      have goN : ∀ (pt' : Bool) (b' : Nat), i < s.length → allR (s.drop (i + 1)) [] = A → behR (s.drop (i + 1)) pt' b' = B → b' ≤ i + 1 → _ := fun pt' b' => fun hi e1 e2 e4 => go (n44 s neg b' pt' ((i + 1 : Nat) : Int)) [] pt' b' rfl hi e1 e2 (Nat.zero_le _) e4
      have goA : ∀ (pt' : Bool) (b' : Nat), i < s.length → allR (s.drop (i + 1)) [s.getD i 0] = A → behR (s.drop (i + 1)) pt' b' = B → b' ≤ i + 1 → _ := fun pt' b' => fun hi e1 e2 e4 => go _ [s.getD i 0] pt' b' (g44_app s neg (i + 1) [] (s.getD i 0) pt' b').symm hi e1 e2 (by simp) e4
      refine W_wpX (C := C44l) hcw (by intro x hx; cases hx) (n := 60) (tn := t44) (tx := x44) (tr := x44) ((v44n s neg b pt i _).mp ?_)
      rw [w1, w2, eq46', ne48]
      rcases Nat.lt_or_ge i s.length with hi | hi
      · refine askT (decide_eq_true (by omega)) (chkI (decide_eq_true hi) (askI (fun g1 => ?_) fun g1 => chkI (decide_eq_true hi) ⟨_, isD_at _, askI (fun g2 => ?_) fun g2 => ?_⟩))
        · obtain ⟨a1, a2⟩ := al_dot hi g1 [] pt b
          exact goN true b hi (by rw [← a1]; exact h2) (by rw [← a2]; exact h3) (by omega)
        · have a2 := be_d hi g1 g2 pt b
          have key : ∀ b' : Nat, (if pt then b + 1 else b) = b' → chkW (decide (i < s.length)) (askB (s.getD i 0 != 48) (chkW (decide (i < s.length)) (∃ s', ((envOf 75 [(0, .str s), (2, .ptr (some (0, 0))), (4, .ptr (some (1, 0))), (5, .sl (some (2, 0)) 1 (.rel 0)), (6, .int .i64 (b' : Int)), (7, .bool pt), (8, .int .i64 ((i + 1 : Nat) : Int))], [d6 false, d6 neg, .row 5 1 [.int .u8 ((s.getD i 0).toNat : Int)]]) : St) = g44 s neg s' ∧ I44 s A B s' ∧ s.length - s'.1 < s.length - i ∧ ∀ e st, (e = AExit.exit 0 ∧ st = x44s neg A B) → (e = AExit.exit 0 ∧ st = x44s neg A B))) (∃ s', n44 s neg (b' : Int) pt ((i + 1 : Nat) : Int) = g44 s neg s' ∧ I44 s A B s' ∧ s.length - s'.1 < s.length - i ∧ ∀ e st, (e = AExit.exit 0 ∧ st = x44s neg A B) → (e = AExit.exit 0 ∧ st = x44s neg A B))) := fun b' hb' => by
            rw [hb'] at a2
            have hb2 : b' ≤ i + 1 := by rw [← hb']; split <;> omega
            refine chkI (decide_eq_true hi) (askI (fun g3 => chkI (decide_eq_true hi) ?_) fun g3 => ?_)
            · exact goA pt b' hi (by rw [← h2]; exact (al_add hi g1 g2 [] (by rw [g3]; rfl)).symm) (by rw [← a2]; exact h3) hb2
            · exact goN pt b' hi (by rw [← h2]; exact (al_skip hi g1 g2 [] (by rw [g3]; rfl)).symm) (by rw [← a2]; exact h3) hb2
          refine askI (fun g3 => ?_) fun g3 => ?_
          · exact key (b + 1) (by rw [g3]; rfl)
          · exact key b (by rw [g3]; rfl)
        · obtain ⟨a1, a2⟩ := al_no hi g1 g2 [] pt b
          exact goN pt b hi (by rw [← a1]; exact h2) (by rw [← a2]; exact h3) (by omega)
      · rw [List.drop_eq_nil_of_le hi] at h2 h3
        have e2 : [] = A := h2
        have e3 : b = B := h3
        subst e2 e3
        exact askF (decide_eq_false (by omega)) ⟨rfl, rfl⟩
    · have hE : acc.isEmpty = false := by simpa using hE
      have hl : 0 < acc.length := by cases acc with
        | nil => cases hE
        | cons _ _ => simp
      have hg : g44 s neg (i, acc, pt, b) = h44 s neg acc b pt i := by unfold g44; simp only [hE, Bool.false_eq_true, if_false]
      rw [hg]
      have goN : ∀ (pt' : Bool) (b' : Nat), i < s.length → allR (s.drop (i + 1)) acc = A → behR (s.drop (i + 1)) pt' b' = B → b' ≤ i + 1 → _ := fun pt' b' => fun hi e1 e2 e4 => go (h44 s neg acc b' pt' ((i + 1 : Nat) : Int)) acc pt' b' (by unfold g44; simp only [hE, Bool.false_eq_true, if_false]) hi e1 e2 (by omega) e4
      have goA : ∀ (pt' : Bool) (b' : Nat), i < s.length → allR (s.drop (i + 1)) (acc ++ [s.getD i 0]) = A → behR (s.drop (i + 1)) pt' b' = B → b' ≤ i + 1 → _ := fun pt' b' => fun hi e1 e2 e4 => go _ (acc ++ [s.getD i 0]) pt' b' (g44_app s neg (i + 1) acc (s.getD i 0) pt' b').symm hi e1 e2 (by rw [List.length_append]; simp; omega) e4
      refine W_wpX (C := C44m) hcw (by intro x hx; cases hx) (n := 60) (tn := t44) (tx := x44) (tr := x44) ((v44b s neg acc b pt i _).mp ?_)
      rw [w1, w2, eq46']
      rcases Nat.lt_or_ge i s.length with hi | hi
      · refine askT (decide_eq_true (by omega)) (chkI (decide_eq_true hi) (askI (fun g1 => ?_) fun g1 => chkI (decide_eq_true hi) ⟨_, isD_at _, askI (fun g2 => ?_) fun g2 => ?_⟩))
        · obtain ⟨a1, a2⟩ := al_dot hi g1 acc pt b
          exact chkI (bv_ocl _) (goN true b hi (by rw [← a1]; exact h2) (by rw [← a2]; exact h3) (by omega))
        · have a2 := be_d hi g1 g2 pt b
          have a1 := al_add hi g1 g2 acc (by rw [decide_eq_true hl]; rfl)
          have hgt : decide ((acc.length : Int) > 0) = true := decide_eq_true (by omega)
          refine askI (fun g3 => ?_) fun g3 => ?_
          · rw [if_pos g3] at a2
            refine askT hgt (chkI (decide_eq_true hi) ⟨5, 1, _, rfl, chkI rfl (chkI rfl (chkI (by rw [bv_len]; simp) (chkI (decide_eq_true (by omega)) (chkI (decide_eq_true (by omega)) (chkI (one_ocl _ _) ?_)))))⟩)
            exact goA pt (b + 1) hi (by rw [← a1]; exact h2) (by rw [← h3, a2]) (by omega)
          · rw [if_neg (by rw [g3]; decide)] at a2
            refine askT hgt (chkI (decide_eq_true hi) ⟨5, 1, _, rfl, chkI rfl (chkI rfl (chkI (by rw [bv_len]; simp) (chkI (decide_eq_true (by omega)) (chkI (decide_eq_true (by omega)) (chkI (one_ocl _ _) ?_)))))⟩)
            exact goA pt b hi (by rw [← a1]; exact h2) (by rw [← h3, a2]) (by omega)
        · obtain ⟨a1, a2⟩ := al_no hi g1 g2 acc pt b
          exact chkI (bv_ocl _) (goN pt b hi (by rw [← a1]; exact h2) (by rw [← a2]; exact h3) (by omega))
      · rw [List.drop_eq_nil_of_le hi] at h2 h3
        have e2 : acc = A := h2
        have e3 : b = B := h3
        subst e2 e3
        refine askF (decide_eq_false (by omega)) (chkI (bv_ocl _) ⟨rfl, ?_⟩)
        unfold x44s
        simp only [hE, Bool.false_eq_true, if_false]
        rfl

theorem beh_full (neg : Bool) : ∀ (l : List UInt8) (j : Nat) (low : Bool) (g : Nat), g < j + l.length → (behindL neg l j low g = j + l.length ↔ (l ≠ [] ∧ runD l = l.length ∧ (low || nzD l || !neg) = true))
  | [], j, low, g, h => by
    simp only [behindL, List.length_nil, Nat.add_zero] at h ⊢
    constructor
    · omega
    · rintro ⟨h1, _⟩; exact absurd rfl h1
  | c :: l, j, low, g, h => by
    simp only [List.length_cons] at h ⊢
    rw [behindL, runD, nzD]
    cases hd : isD c with
    | false =>
      simp only [Bool.false_eq_true, if_false]
      constructor
      · omega
      · rintro ⟨_, h2, _⟩; omega
    | true =>
      simp only [if_true]
      cases l with
      | nil =>
        simp only [behindL, runD, nzD, List.length_nil, Nat.zero_add, Bool.or_false]
        cases hq : (low || c != 48 || !neg) with
        | true => simp
        | false =>
          simp only [Bool.false_eq_true, if_false, List.length_nil, Nat.zero_add] at h ⊢
          constructor
          · omega
          · rintro ⟨_, _, h3⟩; exact absurd h3 (by decide)
      | cons d l =>
        have ih := beh_full neg (d :: l) (j + 1) (low || c != 48) (if (low || c != 48) || !neg then j + 1 else g) (by simp only [List.length_cons] at h ⊢; split <;> omega)
        have e1 : j + ((d :: l).length + 1) = j + 1 + (d :: l).length := by omega
        rw [e1, ih]
        constructor
        · rintro ⟨_, h2, h3⟩
          exact ⟨List.cons_ne_nil _ _, by omega, by rw [← h3]; simp only [Bool.or_assoc]⟩
        · rintro ⟨_, h2, h3⟩
          exact ⟨List.cons_ne_nil _ _, by omega, by rw [← h3]; simp only [Bool.or_assoc]⟩
def wX (s : List UInt8) (i : Nat) (low : Bool) : Bool :=
  if decide (i < s.length) then (if s.getD i 0 != 46 || i + 1 == s.length then false else if i + 1 + runD (s.drop (i + 1)) == s.length then (low || nzD (s.drop (i + 1))) || s.getD 0 0 != 45 else false) else low || s.getD 0 0 != 45
theorem whole_full {s : List UInt8} {i : Nat} {low neg : Bool} (h0 : 0 < i) (hi : i ≤ s.length) (hn : (s.getD 0 0 != 45) = !neg) : (wholeP neg s i low = s.length) ↔ wX s i low = true := by
  unfold wX wholeP
  rw [hn]
  rcases Nat.lt_or_ge i s.length with h | h
  · rw [decide_eq_true h, if_pos rfl, Bool.true_and]
    cases h46 : (s.getD i 0 == 46) with
    | false =>
      rw [bne, h46]
      simp only [Bool.false_eq_true, if_false, Bool.not_false, Bool.true_or, if_true]
      constructor
      · split <;> omega
      · exact False.elim
    | true =>
      rw [bne, h46]
      simp only [if_true, Bool.not_true, Bool.false_or]
      have hb := beh_full neg (s.drop (i + 1)) (i + 1) low (if low || !neg then i else 0) (by rw [List.length_drop]; split <;> omega)
      rw [List.length_drop, show i + 1 + (s.length - (i + 1)) = s.length by omega] at hb
      rw [hb]
      cases hl : (i + 1 == s.length) with
      | true =>
        rw [beq_iff_eq] at hl
        simp only [if_true]
        constructor
        · rintro ⟨h1, _⟩; exact absurd (List.drop_eq_nil_of_le (by omega)) h1
        · intro h; cases h
      | false =>
        rw [beq_eq_false_iff_ne] at hl
        simp only [Bool.false_eq_true, if_false]
        cases hr : (i + 1 + runD (s.drop (i + 1)) == s.length) with
        | true =>
          rw [beq_iff_eq] at hr
          simp only [if_true]
          constructor
          · rintro ⟨_, _, h3⟩; exact h3
          · intro h3
            refine ⟨fun e => ?_, by omega, h3⟩
            have := congrArg List.length e
            rw [List.length_drop] at this
            simp at this
            omega
        | false =>
          rw [beq_eq_false_iff_ne] at hr
          simp only [Bool.false_eq_true, if_false]
          constructor
          · rintro ⟨_, h2, _⟩; omega
          · exact False.elim
  · have he : i = s.length := by omega
    rw [decide_eq_false (by omega)]
    simp only [Bool.false_and, Bool.false_eq_true, if_false]
    cases (low || !neg) <;> simp <;> omega
theorem nz_first {s : List UInt8} {i : Nat} (h : i < s.length) (hd : isD (s.getD i 0) = true) (h48 : (s.getD i 0 == 48) = false) : nzD (s.drop i) = true := by
  rw [nz_yes h hd, bne, h48]; rfl
theorem wR_len {s : List UInt8} (hl : 0 < s.length) : wR s = true ↔ prefixF s = s.length := by
  have gen : ∀ (fr : Nat) (neg : Bool), fr ≤ 1 → fr ≤ s.length → (s.getD 0 0 != 45) = !neg → (wRf s fr = true ↔ (if dgA s fr then (if s.getD fr 0 == 48 then wholeP neg s (fr + 1) false else wholeP neg s (fr + runD (s.drop fr)) true) else 0) = s.length) := by
    intro fr neg hf hfl hn
    have hX : wRf s fr = if runD (s.drop fr) == 0 || (s.getD fr 0 == 48 && decide (1 < runD (s.drop fr))) then false else wX s (fr + runD (s.drop fr)) (nzD (s.drop fr)) := by
      unfold wRf wX
      split
      · rfl
      · rfl
    rw [hX]
    cases hd : dgA s fr with
    | false =>
      rw [runD_no hd]
      simp
      omega
    | true =>
      have hlt := dgA_lt hd
      have hdi : isD (s.getD fr 0) = true := by rw [← dgA_eq hlt]; exact hd
      have hr := runD_at hd
      have hk : (runD (s.drop fr) == 0) = false := by rw [beq_eq_false_iff_ne]; omega
      have hrl := runD_le (s.drop fr)
      rw [List.length_drop] at hrl
      rw [hk, Bool.false_or]
      simp only [if_true]
      cases h48 : (s.getD fr 0 == 48) with
      | false =>
        simp only [Bool.false_and, Bool.false_eq_true, if_false]
        rw [whole_full (by omega) (by omega) hn, nz_first hlt hdi h48]
      | true =>
        simp only [Bool.true_and, if_true]
        rcases Nat.lt_or_ge 1 (runD (s.drop fr)) with h1 | h1
        · rw [decide_eq_true h1]
          simp only [if_true]
          have hd1 : dgA s (fr + 1) = true := by
            cases h : dgA s (fr + 1) with
            | true => rfl
            | false => rw [runD_no h] at hr; omega
          have hl1 := dgA_lt hd1
          rw [dgA_eq hl1] at hd1
          have h46 : (s.getD (fr + 1) 0 == 46) = false := by
            rw [beq_eq_false_iff_ne]; intro e; rw [e] at hd1; cases hd1
          constructor
          · intro h; cases h
          · rw [wholeP_no (by rw [h46, Bool.and_false])]
            intro h; split at h <;> omega
        · rw [decide_eq_false (by omega)]
          simp only [Bool.false_eq_true, if_false]
          have hk1 : runD (s.drop fr) = 1 := by omega
          have hnz : nzD (s.drop fr) = false := by
            rw [nz_yes hlt hdi]
            have : nzD (s.drop (fr + 1)) = false := by
              rcases Nat.lt_or_ge (fr + 1) s.length with h | h
              · exact nz_no h (by
                  cases hc : isD (s.getD (fr + 1) 0) with
                  | false => rfl
                  | true => rw [rd_yes h hc] at hr; omega)
              · rw [List.drop_eq_nil_of_le h]; rfl
            rw [this, Bool.or_false, bne, h48]; rfl
          rw [hk1, hnz, whole_full (by omega) (by omega) hn]
  unfold wR
  cases hn : (decide (0 < s.length) && s.getD 0 0 == 45) with
  | true =>
    rw [pfx_neg hn]
    rw [decide_eq_true hl, Bool.true_and] at hn
    exact gen 1 true (by omega) (by omega) (by rw [bne, hn])
  | false =>
    rw [pfx_pos hn]
    rw [decide_eq_true hl, Bool.true_and] at hn
    exact gen 0 false (by omega) (by omega) (by rw [bne, hn])
theorem wR_nil : wR [] = false := by decide
theorem cond_eq (s : List UInt8) : ((s == []) || ((prefixF s : Int) != (s.length : Int))) = !wR s := by
  rcases Nat.lt_or_ge 0 s.length with h | h
  · have he : (s == []) = false := by
      cases s with
      | nil => cases h
      | cons _ _ => rfl
    rw [he, Bool.false_or]
    cases hw : wR s with
    | true =>
      have := (wR_len h).1 hw
      rw [this]; simp
    | false =>
      rw [Bool.not_false, bne_iff_ne]
      intro e
      have : prefixF s = s.length := by omega
      rw [(wR_len h).2 this] at hw
      cases hw
  · have : s = [] := List.eq_nil_of_length_eq_zero (by omega)
    subst this
    rw [wR_nil]; rfl

theorem all_run {l : List UInt8} (h : runD l = l.length) : ∀ c ∈ l, isD c = true := by
  induction l with
  | nil => intro c hc; cases hc
  | cons d l ih =>
    rw [runD] at h
    cases hd : isD d with
    | false => rw [hd] at h; simp at h
    | true =>
      rw [hd] at h
      simp only [if_true, List.length_cons] at h
      intro c hc
      rcases List.mem_cons.1 hc with rfl | hc
      · exact hd
      · exact ih (by omega) c hc
theorem take_run : ∀ l : List UInt8, ∀ c ∈ l.take (runD l), isD c = true
  | [], c, hc => by cases hc
  | d :: l, c, hc => by
    rw [runD] at hc
    cases hd : isD d with
    | false => rw [hd] at hc; cases hc
    | true =>
      rw [hd] at hc
      simp only [if_true, List.take_succ_cons] at hc
      rcases List.mem_cons.1 hc with rfl | hc
      · exact hd
      · exact take_run l c hc
theorem isD_46 {c : UInt8} (h : isD c = true) : (c == 46) = false := by
  rw [beq_eq_false_iff_ne]; rintro rfl; cases h
theorem al1 : ∀ (l acc r : List UInt8), (∀ c ∈ l, isD c = true) → 0 < acc.length → allR (l ++ r) acc = allR r (acc ++ l)
  | [], acc, r, _, _ => by rw [List.nil_append, List.append_nil]
  | c :: l, acc, r, h, ha => by
    have hc := h c (List.mem_cons_self ..)
    rw [List.cons_append, allR, if_neg (by rw [isD_46 hc]; decide), if_pos hc, if_pos (by rw [decide_eq_true ha]; rfl), al1 l (acc ++ [c]) r (fun d hd => h d (List.mem_cons_of_mem _ hd)) (by simp), List.append_assoc]
    rfl
def dw (l : List UInt8) : List UInt8 := l.dropWhile (· == 48)
theorem dw_cons (c : UInt8) (l : List UInt8) : dw (c :: l) = if c == 48 then dw l else c :: l := by
  unfold dw; rw [List.dropWhile_cons]
theorem al2 : ∀ (l r : List UInt8), (∀ c ∈ l, isD c = true) → allR (l ++ r) [] = allR r (dw l)
  | [], r, _ => rfl
  | c :: l, r, h => by
    have hc := h c (List.mem_cons_self ..)
    have hl : ∀ d ∈ l, isD d = true := fun d hd => h d (List.mem_cons_of_mem _ hd)
    rw [List.cons_append, allR, if_neg (by rw [isD_46 hc]; decide), if_pos hc, dw_cons]
    cases h48 : (c == 48) with
    | true =>
      rw [if_neg (by rw [bne, h48]; decide), if_pos rfl]
      exact al2 l r hl
    | false =>
      rw [if_pos (by rw [bne, h48]; rfl), if_neg (by decide), List.nil_append, al1 l [c] r hl (by simp)]
      rfl
theorem dw_app (a b : List UInt8) : dw (a ++ b) = if (dw a).isEmpty then dw b else dw a ++ b := by
  unfold dw; rw [List.dropWhile_append]
theorem al3 (w d : List UInt8) (hw : ∀ c ∈ w, isD c = true) (hd : ∀ c ∈ d, isD c = true) : allR (w ++ 46 :: d) [] = dw (w ++ d) := by
  rw [al2 w _ hw, dw_app]
  have e : allR (46 :: d) (dw w) = allR d (dw w) := by rw [allR]; rfl
  rw [e]
  have e2 : d = d ++ [] := (List.append_nil d).symm
  split
  · rename_i h
    rw [List.isEmpty_iff.1 h]
    conv => lhs; rw [e2]
    rw [al2 d [] hd]; rfl
  · rename_i h
    conv => lhs; rw [e2]
    rw [al1 d _ [] hd (by
      cases hh : dw w with
      | nil => rw [hh] at h; exact absurd rfl h
      | cons _ _ => simp)]
    rfl
theorem be1 : ∀ (l r : List UInt8) (b : Nat), (∀ c ∈ l, isD c = true) → behR (l ++ r) false b = behR r false b
  | [], _, _, _ => rfl
  | c :: l, r, b, h => by
    have hc := h c (List.mem_cons_self ..)
    rw [List.cons_append, behR, if_neg (by rw [isD_46 hc]; decide), if_pos hc]
    exact be1 l r b fun d hd => h d (List.mem_cons_of_mem _ hd)
theorem be2 : ∀ (l : List UInt8) (b : Nat), (∀ c ∈ l, isD c = true) → behR l true b = b + l.length
  | [], _, _ => rfl
  | c :: l, b, h => by
    have hc := h c (List.mem_cons_self ..)
    rw [behR, if_neg (by rw [isD_46 hc]; decide), if_pos hc, if_pos rfl, be2 l (b + 1) fun d hd => h d (List.mem_cons_of_mem _ hd)]
    simp only [List.length_cons]; omega
theorem ix_no : ∀ (l : List UInt8), (∀ c ∈ l, isD c = true) → Lib.indexByte l 46 = -1
  | [], _ => rfl
  | c :: l, h => by
    have hc := h c (List.mem_cons_self ..)
    rw [Lib.indexByte, if_neg (by rw [isD_46 hc]; decide), ix_no l fun d hd => h d (List.mem_cons_of_mem _ hd)]
    rfl
theorem ix_at : ∀ (l d : List UInt8), (∀ c ∈ l, isD c = true) → Lib.indexByte (l ++ 46 :: d) 46 = (l.length : Int)
  | [], d, _ => by rw [List.nil_append, Lib.indexByte]; rfl
  | c :: l, d, h => by
    have hc := h c (List.mem_cons_self ..)
    rw [List.cons_append, Lib.indexByte, if_neg (by rw [isD_46 hc]; decide), ix_at l d fun d hd => h d (List.mem_cons_of_mem _ hd), if_neg (by rw [beq_iff_eq]; omega), List.length_cons]
    omega
def parse44 (s : List UInt8) : Bool × Int × Int × Int :=
  if wR s = false then (false, 0, 0, 30) else if behR s false 0 > 18 then (false, 0, 0, 31)
  else if (allR s []).isEmpty then (s.getD 0 0 == 45, 0, (behR s false 0 : Nat), 0)
  else if ((parseN (allR s [])).2 != 0) = true then (false, 0, 0, (parseN (allR s [])).2) else (s.getD 0 0 == 45, (parseN (allR s [])).1, (behR s false 0 : Nat), 0)
/-- A whole text: its digits. -/
theorem split_whole {t : List UInt8} (h1 : 0 < runD t) (h : runD t = t.length ∨ (runD t < t.length ∧ t.getD (runD t) 0 = 46 ∧ runD (t.drop (runD t + 1)) = (t.drop (runD t + 1)).length)) :
    allR t [] = dw ((cut1 t 46).1 ++ (cut1 t 46).2.1) ∧ behR t false 0 = (cut1 t 46).2.1.length := by
  rcases h with h | ⟨ha, hb, hc⟩
  · have hall := all_run h
    have hcut : cut1 t 46 = (t, [], false) := by
      unfold cut1; rw [ix_no t hall]; rfl
    rw [hcut]
    refine ⟨?_, ?_⟩
    · have := al2 t [] hall
      rw [List.append_nil] at this
      rw [this, List.append_nil]; rfl
    · have := be1 t [] 0 hall
      rw [List.append_nil] at this
      rw [this]; rfl
  · have hw := take_run t
    have hd := all_run hc
    have ht : t = t.take (runD t) ++ 46 :: t.drop (runD t + 1) := by
      have e := List.take_append_drop (runD t) t
      rw [drop_cons ha, hb] at e
      exact e.symm
    generalize t.take (runD t) = w at hw ht
    generalize t.drop (runD t + 1) = d at hd ht
    subst ht
    have hcut : cut1 (w ++ 46 :: d) 46 = (w, d, true) := by
      unfold cut1
      rw [ix_at w d hw, if_pos (by omega), Int.toNat_natCast]
      rw [List.take_left' rfl, show w.length + 1 = (w ++ [46]).length by simp, show w ++ 46 :: d = (w ++ [46]) ++ d by simp, List.drop_left' rfl]
    rw [hcut]
    refine ⟨al3 w d hw hd, ?_⟩
    have e : behR (46 :: d) false 0 = behR d true 0 := by rw [behR]; rfl
    rw [be1 w _ 0 hw, e, be2 d 0 hd]; simp
theorem pWD (neg : Bool) (w d : List UInt8) : parseWD neg w d = if d.length > 18 then (false, 0, 0, 31)
    else if (dw (w ++ d)).isEmpty then (neg, 0, (d.length : Int), 0)
    else if ((parseN (dw (w ++ d))).2 != 0) = true then (false, 0, 0, (parseN (dw (w ++ d))).2) else (neg, (parseN (dw (w ++ d))).1, (d.length : Int), 0) := by
  unfold parseWD
  split
  · rfl
  · have h48 : parseN [48] = (0, 0) := by decide +kernel
    have hX : digX w d = if (dw (w ++ d)).isEmpty then [48] else dw (w ++ d) := by
      unfold digX dw Lib.trimLeftB
      cases h : List.dropWhile (fun x => x == 48) (w ++ d) with
      | nil => rfl
      | cons _ _ => rfl
    rw [hX]
    cases h : (dw (w ++ d)).isEmpty with
    | true =>
      simp only [if_true, h48]
      rfl
    | false =>
      simp only [Bool.false_eq_true, if_false]
theorem parse_same (s : List UInt8) : parse44 s = parseD s := by
  unfold parse44 parseD
  rw [cond_eq]
  cases hw : wR s with
  | false => rfl
  | true =>
    rw [if_neg (show ¬ (true = false) by decide), if_neg (show ¬ ((!true) = true) by decide), pWD]
    have hl : 0 < s.length := by
      cases s with
      | nil => rw [wR_nil] at hw; cases hw
      | cons _ _ => simp
    have key : ∀ fr : Nat, wRf s fr = true → fr ≤ s.length → 0 < runD (s.drop fr) ∧ (runD (s.drop fr) = (s.drop fr).length ∨ (runD (s.drop fr) < (s.drop fr).length ∧ (s.drop fr).getD (runD (s.drop fr)) 0 = 46 ∧ runD ((s.drop fr).drop (runD (s.drop fr) + 1)) = ((s.drop fr).drop (runD (s.drop fr) + 1)).length)) := by
      intro fr hf hfl
      unfold wRf at hf
      have hrl := runD_le (s.drop fr)
      rw [List.length_drop] at hrl
      split at hf
      · cases hf
      · rename_i h0
        have h0' : (runD (s.drop fr) == 0) = false := by
          cases h : (runD (s.drop fr) == 0) with
          | false => rfl
          | true => rw [h] at h0; exact absurd rfl h0
        rw [beq_eq_false_iff_ne] at h0'
        refine ⟨by omega, ?_⟩
        rw [List.length_drop]
        split at hf
        · rename_i h1
          simp only [decide_eq_true_eq] at h1
          split at hf
          · cases hf
          · rename_i h2
            split at hf
            · rename_i h3
              rw [beq_iff_eq] at h3
              refine .inr ⟨by omega, ?_, ?_⟩
              · rw [List.getD_eq_getElem?_getD, List.getElem?_drop, ← List.getD_eq_getElem?_getD]
                cases h : (s.getD (fr + runD (s.drop fr)) 0 != 46) with
                | true => rw [h] at h2; exact absurd rfl h2
                | false => rw [bne, Bool.not_eq_false'] at h; exact beq_iff_eq.1 h
              · rw [List.drop_drop, List.length_drop, show fr + (runD (s.drop fr) + 1) = fr + runD (s.drop fr) + 1 by omega]
                omega
            · cases hf
        · rename_i h1
          simp only [decide_eq_true_eq] at h1
          exact .inl (by omega)
    cases hn : (s.getD 0 0 == 45) with
    | true =>
      have hwf : wRf s 1 = true := by
        rw [← hw]; unfold wR; rw [hn, decide_eq_true hl]; rfl
      obtain ⟨k1, k2⟩ := key 1 hwf (by omega)
      obtain ⟨a, b⟩ := split_whole k1 k2
      have hs : s = 45 :: s.drop 1 := by
        rw [beq_iff_eq] at hn
        have := drop_cons hl
        rw [List.drop_zero, hn] at this
        exact this
      have e1 : allR s [] = allR (s.drop 1) [] := by
        conv => lhs; rw [hs]
        rw [allR]; rfl
      have e2 : behR s false 0 = behR (s.drop 1) false 0 := by
        conv => lhs; rw [hs]
        rw [behR]; rfl
      have hp : Lib.hasPrefix s [45] = true := by
        rw [hs]; simp [Lib.hasPrefix, List.isPrefixOf]
      have ht : Lib.trimPrefix s [45] = s.drop 1 := by
        unfold Lib.trimPrefix; rw [if_pos hp]; rfl
      rw [e1, e2, hp, ht, a, b]
    | false =>
      have hwf : wRf s 0 = true := by
        rw [← hw]; unfold wR; rw [hn, Bool.and_false]; rfl
      obtain ⟨k1, k2⟩ := key 0 hwf (by omega)
      rw [List.drop_zero] at k1 k2
      obtain ⟨a, b⟩ := split_whole k1 k2
      have hp : Lib.hasPrefix s [45] = false := by
        have := drop_cons hl
        rw [List.drop_zero] at this
        rw [this]
        unfold Lib.hasPrefix
        rw [List.isPrefixOf]
        rw [beq_eq_false_iff_ne] at hn
        rw [show ((45 : UInt8) == s.getD 0 0) = false by rw [beq_eq_false_iff_ne]; exact fun e => hn e.symm]
        rfl
      have ht : Lib.trimPrefix s [45] = s := by
        unfold Lib.trimPrefix; rw [if_neg (by rw [hp]; decide)]
      rw [hp, ht, a, b]
theorem al_len : ∀ (l acc : List UInt8), (allR l acc).length ≤ acc.length + l.length
  | [], acc => Nat.le_refl _
  | c :: l, acc => by
    have h1 := al_len l acc
    have h2 := al_len l (acc ++ [c])
    rw [List.length_append] at h2
    simp only [List.length_cons, List.length_nil] at h2 ⊢
    rw [allR]
    split
    · omega
    · split
      · split <;> omega
      · omega
theorem refParse_ok : QuietOK Tryd.prog 14 fun vs _ => sParseD vs := quiet_plain ht44 fun args v h => by
  unfold sParseD at h
  split at h
  · rename_i s
    split at h
    · rename_i hs
      cases h
      refine ⟨rfl, rfl, ?_⟩
      have hS : (tbS Q tb44).OK Tryd.prog := tbS_ok quietText (by
        intro x hx
        simp only [tb44, List.mem_cons, List.not_mem_nil, or_false] at hx
        rcases hx with rfl | rfl | rfl
        · exact whole_ok
        · exact isD_ok
        · exact parseR_ok)
      obtain ⟨u, h', rfl, hsem⟩ := sem_vc mixed (C := C44 s) hS (tbS_q _ _) (tbW_ok rfl) ht44 c44 (one_part rfl (part_loop (id := 8) rfl rfl fun st K hT => by
        obtain ⟨neg, rfl, hk⟩ := hT
        refine W_mono (loop44 s (by omega) neg) fun e st he => ?_
        obtain ⟨rfl, rfl⟩ := he
        unfold x44s
        cases hE : (allR s []).isEmpty with
        | true => rw [hE] at hk; simp only [if_true]; exact hk
        | false => rw [hE] at hk; simp only [Bool.false_eq_true, if_false]; exact hk)) (v44 s fun u _ => u = .tup [decV (parseD s).1 (parseD s).2.1 (parseD s).2.2.1, .int .i64 (parseD s).2.2.2]) (by
        have alen := al_len s []
        rw [List.length_nil] at alen
        refine ⟨wR s, if_pos (by omega), askI (fun gw => ?_) fun gw => ?_⟩
        · have hl : 0 < s.length := by
            cases s with
            | nil => rw [wR_nil] at gw; cases gw
            | cons _ _ => simp
          refine chkI (decide_eq_true hl) ?_
          rw [eq45]
          refine askI (fun gn => ?_) fun gn => ?_
          · refine ⟨true, rfl, ?_⟩
            refine askI (fun gE => ?_) fun gE => ?_
            · refine askI (fun g1 => ?_) fun g1 => ?_
              · simp only [decide_eq_true_eq] at g1
                rw [← parse_same]; unfold parse44
                rw [if_neg (by rw [gw]; decide), if_pos (by omega)]; rfl
              · simp only [decide_eq_false_iff_not] at g1
                rw [← parse_same]; unfold parse44
                rw [if_neg (by rw [gw]; decide), if_neg (by omega), if_pos gE, gn]; rfl
            · refine askI (fun g1 => ?_) fun g1 => ?_
              · simp only [decide_eq_true_eq] at g1
                rw [← parse_same]; unfold parse44
                rw [if_neg (by rw [gw]; decide), if_pos (by omega)]; rfl
              · simp only [decide_eq_false_iff_not] at g1
                have hpos : 0 < (allR s []).length := by
                  cases h : allR s [] with
                  | nil => rw [h] at gE; cases gE
                  | cons _ _ => simp
                refine askF (by rw [beq_eq_false_iff_ne]; omega) ⟨allR s [], strOf_bv _ _ _ rfl, ?_⟩
                refine ⟨_, _, _, _, _, parseN_at (by omega), askI (fun g3 => ?_) fun g3 => ?_⟩
                · rw [← parse_same]; unfold parse44
                  rw [if_neg (by rw [gw]; decide), if_neg (by omega), if_neg (by rw [gE]; decide), if_pos g3]; rfl
                · rw [← parse_same]; unfold parse44
                  rw [if_neg (by rw [gw]; decide), if_neg (by omega), if_neg (by rw [gE]; decide), if_neg (by rw [g3]; decide), gn]; rfl
          · refine ⟨false, rfl, ?_⟩
            refine askI (fun gE => ?_) fun gE => ?_
            · refine askI (fun g1 => ?_) fun g1 => ?_
              · simp only [decide_eq_true_eq] at g1
                rw [← parse_same]; unfold parse44
                rw [if_neg (by rw [gw]; decide), if_pos (by omega)]; rfl
              · simp only [decide_eq_false_iff_not] at g1
                rw [← parse_same]; unfold parse44
                rw [if_neg (by rw [gw]; decide), if_neg (by omega), if_pos gE, gn]; rfl
            · refine askI (fun g1 => ?_) fun g1 => ?_
              · simp only [decide_eq_true_eq] at g1
                rw [← parse_same]; unfold parse44
                rw [if_neg (by rw [gw]; decide), if_pos (by omega)]; rfl
              · simp only [decide_eq_false_iff_not] at g1
                have hpos : 0 < (allR s []).length := by
                  cases h : allR s [] with
                  | nil => rw [h] at gE; cases gE
                  | cons _ _ => simp
                refine askF (by rw [beq_eq_false_iff_ne]; omega) ⟨allR s [], strOf_bv _ _ _ rfl, ?_⟩
                refine ⟨_, _, _, _, _, parseN_at (by omega), askI (fun g3 => ?_) fun g3 => ?_⟩
                · rw [← parse_same]; unfold parse44
                  rw [if_neg (by rw [gw]; decide), if_neg (by omega), if_neg (by rw [gE]; decide), if_pos g3]; rfl
                · rw [← parse_same]; unfold parse44
                  rw [if_neg (by rw [gw]; decide), if_neg (by omega), if_neg (by rw [gE]; decide), if_neg (by rw [g3]; decide), gn]; rfl
        · rw [← parse_same]; unfold parse44
          rw [if_pos gw]; rfl)
      exact ⟨h', hsem⟩
    · cases h
  · cases h

end Go.Proofs.YtddalcnajejibaaDoor
