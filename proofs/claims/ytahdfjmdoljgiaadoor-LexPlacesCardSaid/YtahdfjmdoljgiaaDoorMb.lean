/- Written by merging: LxF LxG LxH LxI LxJ. -/
import Derived.Test.YtahdfjmdoljgiaaDoorMa
namespace Go.Proofs.YtahdfjmdoljgiaaDoor
open Go Go.Am
set_option maxRecDepth 100000
set_option linter.unusedVariables false
set_option linter.unusedSimpArgs false
/- The document's Quote, hex and Unquote: what they come to; shapes of their runs. -/

/-! Quote (15) -/

def g15 (s : List UInt8) (i : Nat) (acc : List UInt8) : St := (envOf 51 [(0, .str s), (2, .str []), (3, .sl (some (0, 0)) acc.length (.rel 0)), (4, .int .i64 i)], [.row 5 1 (bv acc)])
def t15 : Tidy := ⟨dropT 51 [0, 2, 3, 4], .auto⟩
def x15 : Tidy := ⟨dropT 51 [0, 2, 3], .auto⟩
def e15 (s acc : List UInt8) : St := (envOf 51 [(0, .str s), (2, .str []), (3, .sl (some (0, 0)) acc.length (.rel 0))], [.row 5 1 (bv acc)])
def C15m : Cfg := tbC Q [] (fun k => k == 0 || k == 2) kdI
def C15 (s : List UInt8) : Cfg := { tbC Q [] (fun k => k == 0 || k == 2) kdI with
  lw := fun id => if id = 3 then some fun st K => st = g15 s 0 [34] ∧ K (.exit 0) (e15 s (34 :: s.flatMap esc)) else none
  F := fun id => if id = 3 then t15 else ⟨[], .all⟩ }
/-! hex (28) -/
def hexv (c : UInt8) : UInt8 := if c ≥ 97 then c - 97 + 10 else c - 48
def sHex : List AV → Option AV
  | [.int .u8 c] => if 0 ≤ c ∧ c < 256 then some (.int .u8 (hexv c.toNat.toUInt8).toNat) else none
  | _ => none
/-! Unquote (13) -/
def sQuoteR : List AV → Option AV
  | [.str s] => if s.length ≤ 1099511627900 then some (.str (quoteL s)) else none
  | _ => none
def refFrom (s : List UInt8) : Nat → Nat → List UInt8 → List UInt8
  | 0, _, acc => acc
  | f + 1, i, acc =>
    if i + 1 < s.length then
      if (s.getD i 0 == 92 && decide (i + 2 < s.length) && s.getD (i + 1) 0 != 120) = true then refFrom s f (i + 2) (acc ++ [s.getD (i + 1) 0])
      else if (s.getD i 0 == 92 && decide (i + 4 < s.length)) = true then refFrom s f (i + 4) (acc ++ [16 * hexv (s.getD (i + 2) 0) + hexv (s.getD (i + 3) 0)])
      else refFrom s f (i + 1) (acc ++ [s.getD i 0])
    else acc
def refF (s : List UInt8) : List UInt8 := refFrom s (s.length + 1) 1 []
def tb13 : List TbE := [⟨28, fun vs _ => sHex vs, .of (.one (.int .u8))⟩, ⟨15, fun vs _ => sQuoteR vs, .of (.one .str)⟩]
def n13 (s : List UInt8) (i : Int) : St := (envOf 74 [(0, .str s), (2, .str []), (3, .bool false), (4, .sl none 0 (.fix 0)), (5, .int .i64 i)], [])
def h13 (s : List UInt8) (i : Int) (acc : List UInt8) : St := (envOf 74 [(0, .str s), (2, .str []), (3, .bool false), (4, .sl (some (0, 0)) acc.length (.rel 0)), (5, .int .i64 i)], [.row 5 1 (bv acc)])
def t13 : Tidy := ⟨dropT 74 [0, 2, 3, 4, 5], .auto⟩
def x13 : Tidy := ⟨dropT 74 [0, 2, 3, 4], .auto⟩
def xn13 (s : List UInt8) : St := (envOf 74 [(0, .str s), (2, .str []), (3, .bool false), (4, .sl none 0 (.fix 0))], [])
def xh13 (s acc : List UInt8) : St := (envOf 74 [(0, .str s), (2, .str []), (3, .bool false), (4, .sl (some (0, 0)) acc.length (.rel 0))], [.row 5 1 (bv acc)])
def C13l : Cfg := tbC Q tb13 (fun _ => false) kdI
def C13m : Cfg := tbC Q tb13 (fun k => k == 0 || k == 2) kdI
def C13 (s : List UInt8) : Cfg := { tbC Q tb13 (fun k => k == 0) kdI with
  lw := fun id => if id = 3 then some fun st K => st = n13 s 1 ∧ askB (refF s).isEmpty (K (.exit 0) (xn13 s)) (K (.exit 0) (xh13 s (refF s))) else none
  F := fun id => if id = 3 then t13 else ⟨[], .all⟩ }

/- What Quote's, hex's and Unquote's code must meet: written by vcgen.py. -/
theorem v15b (s : List UInt8) (i : Nat) (acc : List UInt8) (K : AExit → St → Prop) : (askB (decide ((↑i : Int) < (↑(List.length s) : Int))) (chkW (decide (i < List.length s)) (askB ((↑(UInt8.toNat (List.getD s i 0)) : Int) == 34) (∃ (t : TypeId), ∃ (s_1 : Nat), ∃ (cs : List AV), some (AObj.row 5 1 (bv acc)) = some (AObj.row t s_1 cs) ∧ chkW (decide (t = 5)) (chkW (decide (s_1 = 1)) (chkW (decide (List.length cs = List.length acc * 1)) (chkW (decide ((List.length acc + 2) * 1 ≤ 140737488355328)) (chkW (decide (List.length acc + 2 ≤ 9223372036854775807)) (chkW (objClosed (AObj.row 5 1 (cs ++ List.take (2 * 1) (List.drop 0 [AV.int .u8 92, AV.int .u8 (↑(UInt8.toNat (List.getD s i 0)) : Int)])))) (K AExit.normal (envOf 51 [(0, AV.str s), (2, AV.str []), (3, AV.sl (some (0, 0)) (List.length acc + 2) (ACap.rel 0)), (4, AV.int .i64 (IntKind.wrap .i64 ((↑i : Int) + 1)))], [AObj.row 5 1 (cs ++ List.take (2 * 1) (List.drop 0 [AV.int .u8 92, AV.int .u8 (↑(UInt8.toNat (List.getD s i 0)) : Int)]))])))))))) (askB ((↑(UInt8.toNat (List.getD s i 0)) : Int) == 92) (∃ (t : TypeId), ∃ (s_1 : Nat), ∃ (cs : List AV), some (AObj.row 5 1 (bv acc)) = some (AObj.row t s_1 cs) ∧ chkW (decide (t = 5)) (chkW (decide (s_1 = 1)) (chkW (decide (List.length cs = List.length acc * 1)) (chkW (decide ((List.length acc + 2) * 1 ≤ 140737488355328)) (chkW (decide (List.length acc + 2 ≤ 9223372036854775807)) (chkW (objClosed (AObj.row 5 1 (cs ++ List.take (2 * 1) (List.drop 0 [AV.int .u8 92, AV.int .u8 (↑(UInt8.toNat (List.getD s i 0)) : Int)])))) (K AExit.normal (envOf 51 [(0, AV.str s), (2, AV.str []), (3, AV.sl (some (0, 0)) (List.length acc + 2) (ACap.rel 0)), (4, AV.int .i64 (IntKind.wrap .i64 ((↑i : Int) + 1)))], [AObj.row 5 1 (cs ++ List.take (2 * 1) (List.drop 0 [AV.int .u8 92, AV.int .u8 (↑(UInt8.toNat (List.getD s i 0)) : Int)]))])))))))) (askB (decide ((↑(UInt8.toNat (List.getD s i 0)) : Int) < 32)) (chkW (decide (Int.toNat (IntKind.wrap .u8 (Int.tdiv (↑(UInt8.toNat (List.getD s i 0)) : Int) 16)) < 16)) (chkW (decide (Int.toNat (Int.tmod (↑(UInt8.toNat (List.getD s i 0)) : Int) 16) < 16)) (∃ (t : TypeId), ∃ (s_1 : Nat), ∃ (cs : List AV), some (AObj.row 5 1 (bv acc)) = some (AObj.row t s_1 cs) ∧ chkW (decide (t = 5)) (chkW (decide (s_1 = 1)) (chkW (decide (List.length cs = List.length acc * 1)) (chkW (decide ((List.length acc + 4) * 1 ≤ 140737488355328)) (chkW (decide (List.length acc + 4 ≤ 9223372036854775807)) (chkW (objClosed (AObj.row 5 1 (cs ++ List.take (4 * 1) (List.drop 0 [AV.int .u8 92, AV.int .u8 120, AV.int .u8 (↑(UInt8.toNat (List.getD (Array.toList (ByteArray.data { data := #[48, 49, 50, 51, 52, 53, 54, 55, 56, 57, 97, 98, 99, 100, 101, 102] })) (Int.toNat (IntKind.wrap .u8 (Int.tdiv (↑(UInt8.toNat (List.getD s i 0)) : Int) 16))) 0)) : Int), AV.int .u8 (↑(UInt8.toNat (List.getD (Array.toList (ByteArray.data { data := #[48, 49, 50, 51, 52, 53, 54, 55, 56, 57, 97, 98, 99, 100, 101, 102] })) (Int.toNat (Int.tmod (↑(UInt8.toNat (List.getD s i 0)) : Int) 16)) 0)) : Int)])))) (K AExit.normal (envOf 51 [(0, AV.str s), (2, AV.str []), (3, AV.sl (some (0, 0)) (List.length acc + 4) (ACap.rel 0)), (4, AV.int .i64 (IntKind.wrap .i64 ((↑i : Int) + 1)))], [AObj.row 5 1 (cs ++ List.take (4 * 1) (List.drop 0 [AV.int .u8 92, AV.int .u8 120, AV.int .u8 (↑(UInt8.toNat (List.getD (Array.toList (ByteArray.data { data := #[48, 49, 50, 51, 52, 53, 54, 55, 56, 57, 97, 98, 99, 100, 101, 102] })) (Int.toNat (IntKind.wrap .u8 (Int.tdiv (↑(UInt8.toNat (List.getD s i 0)) : Int) 16))) 0)) : Int), AV.int .u8 (↑(UInt8.toNat (List.getD (Array.toList (ByteArray.data { data := #[48, 49, 50, 51, 52, 53, 54, 55, 56, 57, 97, 98, 99, 100, 101, 102] })) (Int.toNat (Int.tmod (↑(UInt8.toNat (List.getD s i 0)) : Int) 16)) 0)) : Int)]))])))))))))) (askB (decide ((↑(UInt8.toNat (List.getD s i 0)) : Int) > 126)) (chkW (decide (Int.toNat (IntKind.wrap .u8 (Int.tdiv (↑(UInt8.toNat (List.getD s i 0)) : Int) 16)) < 16)) (chkW (decide (Int.toNat (Int.tmod (↑(UInt8.toNat (List.getD s i 0)) : Int) 16) < 16)) (∃ (t : TypeId), ∃ (s_1 : Nat), ∃ (cs : List AV), some (AObj.row 5 1 (bv acc)) = some (AObj.row t s_1 cs) ∧ chkW (decide (t = 5)) (chkW (decide (s_1 = 1)) (chkW (decide (List.length cs = List.length acc * 1)) (chkW (decide ((List.length acc + 4) * 1 ≤ 140737488355328)) (chkW (decide (List.length acc + 4 ≤ 9223372036854775807)) (chkW (objClosed (AObj.row 5 1 (cs ++ List.take (4 * 1) (List.drop 0 [AV.int .u8 92, AV.int .u8 120, AV.int .u8 (↑(UInt8.toNat (List.getD (Array.toList (ByteArray.data { data := #[48, 49, 50, 51, 52, 53, 54, 55, 56, 57, 97, 98, 99, 100, 101, 102] })) (Int.toNat (IntKind.wrap .u8 (Int.tdiv (↑(UInt8.toNat (List.getD s i 0)) : Int) 16))) 0)) : Int), AV.int .u8 (↑(UInt8.toNat (List.getD (Array.toList (ByteArray.data { data := #[48, 49, 50, 51, 52, 53, 54, 55, 56, 57, 97, 98, 99, 100, 101, 102] })) (Int.toNat (Int.tmod (↑(UInt8.toNat (List.getD s i 0)) : Int) 16)) 0)) : Int)])))) (K AExit.normal (envOf 51 [(0, AV.str s), (2, AV.str []), (3, AV.sl (some (0, 0)) (List.length acc + 4) (ACap.rel 0)), (4, AV.int .i64 (IntKind.wrap .i64 ((↑i : Int) + 1)))], [AObj.row 5 1 (cs ++ List.take (4 * 1) (List.drop 0 [AV.int .u8 92, AV.int .u8 120, AV.int .u8 (↑(UInt8.toNat (List.getD (Array.toList (ByteArray.data { data := #[48, 49, 50, 51, 52, 53, 54, 55, 56, 57, 97, 98, 99, 100, 101, 102] })) (Int.toNat (IntKind.wrap .u8 (Int.tdiv (↑(UInt8.toNat (List.getD s i 0)) : Int) 16))) 0)) : Int), AV.int .u8 (↑(UInt8.toNat (List.getD (Array.toList (ByteArray.data { data := #[48, 49, 50, 51, 52, 53, 54, 55, 56, 57, 97, 98, 99, 100, 101, 102] })) (Int.toNat (Int.tmod (↑(UInt8.toNat (List.getD s i 0)) : Int) 16)) 0)) : Int)]))])))))))))) (∃ (t : TypeId), ∃ (s_1 : Nat), ∃ (cs : List AV), some (AObj.row 5 1 (bv acc)) = some (AObj.row t s_1 cs) ∧ chkW (decide (t = 5)) (chkW (decide (s_1 = 1)) (chkW (decide (List.length cs = List.length acc * 1)) (chkW (decide ((List.length acc + 1) * 1 ≤ 140737488355328)) (chkW (decide (List.length acc + 1 ≤ 9223372036854775807)) (chkW (objClosed (AObj.row 5 1 (cs ++ List.take (1 * 1) (List.drop 0 [AV.int .u8 (↑(UInt8.toNat (List.getD s i 0)) : Int)])))) (K AExit.normal (envOf 51 [(0, AV.str s), (2, AV.str []), (3, AV.sl (some (0, 0)) (List.length acc + 1) (ACap.rel 0)), (4, AV.int .i64 (IntKind.wrap .i64 ((↑i : Int) + 1)))], [AObj.row 5 1 (cs ++ List.take (1 * 1) (List.drop 0 [AV.int .u8 (↑(UInt8.toNat (List.getD s i 0)) : Int)]))]))))))))))))) (chkW (objClosed (AObj.row 5 1 (bv acc))) (K (AExit.exit 0) (envOf 51 [(0, AV.str s), (2, AV.str []), (3, AV.sl (some (0, 0)) (List.length acc) (ACap.rel 0))], [AObj.row 5 1 (bv acc)])))) = (wpP Tryd.prog C15m 40 (.inl p15_l0) (g15 s i acc) (postX C15m t15 x15 x15 K)) := by kernel_rfl
theorem v15 (s : List UInt8) (R : AV → AHeap → Prop) : ((envOf 51 [(0, AV.str s), (2, AV.str []), (3, AV.sl (some (0, 0)) 1 (ACap.rel 0)), (4, AV.int .i64 0)], [AObj.row 5 1 [AV.int .u8 34]]) = (envOf 51 [(0, AV.str s), (2, AV.str []), (3, AV.sl (some (0, 0)) 1 (ACap.rel 0)), (4, AV.int .i64 0)], [AObj.row 5 1 [AV.int .u8 34]]) ∧ ∃ (t : TypeId), ∃ (s_1 : Nat), ∃ (cs : List AV), some (AObj.row 5 1 (bv (34 :: List.flatMap esc s))) = some (AObj.row t s_1 cs) ∧ chkW (decide (t = 5)) (chkW (decide (s_1 = 1)) (chkW (decide (List.length cs = List.length (34 :: List.flatMap esc s) * 1)) (chkW (decide ((List.length (34 :: List.flatMap esc s) + 1) * 1 ≤ 140737488355328)) (chkW (decide (List.length (34 :: List.flatMap esc s) + 1 ≤ 9223372036854775807)) (∃ (l : List UInt8), strOf [AObj.dead, AObj.row 5 1 [AV.int .u8 34], AObj.row 5 1 (cs ++ List.take (1 * 1) (List.drop 0 [AV.int .u8 34]))] 2 0 (List.length (34 :: List.flatMap esc s) + 1) = some l ∧ R (AV.str l) [AObj.dead, AObj.row 5 1 [AV.int .u8 34], AObj.row 5 1 (cs ++ List.take (1 * 1) (List.drop 0 [AV.int .u8 34]))])))))) = (wpF Tryd.prog (C15 s) 40 p15 [.str s] [] R) := by kernel_rfl
theorem v28 (c : Int) (R : AV → AHeap → Prop) : (askB (decide (c ≥ 97)) (R (AV.int .u8 (IntKind.wrap .u8 (IntKind.wrap .u8 (c - 97) + 10))) []) (R (AV.int .u8 (IntKind.wrap .u8 (c - 48))) [])) = (wpF Tryd.prog C15m 20 p28 [.int .u8 c] [] R) := by kernel_rfl
theorem v13bn (s : List UInt8) (i : Int) (K : AExit → St → Prop) : (askB (decide (i < IntKind.wrap .i64 ((↑(List.length s) : Int) - 1))) (chkW (decide (0 ≤ i)) (chkW (decide (Int.toNat i < List.length s)) (askB ((↑(UInt8.toNat (List.getD s (Int.toNat i) 0)) : Int) == 92) (askB (decide (IntKind.wrap .i64 (i + 1) < IntKind.wrap .i64 ((↑(List.length s) : Int) - 1))) (chkW (decide (0 ≤ IntKind.wrap .i64 (i + 1))) (chkW (decide (Int.toNat (IntKind.wrap .i64 (i + 1)) < List.length s)) (askB ((↑(UInt8.toNat (List.getD s (Int.toNat (IntKind.wrap .i64 (i + 1))) 0)) : Int) != 120) (chkW (decide (0 ≤ IntKind.wrap .i64 (i + 1))) (chkW (decide (Int.toNat (IntKind.wrap .i64 (i + 1)) < List.length s)) (K AExit.normal (envOf 74 [(0, AV.str s), (2, AV.str []), (3, AV.bool false), (4, AV.sl (some (0, 0)) 1 (ACap.rel 0)), (5, AV.int .i64 (IntKind.wrap .i64 (IntKind.wrap .i64 (i + 1) + 1)))], [AObj.row 5 1 [AV.int .u8 (↑(UInt8.toNat (List.getD s (Int.toNat (IntKind.wrap .i64 (i + 1))) 0)) : Int)]])))) (askB ((↑(UInt8.toNat (List.getD s (Int.toNat i) 0)) : Int) == 92) (askB (decide (IntKind.wrap .i64 (i + 3) < IntKind.wrap .i64 ((↑(List.length s) : Int) - 1))) (chkW (decide (0 ≤ IntKind.wrap .i64 (i + 2))) (chkW (decide (Int.toNat (IntKind.wrap .i64 (i + 2)) < List.length s)) (∃ (n : Int), sHex [AV.int .u8 (↑(UInt8.toNat (List.getD s (Int.toNat (IntKind.wrap .i64 (i + 2))) 0)) : Int)] = some (AV.int .u8 n) ∧ chkW (decide (0 ≤ IntKind.wrap .i64 (i + 3))) (chkW (decide (Int.toNat (IntKind.wrap .i64 (i + 3)) < List.length s)) (∃ (n_1 : Int), sHex [AV.int .u8 (↑(UInt8.toNat (List.getD s (Int.toNat (IntKind.wrap .i64 (i + 3))) 0)) : Int)] = some (AV.int .u8 n_1) ∧ K AExit.normal (envOf 74 [(0, AV.str s), (2, AV.str []), (3, AV.bool false), (4, AV.sl (some (0, 0)) 1 (ACap.rel 0)), (5, AV.int .i64 (IntKind.wrap .i64 (IntKind.wrap .i64 (i + 3) + 1)))], [AObj.row 5 1 [AV.int .u8 (IntKind.wrap .u8 (IntKind.wrap .u8 (16 * n) + n_1))]])))))) (K AExit.normal (envOf 74 [(0, AV.str s), (2, AV.str []), (3, AV.bool false), (4, AV.sl (some (0, 0)) 1 (ACap.rel 0)), (5, AV.int .i64 (IntKind.wrap .i64 (i + 1)))], [AObj.row 5 1 [AV.int .u8 (↑(UInt8.toNat (List.getD s (Int.toNat i) 0)) : Int)]]))) (K AExit.normal (envOf 74 [(0, AV.str s), (2, AV.str []), (3, AV.bool false), (4, AV.sl (some (0, 0)) 1 (ACap.rel 0)), (5, AV.int .i64 (IntKind.wrap .i64 (i + 1)))], [AObj.row 5 1 [AV.int .u8 (↑(UInt8.toNat (List.getD s (Int.toNat i) 0)) : Int)]])))))) (askB ((↑(UInt8.toNat (List.getD s (Int.toNat i) 0)) : Int) == 92) (askB (decide (IntKind.wrap .i64 (i + 3) < IntKind.wrap .i64 ((↑(List.length s) : Int) - 1))) (chkW (decide (0 ≤ IntKind.wrap .i64 (i + 2))) (chkW (decide (Int.toNat (IntKind.wrap .i64 (i + 2)) < List.length s)) (∃ (n : Int), sHex [AV.int .u8 (↑(UInt8.toNat (List.getD s (Int.toNat (IntKind.wrap .i64 (i + 2))) 0)) : Int)] = some (AV.int .u8 n) ∧ chkW (decide (0 ≤ IntKind.wrap .i64 (i + 3))) (chkW (decide (Int.toNat (IntKind.wrap .i64 (i + 3)) < List.length s)) (∃ (n_1 : Int), sHex [AV.int .u8 (↑(UInt8.toNat (List.getD s (Int.toNat (IntKind.wrap .i64 (i + 3))) 0)) : Int)] = some (AV.int .u8 n_1) ∧ K AExit.normal (envOf 74 [(0, AV.str s), (2, AV.str []), (3, AV.bool false), (4, AV.sl (some (0, 0)) 1 (ACap.rel 0)), (5, AV.int .i64 (IntKind.wrap .i64 (IntKind.wrap .i64 (i + 3) + 1)))], [AObj.row 5 1 [AV.int .u8 (IntKind.wrap .u8 (IntKind.wrap .u8 (16 * n) + n_1))]])))))) (K AExit.normal (envOf 74 [(0, AV.str s), (2, AV.str []), (3, AV.bool false), (4, AV.sl (some (0, 0)) 1 (ACap.rel 0)), (5, AV.int .i64 (IntKind.wrap .i64 (i + 1)))], [AObj.row 5 1 [AV.int .u8 (↑(UInt8.toNat (List.getD s (Int.toNat i) 0)) : Int)]]))) (K AExit.normal (envOf 74 [(0, AV.str s), (2, AV.str []), (3, AV.bool false), (4, AV.sl (some (0, 0)) 1 (ACap.rel 0)), (5, AV.int .i64 (IntKind.wrap .i64 (i + 1)))], [AObj.row 5 1 [AV.int .u8 (↑(UInt8.toNat (List.getD s (Int.toNat i) 0)) : Int)]])))) (askB ((↑(UInt8.toNat (List.getD s (Int.toNat i) 0)) : Int) == 92) (askB (decide (IntKind.wrap .i64 (i + 3) < IntKind.wrap .i64 ((↑(List.length s) : Int) - 1))) (chkW (decide (0 ≤ IntKind.wrap .i64 (i + 2))) (chkW (decide (Int.toNat (IntKind.wrap .i64 (i + 2)) < List.length s)) (∃ (n : Int), sHex [AV.int .u8 (↑(UInt8.toNat (List.getD s (Int.toNat (IntKind.wrap .i64 (i + 2))) 0)) : Int)] = some (AV.int .u8 n) ∧ chkW (decide (0 ≤ IntKind.wrap .i64 (i + 3))) (chkW (decide (Int.toNat (IntKind.wrap .i64 (i + 3)) < List.length s)) (∃ (n_1 : Int), sHex [AV.int .u8 (↑(UInt8.toNat (List.getD s (Int.toNat (IntKind.wrap .i64 (i + 3))) 0)) : Int)] = some (AV.int .u8 n_1) ∧ K AExit.normal (envOf 74 [(0, AV.str s), (2, AV.str []), (3, AV.bool false), (4, AV.sl (some (0, 0)) 1 (ACap.rel 0)), (5, AV.int .i64 (IntKind.wrap .i64 (IntKind.wrap .i64 (i + 3) + 1)))], [AObj.row 5 1 [AV.int .u8 (IntKind.wrap .u8 (IntKind.wrap .u8 (16 * n) + n_1))]])))))) (K AExit.normal (envOf 74 [(0, AV.str s), (2, AV.str []), (3, AV.bool false), (4, AV.sl (some (0, 0)) 1 (ACap.rel 0)), (5, AV.int .i64 (IntKind.wrap .i64 (i + 1)))], [AObj.row 5 1 [AV.int .u8 (↑(UInt8.toNat (List.getD s (Int.toNat i) 0)) : Int)]]))) (K AExit.normal (envOf 74 [(0, AV.str s), (2, AV.str []), (3, AV.bool false), (4, AV.sl (some (0, 0)) 1 (ACap.rel 0)), (5, AV.int .i64 (IntKind.wrap .i64 (i + 1)))], [AObj.row 5 1 [AV.int .u8 (↑(UInt8.toNat (List.getD s (Int.toNat i) 0)) : Int)]])))))) (K (AExit.exit 0) (envOf 74 [(0, AV.str s), (2, AV.str []), (3, AV.bool false), (4, AV.sl none 0 (ACap.fix 0))], []))) = (wpP Tryd.prog C13l 40 (.inl p13_l0) (n13 s i) (postX C13l t13 x13 x13 K)) := by kernel_rfl
theorem v13b (s : List UInt8) (i : Int) (acc : List UInt8) (K : AExit → St → Prop) : (askB (decide (i < IntKind.wrap .i64 ((↑(List.length s) : Int) - 1))) (chkW (decide (0 ≤ i)) (chkW (decide (Int.toNat i < List.length s)) (askB ((↑(UInt8.toNat (List.getD s (Int.toNat i) 0)) : Int) == 92) (askB (decide (IntKind.wrap .i64 (i + 1) < IntKind.wrap .i64 ((↑(List.length s) : Int) - 1))) (chkW (decide (0 ≤ IntKind.wrap .i64 (i + 1))) (chkW (decide (Int.toNat (IntKind.wrap .i64 (i + 1)) < List.length s)) (askB ((↑(UInt8.toNat (List.getD s (Int.toNat (IntKind.wrap .i64 (i + 1))) 0)) : Int) != 120) (chkW (decide (0 ≤ IntKind.wrap .i64 (i + 1))) (chkW (decide (Int.toNat (IntKind.wrap .i64 (i + 1)) < List.length s)) (∃ (t : TypeId), ∃ (s_1 : Nat), ∃ (cs : List AV), some (AObj.row 5 1 (bv acc)) = some (AObj.row t s_1 cs) ∧ chkW (decide (t = 5)) (chkW (decide (s_1 = 1)) (chkW (decide (List.length cs = List.length acc * 1)) (chkW (decide ((List.length acc + 1) * 1 ≤ 140737488355328)) (chkW (decide (List.length acc + 1 ≤ 9223372036854775807)) (chkW (objClosed (AObj.row 5 1 (cs ++ List.take (1 * 1) (List.drop 0 [AV.int .u8 (↑(UInt8.toNat (List.getD s (Int.toNat (IntKind.wrap .i64 (i + 1))) 0)) : Int)])))) (K AExit.normal (envOf 74 [(0, AV.str s), (2, AV.str []), (3, AV.bool false), (4, AV.sl (some (0, 0)) (List.length acc + 1) (ACap.rel 0)), (5, AV.int .i64 (IntKind.wrap .i64 (IntKind.wrap .i64 (i + 1) + 1)))], [AObj.row 5 1 (cs ++ List.take (1 * 1) (List.drop 0 [AV.int .u8 (↑(UInt8.toNat (List.getD s (Int.toNat (IntKind.wrap .i64 (i + 1))) 0)) : Int)]))])))))))))) (askB ((↑(UInt8.toNat (List.getD s (Int.toNat i) 0)) : Int) == 92) (askB (decide (IntKind.wrap .i64 (i + 3) < IntKind.wrap .i64 ((↑(List.length s) : Int) - 1))) (chkW (decide (0 ≤ IntKind.wrap .i64 (i + 2))) (chkW (decide (Int.toNat (IntKind.wrap .i64 (i + 2)) < List.length s)) (∃ (n : Int), sHex [AV.int .u8 (↑(UInt8.toNat (List.getD s (Int.toNat (IntKind.wrap .i64 (i + 2))) 0)) : Int)] = some (AV.int .u8 n) ∧ chkW (decide (0 ≤ IntKind.wrap .i64 (i + 3))) (chkW (decide (Int.toNat (IntKind.wrap .i64 (i + 3)) < List.length s)) (∃ (n_1 : Int), sHex [AV.int .u8 (↑(UInt8.toNat (List.getD s (Int.toNat (IntKind.wrap .i64 (i + 3))) 0)) : Int)] = some (AV.int .u8 n_1) ∧ ∃ (t : TypeId), ∃ (s_1 : Nat), ∃ (cs : List AV), some (AObj.row 5 1 (bv acc)) = some (AObj.row t s_1 cs) ∧ chkW (decide (t = 5)) (chkW (decide (s_1 = 1)) (chkW (decide (List.length cs = List.length acc * 1)) (chkW (decide ((List.length acc + 1) * 1 ≤ 140737488355328)) (chkW (decide (List.length acc + 1 ≤ 9223372036854775807)) (chkW (objClosed (AObj.row 5 1 (cs ++ List.take (1 * 1) (List.drop 0 [AV.int .u8 (IntKind.wrap .u8 (IntKind.wrap .u8 (16 * n) + n_1))])))) (K AExit.normal (envOf 74 [(0, AV.str s), (2, AV.str []), (3, AV.bool false), (4, AV.sl (some (0, 0)) (List.length acc + 1) (ACap.rel 0)), (5, AV.int .i64 (IntKind.wrap .i64 (IntKind.wrap .i64 (i + 3) + 1)))], [AObj.row 5 1 (cs ++ List.take (1 * 1) (List.drop 0 [AV.int .u8 (IntKind.wrap .u8 (IntKind.wrap .u8 (16 * n) + n_1))]))])))))))))))) (∃ (t : TypeId), ∃ (s_1 : Nat), ∃ (cs : List AV), some (AObj.row 5 1 (bv acc)) = some (AObj.row t s_1 cs) ∧ chkW (decide (t = 5)) (chkW (decide (s_1 = 1)) (chkW (decide (List.length cs = List.length acc * 1)) (chkW (decide ((List.length acc + 1) * 1 ≤ 140737488355328)) (chkW (decide (List.length acc + 1 ≤ 9223372036854775807)) (chkW (objClosed (AObj.row 5 1 (cs ++ List.take (1 * 1) (List.drop 0 [AV.int .u8 (↑(UInt8.toNat (List.getD s (Int.toNat i) 0)) : Int)])))) (K AExit.normal (envOf 74 [(0, AV.str s), (2, AV.str []), (3, AV.bool false), (4, AV.sl (some (0, 0)) (List.length acc + 1) (ACap.rel 0)), (5, AV.int .i64 (IntKind.wrap .i64 (i + 1)))], [AObj.row 5 1 (cs ++ List.take (1 * 1) (List.drop 0 [AV.int .u8 (↑(UInt8.toNat (List.getD s (Int.toNat i) 0)) : Int)]))]))))))))) (∃ (t : TypeId), ∃ (s_1 : Nat), ∃ (cs : List AV), some (AObj.row 5 1 (bv acc)) = some (AObj.row t s_1 cs) ∧ chkW (decide (t = 5)) (chkW (decide (s_1 = 1)) (chkW (decide (List.length cs = List.length acc * 1)) (chkW (decide ((List.length acc + 1) * 1 ≤ 140737488355328)) (chkW (decide (List.length acc + 1 ≤ 9223372036854775807)) (chkW (objClosed (AObj.row 5 1 (cs ++ List.take (1 * 1) (List.drop 0 [AV.int .u8 (↑(UInt8.toNat (List.getD s (Int.toNat i) 0)) : Int)])))) (K AExit.normal (envOf 74 [(0, AV.str s), (2, AV.str []), (3, AV.bool false), (4, AV.sl (some (0, 0)) (List.length acc + 1) (ACap.rel 0)), (5, AV.int .i64 (IntKind.wrap .i64 (i + 1)))], [AObj.row 5 1 (cs ++ List.take (1 * 1) (List.drop 0 [AV.int .u8 (↑(UInt8.toNat (List.getD s (Int.toNat i) 0)) : Int)]))])))))))))))) (askB ((↑(UInt8.toNat (List.getD s (Int.toNat i) 0)) : Int) == 92) (askB (decide (IntKind.wrap .i64 (i + 3) < IntKind.wrap .i64 ((↑(List.length s) : Int) - 1))) (chkW (decide (0 ≤ IntKind.wrap .i64 (i + 2))) (chkW (decide (Int.toNat (IntKind.wrap .i64 (i + 2)) < List.length s)) (∃ (n : Int), sHex [AV.int .u8 (↑(UInt8.toNat (List.getD s (Int.toNat (IntKind.wrap .i64 (i + 2))) 0)) : Int)] = some (AV.int .u8 n) ∧ chkW (decide (0 ≤ IntKind.wrap .i64 (i + 3))) (chkW (decide (Int.toNat (IntKind.wrap .i64 (i + 3)) < List.length s)) (∃ (n_1 : Int), sHex [AV.int .u8 (↑(UInt8.toNat (List.getD s (Int.toNat (IntKind.wrap .i64 (i + 3))) 0)) : Int)] = some (AV.int .u8 n_1) ∧ ∃ (t : TypeId), ∃ (s_1 : Nat), ∃ (cs : List AV), some (AObj.row 5 1 (bv acc)) = some (AObj.row t s_1 cs) ∧ chkW (decide (t = 5)) (chkW (decide (s_1 = 1)) (chkW (decide (List.length cs = List.length acc * 1)) (chkW (decide ((List.length acc + 1) * 1 ≤ 140737488355328)) (chkW (decide (List.length acc + 1 ≤ 9223372036854775807)) (chkW (objClosed (AObj.row 5 1 (cs ++ List.take (1 * 1) (List.drop 0 [AV.int .u8 (IntKind.wrap .u8 (IntKind.wrap .u8 (16 * n) + n_1))])))) (K AExit.normal (envOf 74 [(0, AV.str s), (2, AV.str []), (3, AV.bool false), (4, AV.sl (some (0, 0)) (List.length acc + 1) (ACap.rel 0)), (5, AV.int .i64 (IntKind.wrap .i64 (IntKind.wrap .i64 (i + 3) + 1)))], [AObj.row 5 1 (cs ++ List.take (1 * 1) (List.drop 0 [AV.int .u8 (IntKind.wrap .u8 (IntKind.wrap .u8 (16 * n) + n_1))]))])))))))))))) (∃ (t : TypeId), ∃ (s_1 : Nat), ∃ (cs : List AV), some (AObj.row 5 1 (bv acc)) = some (AObj.row t s_1 cs) ∧ chkW (decide (t = 5)) (chkW (decide (s_1 = 1)) (chkW (decide (List.length cs = List.length acc * 1)) (chkW (decide ((List.length acc + 1) * 1 ≤ 140737488355328)) (chkW (decide (List.length acc + 1 ≤ 9223372036854775807)) (chkW (objClosed (AObj.row 5 1 (cs ++ List.take (1 * 1) (List.drop 0 [AV.int .u8 (↑(UInt8.toNat (List.getD s (Int.toNat i) 0)) : Int)])))) (K AExit.normal (envOf 74 [(0, AV.str s), (2, AV.str []), (3, AV.bool false), (4, AV.sl (some (0, 0)) (List.length acc + 1) (ACap.rel 0)), (5, AV.int .i64 (IntKind.wrap .i64 (i + 1)))], [AObj.row 5 1 (cs ++ List.take (1 * 1) (List.drop 0 [AV.int .u8 (↑(UInt8.toNat (List.getD s (Int.toNat i) 0)) : Int)]))]))))))))) (∃ (t : TypeId), ∃ (s_1 : Nat), ∃ (cs : List AV), some (AObj.row 5 1 (bv acc)) = some (AObj.row t s_1 cs) ∧ chkW (decide (t = 5)) (chkW (decide (s_1 = 1)) (chkW (decide (List.length cs = List.length acc * 1)) (chkW (decide ((List.length acc + 1) * 1 ≤ 140737488355328)) (chkW (decide (List.length acc + 1 ≤ 9223372036854775807)) (chkW (objClosed (AObj.row 5 1 (cs ++ List.take (1 * 1) (List.drop 0 [AV.int .u8 (↑(UInt8.toNat (List.getD s (Int.toNat i) 0)) : Int)])))) (K AExit.normal (envOf 74 [(0, AV.str s), (2, AV.str []), (3, AV.bool false), (4, AV.sl (some (0, 0)) (List.length acc + 1) (ACap.rel 0)), (5, AV.int .i64 (IntKind.wrap .i64 (i + 1)))], [AObj.row 5 1 (cs ++ List.take (1 * 1) (List.drop 0 [AV.int .u8 (↑(UInt8.toNat (List.getD s (Int.toNat i) 0)) : Int)]))])))))))))) (askB ((↑(UInt8.toNat (List.getD s (Int.toNat i) 0)) : Int) == 92) (askB (decide (IntKind.wrap .i64 (i + 3) < IntKind.wrap .i64 ((↑(List.length s) : Int) - 1))) (chkW (decide (0 ≤ IntKind.wrap .i64 (i + 2))) (chkW (decide (Int.toNat (IntKind.wrap .i64 (i + 2)) < List.length s)) (∃ (n : Int), sHex [AV.int .u8 (↑(UInt8.toNat (List.getD s (Int.toNat (IntKind.wrap .i64 (i + 2))) 0)) : Int)] = some (AV.int .u8 n) ∧ chkW (decide (0 ≤ IntKind.wrap .i64 (i + 3))) (chkW (decide (Int.toNat (IntKind.wrap .i64 (i + 3)) < List.length s)) (∃ (n_1 : Int), sHex [AV.int .u8 (↑(UInt8.toNat (List.getD s (Int.toNat (IntKind.wrap .i64 (i + 3))) 0)) : Int)] = some (AV.int .u8 n_1) ∧ ∃ (t : TypeId), ∃ (s_1 : Nat), ∃ (cs : List AV), some (AObj.row 5 1 (bv acc)) = some (AObj.row t s_1 cs) ∧ chkW (decide (t = 5)) (chkW (decide (s_1 = 1)) (chkW (decide (List.length cs = List.length acc * 1)) (chkW (decide ((List.length acc + 1) * 1 ≤ 140737488355328)) (chkW (decide (List.length acc + 1 ≤ 9223372036854775807)) (chkW (objClosed (AObj.row 5 1 (cs ++ List.take (1 * 1) (List.drop 0 [AV.int .u8 (IntKind.wrap .u8 (IntKind.wrap .u8 (16 * n) + n_1))])))) (K AExit.normal (envOf 74 [(0, AV.str s), (2, AV.str []), (3, AV.bool false), (4, AV.sl (some (0, 0)) (List.length acc + 1) (ACap.rel 0)), (5, AV.int .i64 (IntKind.wrap .i64 (IntKind.wrap .i64 (i + 3) + 1)))], [AObj.row 5 1 (cs ++ List.take (1 * 1) (List.drop 0 [AV.int .u8 (IntKind.wrap .u8 (IntKind.wrap .u8 (16 * n) + n_1))]))])))))))))))) (∃ (t : TypeId), ∃ (s_1 : Nat), ∃ (cs : List AV), some (AObj.row 5 1 (bv acc)) = some (AObj.row t s_1 cs) ∧ chkW (decide (t = 5)) (chkW (decide (s_1 = 1)) (chkW (decide (List.length cs = List.length acc * 1)) (chkW (decide ((List.length acc + 1) * 1 ≤ 140737488355328)) (chkW (decide (List.length acc + 1 ≤ 9223372036854775807)) (chkW (objClosed (AObj.row 5 1 (cs ++ List.take (1 * 1) (List.drop 0 [AV.int .u8 (↑(UInt8.toNat (List.getD s (Int.toNat i) 0)) : Int)])))) (K AExit.normal (envOf 74 [(0, AV.str s), (2, AV.str []), (3, AV.bool false), (4, AV.sl (some (0, 0)) (List.length acc + 1) (ACap.rel 0)), (5, AV.int .i64 (IntKind.wrap .i64 (i + 1)))], [AObj.row 5 1 (cs ++ List.take (1 * 1) (List.drop 0 [AV.int .u8 (↑(UInt8.toNat (List.getD s (Int.toNat i) 0)) : Int)]))]))))))))) (∃ (t : TypeId), ∃ (s_1 : Nat), ∃ (cs : List AV), some (AObj.row 5 1 (bv acc)) = some (AObj.row t s_1 cs) ∧ chkW (decide (t = 5)) (chkW (decide (s_1 = 1)) (chkW (decide (List.length cs = List.length acc * 1)) (chkW (decide ((List.length acc + 1) * 1 ≤ 140737488355328)) (chkW (decide (List.length acc + 1 ≤ 9223372036854775807)) (chkW (objClosed (AObj.row 5 1 (cs ++ List.take (1 * 1) (List.drop 0 [AV.int .u8 (↑(UInt8.toNat (List.getD s (Int.toNat i) 0)) : Int)])))) (K AExit.normal (envOf 74 [(0, AV.str s), (2, AV.str []), (3, AV.bool false), (4, AV.sl (some (0, 0)) (List.length acc + 1) (ACap.rel 0)), (5, AV.int .i64 (IntKind.wrap .i64 (i + 1)))], [AObj.row 5 1 (cs ++ List.take (1 * 1) (List.drop 0 [AV.int .u8 (↑(UInt8.toNat (List.getD s (Int.toNat i) 0)) : Int)]))])))))))))))) (chkW (objClosed (AObj.row 5 1 (bv acc))) (K (AExit.exit 0) (envOf 74 [(0, AV.str s), (2, AV.str []), (3, AV.bool false), (4, AV.sl (some (0, 0)) (List.length acc) (ACap.rel 0))], [AObj.row 5 1 (bv acc)])))) = (wpP Tryd.prog C13m 40 (.inl p13_l0) (h13 s i acc) (postX C13m t13 x13 x13 K)) := by kernel_rfl
theorem v13 (s : List UInt8) (R : AV → AHeap → Prop) : ((envOf 74 [(0, AV.str s), (2, AV.str []), (3, AV.bool false), (4, AV.sl none 0 (ACap.fix 0)), (5, AV.int .i64 1)], ([] : AHeap)) = (envOf 74 [(0, AV.str s), (2, AV.str []), (3, AV.bool false), (4, AV.sl none 0 (ACap.fix 0)), (5, AV.int .i64 1)], []) ∧ askB (List.isEmpty (refF s)) (∃ (s_1 : List UInt8), some (AV.str [34, 34]) = some (AV.str s_1) ∧ askB (!s_1 == s) (R (AV.tup [AV.str [], AV.bool false]) []) (R (AV.tup [AV.str [], AV.bool true]) [])) (∃ (l : List UInt8), strOf [AObj.row 5 1 (bv (refF s))] 0 0 (List.length (refF s)) = some l ∧ ∃ (s_1 : List UInt8), sQuoteR [AV.str l] = some (AV.str s_1) ∧ askB (!s_1 == s) (R (AV.tup [AV.str [], AV.bool false]) [AObj.row 5 1 (bv (refF s))]) (∃ (l : List UInt8), strOf [AObj.row 5 1 (bv (refF s))] 0 0 (List.length (refF s)) = some l ∧ R (AV.tup [AV.str l, AV.bool true]) [AObj.row 5 1 (bv (refF s))]))) = (wpF Tryd.prog (C13 s) 40 p13 [.str s] [] R) := by kernel_rfl

/- The document's Quote, hex and Unquote: their contracts. -/

theorem hexL (n : Nat) (h : n < 16) : List.getD (Array.toList (ByteArray.data { data := #[48, 49, 50, 51, 52, 53, 54, 55, 56, 57, 97, 98, 99, 100, 101, 102] })) n 0 = hexd n := by
  have : ∀ m : Fin 16, List.getD (Array.toList (ByteArray.data { data := #[48, 49, 50, 51, 52, 53, 54, 55, 56, 57, 97, 98, 99, 100, 101, 102] })) m.1 0 = hexd m.1 := by decide +kernel
  exact this ⟨n, h⟩
theorem divN (c : UInt8) : Int.toNat (IntKind.wrap .u8 (Int.tdiv ((c.toNat : Nat) : Int) 16)) = c.toNat / 16 := by
  have := c.toNat_lt
  rw [Int.tdiv_eq_ediv_of_nonneg (by omega), IntKind.wrap_u8]; omega
theorem modN (c : UInt8) : Int.toNat (Int.tmod ((c.toNat : Nat) : Int) 16) = c.toNat % 16 := by
  rw [Int.tmod_eq_emod_of_nonneg (by omega)]; omega
theorem bv_apps (l r : List UInt8) : bv (l ++ r) = bv l ++ bv r := by simp [bv]
theorem take_succ {s : List UInt8} {i : Nat} (h : i < s.length) : s.take (i + 1) = s.take i ++ [s.getD i 0] := by
  rw [List.take_add_one, List.getElem?_eq_getElem h, List.getD_eq_getElem?_getD, List.getElem?_eq_getElem h]; rfl
theorem esc_sp {c : UInt8} (h : c.toNat = 34 ∨ c.toNat = 92) : esc c = [92, c] := by unfold esc; rw [if_neg (by omega), if_pos h]
theorem esc_hx {c : UInt8} (h : c.toNat < 32 ∨ 126 < c.toNat) : esc c = [92, 120, hexd (c.toNat / 16), hexd (c.toNat % 16)] := by unfold esc; rw [if_pos h]
theorem esc_pl {c : UInt8} (h : ¬ (c.toNat < 32 ∨ 126 < c.toNat)) (h2 : ¬ (c.toNat = 34 ∨ c.toNat = 92)) : esc c = [c] := by unfold esc; rw [if_neg h, if_neg h2]

theorem loop15 (s : List UInt8) (hn : s.length ≤ 1099511627900) : ∀ i : Nat, i ≤ s.length → W Tryd.prog (tbS Q []) 0 (.inl (.loop p15_l0)) (g15 s i (34 :: (s.take i).flatMap esc)) (fun e st => e = .exit 0 ∧ st = e15 s (34 :: s.flatMap esc)) := by
  have hcw : CwOK (tbS Q []) (tbW Q []) := tbW_ok rfl
  refine W_roundsG (P := Tryd.prog) (fun i => g15 s i (34 :: (s.take i).flatMap esc)) (fun i => i ≤ s.length) (fun i => s.length - i) (fun _ e st => e = .exit 0 ∧ st = e15 s (34 :: s.flatMap esc)) ?_
  intro i hi
  obtain ⟨acc, hacc⟩ : ∃ acc, acc = 34 :: (s.take i).flatMap esc := ⟨_, rfl⟩
  have hal : acc.length ≤ 4 * s.length + 1 := by
    have h1 := esc_sum (s.take i)
    have h2 : (s.take i).length ≤ s.length := by simp; omega
    rw [hacc, List.length_cons]; omega
  rw [← hacc]
  refine W_wpX (C := C15m) hcw (by intro x hx; cases hx) (n := 40) (tn := t15) (tx := x15) (tr := x15) ((v15b s i acc _).mp ?_)
  by_cases hlt : i < s.length
  · have go : ∀ (bs : List UInt8) (src : List AV) (m : Nat), esc (s.getD i 0) = bs → src = bv bs → m = bs.length →
        ∃ s' : Nat, ((envOf 51 [(0, .str s), (2, .str []), (3, .sl (some (0, 0)) (acc.length + m) (.rel 0)), (4, .int .i64 (IntKind.wrap .i64 ((i : Int) + 1)))], [.row 5 1 (bv acc ++ src)]) : St) = g15 s s' (34 :: (s.take s').flatMap esc) ∧ s' ≤ s.length ∧ s.length - s' < s.length - i ∧ ∀ e st, (e = AExit.exit 0 ∧ st = e15 s (34 :: s.flatMap esc)) → (e = AExit.exit 0 ∧ st = e15 s (34 :: s.flatMap esc)) := by
      rintro bs src m hb rfl rfl
      refine ⟨i + 1, ?_, by omega, by omega, fun e st h => h⟩
      have hw : IntKind.wrap .i64 ((i : Int) + 1) = ((i + 1 : Nat) : Int) := by rw [IntKind.wrap_i64]; omega
      have ha : (34 : UInt8) :: (s.take (i + 1)).flatMap esc = acc ++ bs := by rw [take_succ hlt, List.flatMap_append, List.flatMap_singleton, hb, hacc]; rfl
      rw [ha, hw, ← bv_apps, ← List.length_append]
      rfl
    have hu := (s.getD i 0).toNat_lt
    simp only [divN, modN, hexL _ (show (s.getD i 0).toNat / 16 < 16 by omega), hexL _ (show (s.getD i 0).toNat % 16 < 16 by omega)]
    refine askT (by simp; omega) (chkI (by simpa using hlt) (askI (fun h1 => ?_) fun h1 => askI (fun h2 => ?_) fun h2 => askI (fun h3 => ?_) fun h3 => askI (fun h4 => ?_) fun h4 => ?_))
    · simp only [beq_iff_eq] at h1
      exact ⟨5, 1, _, rfl, chkI rfl (chkI rfl (chkI (by rw [bv_len]; simp) (chkI (by simp; omega) (chkI (by simp; omega) (chkI (by show AV.refsL _ _ _ = true; rw [refsL_eq, List.all_append, ← refsL_eq, bv_closed]; rfl) (go [92, s.getD i 0] _ 2 (esc_sp (by omega)) rfl rfl))))))⟩
    · simp only [beq_iff_eq] at h2
      exact ⟨5, 1, _, rfl, chkI rfl (chkI rfl (chkI (by rw [bv_len]; simp) (chkI (by simp; omega) (chkI (by simp; omega) (chkI (by show AV.refsL _ _ _ = true; rw [refsL_eq, List.all_append, ← refsL_eq, bv_closed]; rfl) (go [92, s.getD i 0] _ 2 (esc_sp (by omega)) rfl rfl))))))⟩
    · simp only [decide_eq_true_eq] at h3
      refine chkI (decide_eq_true (by omega)) (chkI (decide_eq_true (by omega)) ?_)
      exact ⟨5, 1, _, rfl, chkI rfl (chkI rfl (chkI (by rw [bv_len]; simp) (chkI (by simp; omega) (chkI (by simp; omega) (chkI (by show AV.refsL _ _ _ = true; rw [refsL_eq, List.all_append, ← refsL_eq, bv_closed]; rfl) (go [92, 120, hexd ((s.getD i 0).toNat / 16), hexd ((s.getD i 0).toNat % 16)] _ 4 (esc_hx (by omega)) rfl rfl))))))⟩
    · simp only [decide_eq_true_eq] at h4
      refine chkI (decide_eq_true (by omega)) (chkI (decide_eq_true (by omega)) ?_)
      exact ⟨5, 1, _, rfl, chkI rfl (chkI rfl (chkI (by rw [bv_len]; simp) (chkI (by simp; omega) (chkI (by simp; omega) (chkI (by show AV.refsL _ _ _ = true; rw [refsL_eq, List.all_append, ← refsL_eq, bv_closed]; rfl) (go [92, 120, hexd ((s.getD i 0).toNat / 16), hexd ((s.getD i 0).toNat % 16)] _ 4 (esc_hx (by omega)) rfl rfl))))))⟩
    · simp only [beq_eq_false_iff_ne, ne_eq, decide_eq_false_iff_not] at h1 h2 h3 h4
      exact ⟨5, 1, _, rfl, chkI rfl (chkI rfl (chkI (by rw [bv_len]; simp) (chkI (by simp; omega) (chkI (by simp; omega) (chkI (by show AV.refsL _ _ _ = true; rw [refsL_eq, List.all_append, ← refsL_eq, bv_closed]; rfl) (go [s.getD i 0] _ 1 (esc_pl (by omega) (by omega)) rfl rfl))))))⟩
  · refine askF (by simp; omega) (chkI (bv_ocl _) ⟨rfl, ?_⟩)
    rw [hacc, List.take_of_length_le (by omega)]
    rfl

theorem quoteR_ok : QuietOK Tryd.prog 15 fun vs _ => sQuoteR vs := quiet_plain ht15 fun args v h => by
  unfold sQuoteR at h
  split at h
  · rename_i s
    split at h
    · rename_i hs
      cases h
      refine ⟨rfl, rfl, ?_⟩
      have hS : (tbS Q []).OK Tryd.prog := tbS_ok quietText (by simp)
      have hw := (v15 s fun u _ => u = .str (quoteL s)).mp (by
        have hl := esc_sum s
        refine ⟨rfl, 5, 1, _, rfl, chkI rfl (chkI rfl (chkI (by rw [bv_len]; simp) (chkI (decide_eq_true (by simp only [List.length_cons]; omega)) (chkI (decide_eq_true (by simp only [List.length_cons]; omega)) ⟨quoteL s, ?_, rfl⟩))))⟩
        have he : bv (34 :: s.flatMap esc) ++ [.int .u8 34] = bv (quoteL s) := by
          show _ = bv ((34 :: s.flatMap esc) ++ [34])
          rw [bv_app]; rfl
        have hk : cellsAt [.dead, .row 5 1 [.int .u8 34], .row 5 1 (bv (34 :: s.flatMap esc) ++ [.int .u8 34])] 2 = some (bv (quoteL s)) := by rw [he]; rfl
        have := strOf_bv _ (quoteL s) 2 hk
        have e2 : (quoteL s).length = (34 :: s.flatMap esc).length + 1 := by unfold quoteL; simp
        rw [e2] at this
        exact this)
      obtain ⟨u, h', rfl, hsem⟩ := sem_wp mixed (C := C15 s) hS (tbS_q _ _) (tbW_ok rfl) ht15 c15 (one_part rfl (part_loop (id := 3) rfl rfl fun st K hT => by
        obtain ⟨rfl, hk⟩ := hT
        refine W_mono (loop15 s hs 0 (by omega)) fun e st' he => ?_
        obtain ⟨rfl, rfl⟩ := he
        exact hk)) hw
      exact ⟨h', hsem⟩
    · cases h
  · cases h

theorem sHex_at (c : UInt8) : sHex [.int .u8 (c.toNat : Int)] = some (.int .u8 (hexv c).toNat) := by
  have h := c.toNat_lt
  show (if 0 ≤ ((c.toNat : Nat) : Int) ∧ ((c.toNat : Nat) : Int) < 256 then _ else _) = _
  rw [if_pos (by omega), u8_back]
theorem hex_ok : QuietOK Tryd.prog 28 fun vs _ => sHex vs := quiet_plain ht28 fun args v h => by
  unfold sHex at h
  split at h
  · rename_i c
    split at h
    · rename_i hc
      cases h
      refine ⟨rfl, rfl, ?_⟩
      have hS : (tbS Q []).OK Tryd.prog := tbS_ok quietText (by simp)
      have hw := (v28 c fun u _ => u = .int .u8 (hexv c.toNat.toUInt8).toNat).mp (by
        obtain ⟨n, rfl⟩ : ∃ n : Nat, c = n := ⟨c.toNat, by omega⟩
        have hn : n < 256 := by omega
        have h1 : ∀ m : Fin 256, 97 ≤ m.1 → IntKind.wrap .u8 (IntKind.wrap .u8 ((m.1 : Int) - 97) + 10) = ((hexv m.1.toUInt8).toNat : Int) := by decide +kernel
        have h2 : ∀ m : Fin 256, ¬ 97 ≤ m.1 → IntKind.wrap .u8 ((m.1 : Int) - 48) = ((hexv m.1.toUInt8).toNat : Int) := by decide +kernel
        refine askI (fun h => ?_) fun h => ?_
        · simp only [decide_eq_true_eq] at h
          rw [h1 ⟨n, hn⟩ (by show 97 ≤ n; omega)]; rfl
        · simp only [decide_eq_false_iff_not] at h
          rw [h2 ⟨n, hn⟩ (by show ¬ 97 ≤ n; omega)]; rfl)
      obtain ⟨u, h', rfl, hsem⟩ := sem_wp mixed (C := C15m) hS (tbS_q _ _) (tbW_ok rfl) ht28 c28 (no_parts rfl) hw
      exact ⟨h', hsem⟩
    · cases h
  · cases h

/- The document's Unquote: its loop and contract. -/

theorem eq92 (c : UInt8) : (((c.toNat : Nat) : Int) == 92) = (c == 92) := by
  have h := ne92 c
  rw [bne, bne] at h
  exact Bool.not_inj h
theorem byteX (a b : UInt8) : IntKind.wrap .u8 (IntKind.wrap .u8 (16 * ((a.toNat : Nat) : Int)) + ((b.toNat : Nat) : Int)) = ((16 * a + b).toNat : Int) := by
  have ha := a.toNat_lt
  have hb := b.toNat_lt
  rw [IntKind.wrap_u8, IntKind.wrap_u8, UInt8.toNat_add, UInt8.toNat_mul]
  have : (16 : UInt8).toNat = 16 := rfl
  rw [this]
  omega
def g13 (s : List UInt8) (p : Nat × Nat × List UInt8) : St := if p.2.2.isEmpty then n13 s p.2.1 else h13 s p.2.1 p.2.2
def x13s (s acc : List UInt8) : St := if acc.isEmpty then xn13 s else xh13 s acc
theorem g13_app (s : List UInt8) (f : Nat) (i : Nat) (acc : List UInt8) (c : UInt8) : g13 s (f, i, acc ++ [c]) = (envOf 74 [(0, .str s), (2, .str []), (3, .bool false), (4, .sl (some (0, 0)) (acc.length + 1) (.rel 0)), (5, .int .i64 i)], [.row 5 1 (bv acc ++ [.int .u8 c.toNat])]) := by
  unfold g13
  have he : (acc ++ [c]).isEmpty = false := by cases acc <;> rfl
  simp only [he, Bool.false_eq_true, if_false]
  unfold h13
  rw [bv_app, List.length_append]
  rfl
theorem loop13 (s : List UInt8) (hn : s.length ≤ 1099511627776) : ∀ p : Nat × Nat × List UInt8, (1 ≤ p.2.1 ∧ s.length + 2 ≤ p.1 + p.2.1 ∧ 1 ≤ p.1 ∧ p.2.2.length ≤ p.2.1) →
    W Tryd.prog (tbS Q tb13) 0 (.inl (.loop p13_l0)) (g13 s p) (fun e st => e = .exit 0 ∧ st = x13s s (refFrom s p.1 p.2.1 p.2.2)) := by
  have hcw : CwOK (tbS Q tb13) (tbW Q tb13) := tbW_ok rfl
  refine W_roundsG (P := Tryd.prog) (g13 s) (fun p => 1 ≤ p.2.1 ∧ s.length + 2 ≤ p.1 + p.2.1 ∧ 1 ≤ p.1 ∧ p.2.2.length ≤ p.2.1) (fun p => p.1) (fun p e st => e = .exit 0 ∧ st = x13s s (refFrom s p.1 p.2.1 p.2.2)) ?_
  rintro ⟨f, i, acc⟩ ⟨h1, h2, h3, h4⟩
  simp only at h1 h2 h3 h4
  obtain ⟨f, rfl⟩ : ∃ g, f = g + 1 := ⟨f - 1, by omega⟩
  have hstop : ¬ (i + 1 < s.length) → refFrom s (f + 1) i acc = acc := fun h => by rw [refFrom, if_neg h]
  have go : ∀ (j : Nat) (c : UInt8), i < j → i + 1 < s.length → refFrom s (f + 1) i acc = refFrom s f j (acc ++ [c]) → ∀ (n' : Nat) (cs : List AV), n' = acc.length + 1 → cs = bv acc ++ [.int .u8 c.toNat] →
      ∃ s', ((envOf 74 [(0, .str s), (2, .str []), (3, .bool false), (4, .sl (some (0, 0)) n' (.rel 0)), (5, .int .i64 (j : Int))], [.row 5 1 cs]) : St) = g13 s s' ∧ (1 ≤ s'.2.1 ∧ s.length + 2 ≤ s'.1 + s'.2.1 ∧ 1 ≤ s'.1 ∧ s'.2.2.length ≤ s'.2.1) ∧ s'.1 < f + 1 ∧ ∀ e st, (e = AExit.exit 0 ∧ st = x13s s (refFrom s s'.1 s'.2.1 s'.2.2)) → (e = AExit.exit 0 ∧ st = x13s s (refFrom s (f + 1) i acc)) := by
    rintro j c hj hlt hu n' cs rfl rfl
    refine ⟨(f, j, acc ++ [c]), by rw [g13_app], ⟨by show 1 ≤ j; omega, by show s.length + 2 ≤ f + j; omega, by show 1 ≤ f; omega, by show (acc ++ [c]).length ≤ j; rw [List.length_append]; simp only [List.length_cons, List.length_nil]; omega⟩, by show f < f + 1; omega, fun e st h => by rw [hu]; exact h⟩
  have w1 : i + 1 < s.length → IntKind.wrap .i64 ((i : Int) + 1) = ((i + 1 : Nat) : Int) := fun _ => by rw [IntKind.wrap_i64]; omega
  have w2 : i + 1 < s.length → IntKind.wrap .i64 ((i : Int) + 2) = ((i + 2 : Nat) : Int) := fun _ => by rw [IntKind.wrap_i64]; omega
  have w3 : i + 1 < s.length → IntKind.wrap .i64 ((i : Int) + 3) = ((i + 3 : Nat) : Int) := fun _ => by rw [IntKind.wrap_i64]; omega
  have w4 : i + 1 < s.length → IntKind.wrap .i64 (((i + 3 : Nat) : Int) + 1) = ((i + 4 : Nat) : Int) := fun _ => by rw [IntKind.wrap_i64]; omega
  have w5 : i + 1 < s.length → IntKind.wrap .i64 (((i + 1 : Nat) : Int) + 1) = ((i + 2 : Nat) : Int) := fun _ => by rw [IntKind.wrap_i64]; omega
  have wl : IntKind.wrap .i64 ((s.length : Int) - 1) = (s.length : Int) - 1 := by rw [IntKind.wrap_i64]; omega
  by_cases hE : acc.isEmpty = true
  · obtain rfl := List.isEmpty_iff.1 hE
    refine W_wpX (C := C13l) hcw (by intro x hx; cases hx) (n := 40) (tn := t13) (tx := x13) (tr := x13) ((v13bn s i _).mp ?_)
    by_cases hlt : i + 1 < s.length
    · simp only [w1 hlt, w2 hlt, w3 hlt, w4 hlt, w5 hlt, wl, Int.toNat_natCast, eq92, ne120]
      refine askT (decide_eq_true (by omega)) (chkI (decide_eq_true (by omega)) (chkI (decide_eq_true (by omega)) ?_))
      refine askI (fun f1 => ?_) fun f1 => ?_
      · refine askI (fun f2 => ?_) fun f2 => ?_
        · simp only [decide_eq_true_eq] at f2
          refine chkI (decide_eq_true (by omega)) (chkI (decide_eq_true (by omega)) (askI (fun f3 => ?_) fun f3 => ?_))
          · refine chkI (decide_eq_true (by omega)) (chkI (decide_eq_true (by omega)) ?_)
            exact go (i + 2) (s.getD (i + 1) 0) (by omega) hlt (by rw [refFrom, if_pos hlt, if_pos (by rw [f1, f3, decide_eq_true (show i + 2 < s.length by omega)]; rfl)]) 1 _ rfl rfl
          · have hno : (s.getD i 0 == 92 && decide (i + 2 < s.length) && s.getD (i + 1) 0 != 120) = false := by rw [f3, Bool.and_false]
            refine askI (fun g1 => ?_) fun g1 => ?_
            · refine askI (fun g2 => ?_) fun g2 => ?_
              · simp only [decide_eq_true_eq] at g2
                refine chkI (decide_eq_true (by omega)) (chkI (decide_eq_true (by omega)) ⟨_, sHex_at _, chkI (decide_eq_true (by omega)) (chkI (decide_eq_true (by omega)) ⟨_, sHex_at _, ?_⟩)⟩)
                rw [byteX]
                exact go (i + 4) (16 * hexv (s.getD (i + 2) 0) + hexv (s.getD (i + 3) 0)) (by omega) hlt (by rw [refFrom, if_pos hlt, if_neg (by rw [hno]; decide), if_pos (by simp only [g1, Bool.true_and]; exact decide_eq_true (by omega))]) 1 _ rfl rfl
              · simp only [decide_eq_false_iff_not] at g2
                exact go (i + 1) (s.getD i 0) (by omega) hlt (by rw [refFrom, if_pos hlt, if_neg (by rw [hno]; decide), if_neg (by rw [decide_eq_false (show ¬ (i + 4 < s.length) by omega), Bool.and_false]; decide)]) 1 _ rfl rfl
            · exact go (i + 1) (s.getD i 0) (by omega) hlt (by rw [refFrom, if_pos hlt, if_neg (by rw [hno]; decide), if_neg (by rw [g1, Bool.false_and]; decide)]) 1 _ rfl rfl
        · simp only [decide_eq_false_iff_not] at f2
          have hno : (s.getD i 0 == 92 && decide (i + 2 < s.length) && s.getD (i + 1) 0 != 120) = false := by rw [decide_eq_false (show ¬ (i + 2 < s.length) by omega), Bool.and_false, Bool.false_and]
          refine askI (fun g1 => ?_) fun g1 => ?_
          · refine askI (fun g2 => ?_) fun g2 => ?_
            · simp only [decide_eq_true_eq] at g2
              refine chkI (decide_eq_true (by omega)) (chkI (decide_eq_true (by omega)) ⟨_, sHex_at _, chkI (decide_eq_true (by omega)) (chkI (decide_eq_true (by omega)) ⟨_, sHex_at _, ?_⟩)⟩)
              rw [byteX]
              exact go (i + 4) (16 * hexv (s.getD (i + 2) 0) + hexv (s.getD (i + 3) 0)) (by omega) hlt (by rw [refFrom, if_pos hlt, if_neg (by rw [hno]; decide), if_pos (by simp only [g1, Bool.true_and]; exact decide_eq_true (by omega))]) 1 _ rfl rfl
            · simp only [decide_eq_false_iff_not] at g2
              exact go (i + 1) (s.getD i 0) (by omega) hlt (by rw [refFrom, if_pos hlt, if_neg (by rw [hno]; decide), if_neg (by rw [decide_eq_false (show ¬ (i + 4 < s.length) by omega), Bool.and_false]; decide)]) 1 _ rfl rfl
          · exact go (i + 1) (s.getD i 0) (by omega) hlt (by rw [refFrom, if_pos hlt, if_neg (by rw [hno]; decide), if_neg (by rw [g1, Bool.false_and]; decide)]) 1 _ rfl rfl
      · have hno : (s.getD i 0 == 92 && decide (i + 2 < s.length) && s.getD (i + 1) 0 != 120) = false := by rw [f1, Bool.false_and, Bool.false_and]
        refine askI (fun g1 => ?_) fun g1 => ?_
        · refine askI (fun g2 => ?_) fun g2 => ?_
          · simp only [decide_eq_true_eq] at g2
            refine chkI (decide_eq_true (by omega)) (chkI (decide_eq_true (by omega)) ⟨_, sHex_at _, chkI (decide_eq_true (by omega)) (chkI (decide_eq_true (by omega)) ⟨_, sHex_at _, ?_⟩)⟩)
            rw [byteX]
            exact go (i + 4) (16 * hexv (s.getD (i + 2) 0) + hexv (s.getD (i + 3) 0)) (by omega) hlt (by rw [refFrom, if_pos hlt, if_neg (by rw [hno]; decide), if_pos (by simp only [g1, Bool.true_and]; exact decide_eq_true (by omega))]) 1 _ rfl rfl
          · simp only [decide_eq_false_iff_not] at g2
            exact go (i + 1) (s.getD i 0) (by omega) hlt (by rw [refFrom, if_pos hlt, if_neg (by rw [hno]; decide), if_neg (by rw [decide_eq_false (show ¬ (i + 4 < s.length) by omega), Bool.and_false]; decide)]) 1 _ rfl rfl
        · exact go (i + 1) (s.getD i 0) (by omega) hlt (by rw [refFrom, if_pos hlt, if_neg (by rw [hno]; decide), if_neg (by rw [g1, Bool.false_and]; decide)]) 1 _ rfl rfl
    · refine askF (by rw [wl]; exact decide_eq_false (by omega)) ?_
      skip
      refine ⟨rfl, ?_⟩
      rw [hstop hlt]
      skip
      rfl
  · have hE : acc.isEmpty = false := by simpa using hE
    have hg : g13 s (f + 1, i, acc) = h13 s i acc := by unfold g13; simp only [hE, Bool.false_eq_true, if_false]
    rw [hg]
    refine W_wpX (C := C13m) hcw (by intro x hx; cases hx) (n := 40) (tn := t13) (tx := x13) (tr := x13) ((v13b s i acc _).mp ?_)
    by_cases hlt : i + 1 < s.length
    · simp only [w1 hlt, w2 hlt, w3 hlt, w4 hlt, w5 hlt, wl, Int.toNat_natCast, eq92, ne120]
      refine askT (decide_eq_true (by omega)) (chkI (decide_eq_true (by omega)) (chkI (decide_eq_true (by omega)) ?_))
      refine askI (fun f1 => ?_) fun f1 => ?_
      · refine askI (fun f2 => ?_) fun f2 => ?_
        · simp only [decide_eq_true_eq] at f2
          refine chkI (decide_eq_true (by omega)) (chkI (decide_eq_true (by omega)) (askI (fun f3 => ?_) fun f3 => ?_))
          · refine chkI (decide_eq_true (by omega)) (chkI (decide_eq_true (by omega)) ?_)
            exact ⟨5, 1, _, rfl, chkI rfl (chkI rfl (chkI (by rw [bv_len]; simp) (chkI (decide_eq_true (by omega)) (chkI (decide_eq_true (by omega)) (chkI (by show AV.refsL _ _ _ = true; rw [refsL_eq, List.all_append, ← refsL_eq, bv_closed]; rfl) (go (i + 2) (s.getD (i + 1) 0) (by omega) hlt (by rw [refFrom, if_pos hlt, if_pos (by rw [f1, f3, decide_eq_true (show i + 2 < s.length by omega)]; rfl)]) _ _ rfl rfl))))))⟩
          · have hno : (s.getD i 0 == 92 && decide (i + 2 < s.length) && s.getD (i + 1) 0 != 120) = false := by rw [f3, Bool.and_false]
            refine askI (fun g1 => ?_) fun g1 => ?_
            · refine askI (fun g2 => ?_) fun g2 => ?_
              · simp only [decide_eq_true_eq] at g2
                refine chkI (decide_eq_true (by omega)) (chkI (decide_eq_true (by omega)) ⟨_, sHex_at _, chkI (decide_eq_true (by omega)) (chkI (decide_eq_true (by omega)) ⟨_, sHex_at _, ?_⟩)⟩)
                rw [byteX]
                exact ⟨5, 1, _, rfl, chkI rfl (chkI rfl (chkI (by rw [bv_len]; simp) (chkI (decide_eq_true (by omega)) (chkI (decide_eq_true (by omega)) (chkI (by show AV.refsL _ _ _ = true; rw [refsL_eq, List.all_append, ← refsL_eq, bv_closed]; rfl) (go (i + 4) (16 * hexv (s.getD (i + 2) 0) + hexv (s.getD (i + 3) 0)) (by omega) hlt (by rw [refFrom, if_pos hlt, if_neg (by rw [hno]; decide), if_pos (by simp only [g1, Bool.true_and]; exact decide_eq_true (by omega))]) _ _ rfl rfl))))))⟩
              · simp only [decide_eq_false_iff_not] at g2
                exact ⟨5, 1, _, rfl, chkI rfl (chkI rfl (chkI (by rw [bv_len]; simp) (chkI (decide_eq_true (by omega)) (chkI (decide_eq_true (by omega)) (chkI (by show AV.refsL _ _ _ = true; rw [refsL_eq, List.all_append, ← refsL_eq, bv_closed]; rfl) (go (i + 1) (s.getD i 0) (by omega) hlt (by rw [refFrom, if_pos hlt, if_neg (by rw [hno]; decide), if_neg (by rw [decide_eq_false (show ¬ (i + 4 < s.length) by omega), Bool.and_false]; decide)]) _ _ rfl rfl))))))⟩
            · exact ⟨5, 1, _, rfl, chkI rfl (chkI rfl (chkI (by rw [bv_len]; simp) (chkI (decide_eq_true (by omega)) (chkI (decide_eq_true (by omega)) (chkI (by show AV.refsL _ _ _ = true; rw [refsL_eq, List.all_append, ← refsL_eq, bv_closed]; rfl) (go (i + 1) (s.getD i 0) (by omega) hlt (by rw [refFrom, if_pos hlt, if_neg (by rw [hno]; decide), if_neg (by rw [g1, Bool.false_and]; decide)]) _ _ rfl rfl))))))⟩
        · simp only [decide_eq_false_iff_not] at f2
          have hno : (s.getD i 0 == 92 && decide (i + 2 < s.length) && s.getD (i + 1) 0 != 120) = false := by rw [decide_eq_false (show ¬ (i + 2 < s.length) by omega), Bool.and_false, Bool.false_and]
          refine askI (fun g1 => ?_) fun g1 => ?_
          · refine askI (fun g2 => ?_) fun g2 => ?_
            · simp only [decide_eq_true_eq] at g2
              refine chkI (decide_eq_true (by omega)) (chkI (decide_eq_true (by omega)) ⟨_, sHex_at _, chkI (decide_eq_true (by omega)) (chkI (decide_eq_true (by omega)) ⟨_, sHex_at _, ?_⟩)⟩)
              rw [byteX]
              exact ⟨5, 1, _, rfl, chkI rfl (chkI rfl (chkI (by rw [bv_len]; simp) (chkI (decide_eq_true (by omega)) (chkI (decide_eq_true (by omega)) (chkI (by show AV.refsL _ _ _ = true; rw [refsL_eq, List.all_append, ← refsL_eq, bv_closed]; rfl) (go (i + 4) (16 * hexv (s.getD (i + 2) 0) + hexv (s.getD (i + 3) 0)) (by omega) hlt (by rw [refFrom, if_pos hlt, if_neg (by rw [hno]; decide), if_pos (by simp only [g1, Bool.true_and]; exact decide_eq_true (by omega))]) _ _ rfl rfl))))))⟩
            · simp only [decide_eq_false_iff_not] at g2
              exact ⟨5, 1, _, rfl, chkI rfl (chkI rfl (chkI (by rw [bv_len]; simp) (chkI (decide_eq_true (by omega)) (chkI (decide_eq_true (by omega)) (chkI (by show AV.refsL _ _ _ = true; rw [refsL_eq, List.all_append, ← refsL_eq, bv_closed]; rfl) (go (i + 1) (s.getD i 0) (by omega) hlt (by rw [refFrom, if_pos hlt, if_neg (by rw [hno]; decide), if_neg (by rw [decide_eq_false (show ¬ (i + 4 < s.length) by omega), Bool.and_false]; decide)]) _ _ rfl rfl))))))⟩
          · exact ⟨5, 1, _, rfl, chkI rfl (chkI rfl (chkI (by rw [bv_len]; simp) (chkI (decide_eq_true (by omega)) (chkI (decide_eq_true (by omega)) (chkI (by show AV.refsL _ _ _ = true; rw [refsL_eq, List.all_append, ← refsL_eq, bv_closed]; rfl) (go (i + 1) (s.getD i 0) (by omega) hlt (by rw [refFrom, if_pos hlt, if_neg (by rw [hno]; decide), if_neg (by rw [g1, Bool.false_and]; decide)]) _ _ rfl rfl))))))⟩
      · have hno : (s.getD i 0 == 92 && decide (i + 2 < s.length) && s.getD (i + 1) 0 != 120) = false := by rw [f1, Bool.false_and, Bool.false_and]
        refine askI (fun g1 => ?_) fun g1 => ?_
        · refine askI (fun g2 => ?_) fun g2 => ?_
          · simp only [decide_eq_true_eq] at g2
            refine chkI (decide_eq_true (by omega)) (chkI (decide_eq_true (by omega)) ⟨_, sHex_at _, chkI (decide_eq_true (by omega)) (chkI (decide_eq_true (by omega)) ⟨_, sHex_at _, ?_⟩)⟩)
            rw [byteX]
            exact ⟨5, 1, _, rfl, chkI rfl (chkI rfl (chkI (by rw [bv_len]; simp) (chkI (decide_eq_true (by omega)) (chkI (decide_eq_true (by omega)) (chkI (by show AV.refsL _ _ _ = true; rw [refsL_eq, List.all_append, ← refsL_eq, bv_closed]; rfl) (go (i + 4) (16 * hexv (s.getD (i + 2) 0) + hexv (s.getD (i + 3) 0)) (by omega) hlt (by rw [refFrom, if_pos hlt, if_neg (by rw [hno]; decide), if_pos (by simp only [g1, Bool.true_and]; exact decide_eq_true (by omega))]) _ _ rfl rfl))))))⟩
          · simp only [decide_eq_false_iff_not] at g2
            exact ⟨5, 1, _, rfl, chkI rfl (chkI rfl (chkI (by rw [bv_len]; simp) (chkI (decide_eq_true (by omega)) (chkI (decide_eq_true (by omega)) (chkI (by show AV.refsL _ _ _ = true; rw [refsL_eq, List.all_append, ← refsL_eq, bv_closed]; rfl) (go (i + 1) (s.getD i 0) (by omega) hlt (by rw [refFrom, if_pos hlt, if_neg (by rw [hno]; decide), if_neg (by rw [decide_eq_false (show ¬ (i + 4 < s.length) by omega), Bool.and_false]; decide)]) _ _ rfl rfl))))))⟩
        · exact ⟨5, 1, _, rfl, chkI rfl (chkI rfl (chkI (by rw [bv_len]; simp) (chkI (decide_eq_true (by omega)) (chkI (decide_eq_true (by omega)) (chkI (by show AV.refsL _ _ _ = true; rw [refsL_eq, List.all_append, ← refsL_eq, bv_closed]; rfl) (go (i + 1) (s.getD i 0) (by omega) hlt (by rw [refFrom, if_pos hlt, if_neg (by rw [hno]; decide), if_neg (by rw [g1, Bool.false_and]; decide)]) _ _ rfl rfl))))))⟩
    · refine askF (by rw [wl]; exact decide_eq_false (by omega)) ?_
      refine chkI (bv_ocl _) ?_
      refine ⟨rfl, ?_⟩
      rw [hstop hlt]
      unfold x13s
      simp only [hE, Bool.false_eq_true, if_false]
      rfl


/- The document's Unquote: its contract; the law's calls. -/

def refUnqF (s : List UInt8) : List UInt8 × Bool := if (quoteL (refF s) != s) = true then ([], false) else (refF s, true)
theorem ru_bad {s : List UInt8} (hq : (quoteL (refF s) != s) = true) : refUnqF s = ([], false) := if_pos hq
theorem ru_ok {s : List UInt8} (hq : (quoteL (refF s) != s) = false) : refUnqF s = (refF s, true) := if_neg (by rw [hq]; decide)
def sRefUnq : List AV → Option AV
  | [.str s] => if s.length ≤ 1099511627776 then some (.tup [.str (refUnqF s).1, .bool (refUnqF s).2]) else none
  | _ => none
theorem ref_len {s : List UInt8} : ∀ (f i : Nat) (acc : List UInt8), acc.length ≤ i → acc.length ≤ s.length + 4 → (refFrom s f i acc).length ≤ s.length + 4
  | 0, _, acc, _, hs => by simpa [refFrom] using hs
  | f + 1, i, acc, hi, hs => by
    have ap : ∀ c : UInt8, (acc ++ [c]).length = acc.length + 1 := fun c => by simp
    rw [refFrom]
    split
    · split
      · exact ref_len f _ _ (by rw [ap]; omega) (by rw [ap]; omega)
      · split
        · exact ref_len f _ _ (by rw [ap]; omega) (by rw [ap]; omega)
        · exact ref_len f _ _ (by rw [ap]; omega) (by rw [ap]; omega)
    · exact hs

theorem refUnq_ok : QuietOK Tryd.prog 13 fun vs _ => sRefUnq vs := quiet_plain ht13 fun args v h => by
  unfold sRefUnq at h
  split at h
  · rename_i s
    split at h
    · rename_i hs
      cases h
      refine ⟨rfl, rfl, ?_⟩
      have hS : (tbS Q tb13).OK Tryd.prog := tbS_ok quietText (by
        intro x hx
        simp only [tb13, List.mem_cons, List.not_mem_nil, or_false] at hx
        rcases hx with rfl | rfl
        · exact hex_ok
        · exact quoteR_ok)
      have hw := (v13 s fun u _ => u = .tup [.str (refUnqF s).1, .bool (refUnqF s).2]).mp (by
        refine ⟨rfl, ?_⟩
        have hb : (refF s).length ≤ s.length + 4 := ref_len _ _ _ (by simp) (by simp)
        have hl := strOf_bv [.row 5 1 (bv (refF s))] (refF s) 0 rfl
        have hquo : ∀ l : List UInt8, l.length ≤ s.length + 4 → sQuoteR [.str l] = some (.str (quoteL l)) := fun l h => if_pos (by omega)
        by_cases hE : refF s = []
        · refine askT (by rw [hE]; rfl) ⟨quoteL [], hquo [] (by simp), askI (fun hq => ?_) fun hq => ?_⟩
          · rw [ru_bad (by rw [hE]; exact hq)]
          · rw [ru_ok (by rw [hE]; exact hq), hE]
        · have hE2 : (refF s).isEmpty = false := by
            cases h : refF s with
            | nil => exact absurd h hE
            | cons _ _ => rfl
          refine askF hE2 ⟨refF s, hl, quoteL (refF s), hquo _ hb, askI (fun hq => ?_) fun hq => ⟨refF s, hl, ?_⟩⟩
          · rw [ru_bad hq]
          · rw [ru_ok hq])
      obtain ⟨u, h', rfl, hsem⟩ := sem_wp mixed (C := C13 s) hS (tbS_q _ _) (tbW_ok rfl) ht13 c13 (one_part rfl (part_loop (id := 3) rfl rfl fun st K hT => by
        obtain ⟨rfl, hk⟩ := hT
        refine W_mono (loop13 s hs (s.length + 1, 1, []) ⟨by simp, by simp, by simp, by simp⟩) fun e st' he => ?_
        obtain ⟨rfl, rfl⟩ := he
        have hu : refFrom s (s.length + 1) 1 [] = refF s := rfl
        simp only [hu]
        unfold x13s
        rcases askD hk with ⟨h3, h4⟩ | ⟨h3, h4⟩
        · rw [if_pos h3]; exact h4
        · rw [if_neg (by rw [h3]; decide)]; exact h4)) hw
      exact ⟨h', hsem⟩
    · cases h
  · cases h

noncomputable def sLive : List AV → AHeap → Option AV := fun vs _ => @ite _ (vs = []) (Classical.propDecidable _) (some (.bool true)) none
noncomputable def tb4 : List TbE := [⟨10, sLive, .of (.one .bool)⟩, ⟨12, fun vs _ => sUnquote vs, .tup [.one .str, .one .bool]⟩, ⟨13, fun vs _ => sRefUnq vs, .tup [.one .str, .one .bool]⟩, ⟨14, fun vs _ => sQuote vs, .of (.one .str)⟩, ⟨15, fun vs _ => sQuoteR vs, .of (.one .str)⟩]
noncomputable def C4 : Cfg := tbC Q tb4 (fun _ => false) kdI
theorem tb4_ok : (tbS Q tb4).OK Tryd.prog := tbS_ok quietText (by
  intro x hx
  simp only [tb4, List.mem_cons, List.not_mem_nil, or_false] at hx
  rcases hx with rfl | rfl | rfl | rfl | rfl
  · exact live_ok
  · exact unquote_ok
  · exact refUnq_ok
  · exact quote_ok
  · exact quoteR_ok)

/-! ### The plain law -/
theorem hexIx_hexd : ∀ n : Nat, n < 16 → hexIx (hexd n) = n := by
  intro n hn
  have : ∀ m : Fin 16, hexIx (hexd m.1) = (m.1 : Int) := by decide +kernel
  exact this ⟨n, hn⟩
theorem hexv_hexd : ∀ n : Nat, n < 16 → (hexv (hexd n)).toNat = n := by
  intro n hn
  have : ∀ m : Fin 16, (hexv (hexd m.1)).toNat = m.1 := by decide +kernel
  exact this ⟨n, hn⟩
theorem two_hex (c : UInt8) : (16 * ((c.toNat / 16 : Nat) : Int) + ((c.toNat % 16 : Nat) : Int)).toNat.toUInt8 = c := by
  have : (16 * ((c.toNat / 16 : Nat) : Int) + ((c.toNat % 16 : Nat) : Int)).toNat = c.toNat := by omega
  rw [this]; simp
theorem two_hexv (c : UInt8) : 16 * hexv (hexd (c.toNat / 16)) + hexv (hexd (c.toNat % 16)) = c := by
  have hc := c.toNat_lt
  apply UInt8.toNat_inj.1
  rw [UInt8.toNat_add, UInt8.toNat_mul, hexv_hexd _ (by omega), hexv_hexd _ (by omega)]
  have : (16 : UInt8).toNat = 16 := rfl
  rw [this]; omega
/-- What stands behind the first quote, from a place on. -/
theorem at_drop {s : List UInt8} {i : Nat} {t : List UInt8} (h : s.drop i = t) (j : Nat) : s.getD (i + j) 0 = t.getD j 0 := by
  rw [← h, List.getD_eq_getElem?_getD, List.getD_eq_getElem?_getD, List.getElem?_drop]
theorem len_drop {s : List UInt8} {i : Nat} {t : List UInt8} (h : s.drop i = t) (ht : 0 < t.length) : s.length = i + t.length := by
  have := congrArg List.length h
  rw [List.length_drop] at this
  omega
theorem drop_drop' {s : List UInt8} {i : Nat} {a t : List UInt8} (h : s.drop i = a ++ t) : s.drop (i + a.length) = t := by
  rw [← List.drop_drop, h, List.drop_append, List.drop_eq_nil_of_le (Nat.le_refl _), Nat.sub_self, List.nil_append, List.drop_zero]
theorem unq_quote (s : List UInt8) : ∀ (l acc : List UInt8) (i f : Nat), s.drop i = l.flatMap esc ++ [34] → l.length + 1 ≤ f → unqFrom s f i acc = some (acc ++ l)
  | [], acc, i, f, h, hf => by
    obtain ⟨f, rfl⟩ : ∃ g, f = g + 1 := ⟨f - 1, by omega⟩
    have hl := len_drop h (by simp)
    have h1 : s.length = i + 1 := by simpa using hl
    rw [unqFrom, if_neg (by omega), List.append_nil]
  | c :: l, acc, i, f, h, hf => by
    obtain ⟨f, rfl⟩ : ∃ g, f = g + 1 := ⟨f - 1, by simp at hf; omega⟩
    have hc := c.toNat_lt
    have hl := len_drop h (by rw [List.length_append]; simp only [List.length_singleton]; omega)
    rw [List.flatMap_cons, List.append_assoc] at h
    rw [List.flatMap_cons, List.append_assoc, List.length_append, List.length_append, List.length_singleton] at hl
    have hd := drop_drop' h
    have ih : ∀ acc' j, j = i + (esc c).length → unqFrom s f j acc' = some (acc' ++ l) := fun acc' j hj => unq_quote s l acc' j f (hj ▸ hd) (by simp at hf; omega)
    have a0 := at_drop h 0
    have a1 := at_drop h 1
    have a2 := at_drop h 2
    have a3 := at_drop h 3
    rw [Nat.add_zero] at a0
    have fin : acc ++ [c] ++ l = acc ++ c :: l := by simp
    rw [unqFrom]
    by_cases hx : c.toNat < 32 ∨ 126 < c.toNat
    · rw [esc_hx hx] at hl a0 a1 a2 a3 ih
      simp only [List.cons_append, List.getD_cons_zero, List.getD_cons_succ, List.length_cons, List.length_nil] at hl a0 a1 a2 a3
      rw [if_pos (by omega), if_neg (by rw [a0]; decide), if_neg (by rw [a1]; decide), if_neg (by omega), a2, a3, hexIx_hexd _ (by omega), hexIx_hexd _ (by omega), if_neg (by omega), if_neg (by omega), two_hex, ih _ (i + 4) rfl, fin]
    · by_cases h2 : c.toNat = 34 ∨ c.toNat = 92
      · rw [esc_sp h2] at hl a0 a1 ih
        simp only [List.cons_append, List.getD_cons_zero, List.getD_cons_succ, List.length_cons, List.length_nil] at hl a0 a1
        have hne : (c != 120) = true := by
          rw [bne_iff_ne]; rintro rfl; revert h2; decide
        rw [if_pos (by omega), if_neg (by rw [a0]; decide), a1, if_pos hne, ih _ (i + 2) rfl, fin]
      · rw [esc_pl hx h2] at hl a0 ih
        simp only [List.cons_append, List.getD_cons_zero, List.length_cons, List.length_nil] at hl a0
        have hne : (c != 92) = true := by
          rw [bne_iff_ne]; rintro rfl; exact h2 (.inr rfl)
        rw [if_pos (by omega), a0, if_pos hne, ih _ (i + 1) rfl, fin]
theorem ref_quote (s : List UInt8) : ∀ (l acc : List UInt8) (i f : Nat), s.drop i = l.flatMap esc ++ [34] → l.length + 1 ≤ f → refFrom s f i acc = acc ++ l
  | [], acc, i, f, h, hf => by
    obtain ⟨f, rfl⟩ : ∃ g, f = g + 1 := ⟨f - 1, by omega⟩
    have hl := len_drop h (by simp)
    have h1 : s.length = i + 1 := by simpa using hl
    rw [refFrom, if_neg (by omega), List.append_nil]
  | c :: l, acc, i, f, h, hf => by
    obtain ⟨f, rfl⟩ : ∃ g, f = g + 1 := ⟨f - 1, by simp at hf; omega⟩
    have hc := c.toNat_lt
    have hl := len_drop h (by rw [List.length_append]; simp only [List.length_singleton]; omega)
    rw [List.flatMap_cons, List.append_assoc] at h
    rw [List.flatMap_cons, List.append_assoc, List.length_append, List.length_append, List.length_singleton] at hl
    have hd := drop_drop' h
    have ih : ∀ acc' j, j = i + (esc c).length → refFrom s f j acc' = acc' ++ l := fun acc' j hj => ref_quote s l acc' j f (hj ▸ hd) (by simp at hf; omega)
    have a0 := at_drop h 0
    have a1 := at_drop h 1
    have a2 := at_drop h 2
    have a3 := at_drop h 3
    rw [Nat.add_zero] at a0
    have fin : acc ++ [c] ++ l = acc ++ c :: l := by simp
    rw [refFrom]
    by_cases hx : c.toNat < 32 ∨ 126 < c.toNat
    · rw [esc_hx hx] at hl a0 a1 a2 a3 ih
      simp only [List.cons_append, List.getD_cons_zero, List.getD_cons_succ, List.length_cons, List.length_nil] at hl a0 a1 a2 a3
      rw [if_pos (by omega), if_neg (by rw [a1]; simp), if_pos (by rw [a0, decide_eq_true (show i + 4 < s.length by omega)]; rfl), a2, a3, two_hexv, ih _ (i + 4) rfl, fin]
    · by_cases h2 : c.toNat = 34 ∨ c.toNat = 92
      · rw [esc_sp h2] at hl a0 a1 ih
        simp only [List.cons_append, List.getD_cons_zero, List.getD_cons_succ, List.length_cons, List.length_nil] at hl a0 a1
        have hne : (c != 120) = true := by
          rw [bne_iff_ne]; rintro rfl; revert h2; decide
        rw [if_pos (by omega), if_pos (by rw [a0, a1, hne, decide_eq_true (show i + 2 < s.length by omega)]; rfl), a1, ih _ (i + 2) rfl, fin]
      · rw [esc_pl hx h2] at hl a0 ih
        simp only [List.cons_append, List.getD_cons_zero, List.length_cons, List.length_nil] at hl a0
        have hne : (c == 92) = false := by
          rw [beq_eq_false_iff_ne]; rintro rfl; exact h2 (.inr rfl)
        rw [if_pos (by omega), if_neg (by rw [a0, hne]; simp), if_neg (by rw [a0, hne]; simp), a0, ih _ (i + 1) rfl, fin]
theorem drop_quote (l : List UInt8) : (quoteL l).drop 1 = l.flatMap esc ++ [34] := rfl
theorem len_quote (l : List UInt8) : l.length + 2 ≤ (quoteL l).length := by
  have : ∀ c, 1 ≤ (esc c).length := fun c => by unfold esc; split <;> (try split) <;> simp
  have h : l.length ≤ (l.flatMap esc).length := by
    induction l with
    | nil => simp
    | cons c l ih => have := this c; simp only [List.flatMap_cons, List.length_append, List.length_cons]; omega
  unfold quoteL
  rw [List.length_cons, List.length_append, List.length_singleton]
  omega
theorem unq_q (l : List UInt8) : unqF (quoteL l) = some l := by
  have := len_quote l
  have h := unq_quote (quoteL l) l [] 1 ((quoteL l).length + 1) (drop_quote l) (by omega)
  simpa [unqF] using h
theorem ref_q (l : List UInt8) : refF (quoteL l) = l := by
  have := len_quote l
  have h := ref_quote (quoteL l) l [] 1 ((quoteL l).length + 1) (drop_quote l) (by omega)
  simpa [refF] using h
theorem unquote_q (l : List UInt8) : unquoteF (quoteL l) = (l, true) := uq_ok (unq_q l) (by simp)
/-- Both say the same of any text; what they give is what the text is the quoted form of. -/
theorem unq_same (s : List UInt8) : unquoteF s = refUnqF s ∧ ((unquoteF s).2 = true → quoteL (unquoteF s).1 = s) := by
  by_cases h : ∃ l, quoteL l = s
  · obtain ⟨l, rfl⟩ := h
    rw [unquote_q]
    refine ⟨?_, fun _ => rfl⟩
    unfold refUnqF
    rw [ref_q, if_neg (by simp)]
  · have hne : ∀ b, (quoteL b != s) = true := fun b => by rw [bne_iff_ne]; exact fun e => h ⟨b, e⟩
    have h1 : unquoteF s = ([], false) := by
      cases hu : unqF s with
      | none => exact uq_none hu
      | some b => exact uq_bad hu (hne b)
    rw [h1, ru_bad (hne _)]
    exact ⟨rfl, fun h => by cases h⟩
end Go.Proofs.YtahdfjmdoljgiaaDoor
