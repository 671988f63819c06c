/- Written by merging: Lqa Lqb Lqc Lqd Lra Lrb Lrc. -/
import Derived.Test.YtahdfjmdoljgiaaDoorMc
namespace Go.Proofs.YtahdfjmdoljgiaaDoor
open Go Go.Am
set_option maxRecDepth 100000
set_option linter.unusedVariables false
set_option linter.unusedSimpArgs false

def letterF (c : UInt8) : Bool := decide (c.toNat = 95) || (decide (97 ≤ c.toNat) && decide (c.toNat ≤ 122)) || (decide (65 ≤ c.toNat) && decide (c.toNat ≤ 90))
def lod (c : UInt8) : Bool := letterF c || isD c
def runF : List UInt8 → Nat
  | [] => 0
  | c :: l => if lod c then runF l + 1 else 0
def nameF (s : List UInt8) : Bool := !(s == []) && decide (s.length ≤ 32) && letterF (s.getD 0 0) && (runF s == s.length)
def onesL : List UInt8 := [123, 125, 40, 41, 44, 59, 58, 46, 61, 60, 62, 43, 45, 42]
def symF (s : List UInt8) : List UInt8 :=
  if Lib.hasPrefix s [33, 61] then [33, 61] else if Lib.hasPrefix s [60, 61] then [60, 61] else if Lib.hasPrefix s [62, 61] then [62, 61]
  else if !(s == []) && decide (0 ≤ Lib.indexByte onesL (s.getD 0 0)) then s.take 1 else []
def qd : List UInt8 → Nat → Nat
  | [], _ => 0
  | [c], k => if c == 34 then k + 1 else 0
  | c :: x :: l, k => if c == 34 then k + 1 else if c == 92 then qd l (k + 2) else qd (x :: l) (k + 1)
def quotedF (s : List UInt8) : Nat := qd (s.drop 1) 1
def isBl (c : UInt8) : Bool := c == 32 || c == 9 || c == 10 || c == 13
def blk : List UInt8 → Bool → Nat
  | [], _ => 0
  | c :: l, true => if c == 10 then blk l false + 1 else blk l true + 1
  | c :: l, false => if isBl c then blk l false + 1 else if c == 47 && decide (0 < l.length) && l.getD 0 0 == 47 then blk l true + 1 else 0
def blankF (s : List UInt8) (at' : Int) : Int := if at' < 0 ∨ at' > (s.length : Int) then at' else ((at'.toNat + blk (s.drop at'.toNat) false : Nat) : Int)
def sLet : List AV → Option AV
  | [.int .u8 c] => if 0 ≤ c ∧ c < 256 then some (.bool (letterF c.toNat.toUInt8)) else none
  | _ => none
def sRun : List AV → Option AV
  | [.str s] => if s.length ≤ 1099511627776 then some (.int .i64 (runF s)) else none
  | _ => none
def sName : List AV → Option AV
  | [.str s] => if s.length ≤ 1099511627776 then some (.bool (nameF s)) else none
  | _ => none
def sSym : List AV → Option AV
  | [.str s] => if s.length ≤ 1099511627776 then some (.str (symF s)) else none
  | _ => none
def sQuoted : List AV → Option AV
  | [.str s] => if s.length ≤ 1099511627776 then some (.int .i64 (quotedF s)) else none
  | _ => none
def sBlank : List AV → Option AV
  | [.str s, .int .i64 i] => if s.length ≤ 1099511627776 then some (.int .i64 (blankF s i)) else none
  | _ => none
def tb36 : List TbE := [⟨33, fun vs _ => sLet vs, .of (.one .bool)⟩, ⟨34, fun vs _ => sIsD vs, .of (.one .bool)⟩]
def q36 (s : List UInt8) (i : Int) : St := (envOf 23 [(0, .str s), (3, .int .i64 i)], [])
def t36 : Tidy := ⟨dropT 23 [0, 3], .all⟩
def x36 : Tidy := ⟨dropT 23 [3], .all⟩
def C36l : Cfg := tbC Q tb36 (fun _ => false) kdI
def C36 : Cfg := { C36l with
  lw := fun id => if id = 2 then some fun st K => ∃ s : List UInt8, st = q36 s 0 ∧ s.length ≤ 1099511627776 ∧ K (.exit 0) (envOf 23 [(3, .int .i64 (runF s))], []) else none
  F := fun id => if id = 2 then t36 else ⟨[], .all⟩ }
def tb21 : List TbE := [⟨33, fun vs _ => sLet vs, .of (.one .bool)⟩, ⟨36, fun vs _ => sRun vs, .of (.one (.int .i64))⟩]
def E35 (s : List UInt8) : Fin 4 := if Lib.hasPrefix s [33, 61] then 1 else if Lib.hasPrefix s [60, 61] then 2 else if Lib.hasPrefix s [62, 61] then 3 else 0
def tb35 : List TbE := [⟨17, fun vs _ => sHasPrefix vs, .of (.one .bool)⟩, ⟨27, fun vs _ => sIndexByte vs, .of (.one (.int .i64))⟩]
def sy3 : AObj := .row 9 1 [.str [33, 61], .str [60, 61], .str [62, 61]]
def q35 (s : List UInt8) (i : Int) : St := (envOf 26 [(0, .str s), (5, .sl (some (0, 0)) 3 (.rel 0)), (6, .int .i64 3), (7, .int .i64 i)], [sy3])
def t35 : Tidy := ⟨dropT 26 [0, 5, 6, 7], .all⟩
def x35 : Tidy := ⟨dropT 26 [0], .rows []⟩
def r35 : Tidy := ⟨dropT 26 [2], .rows []⟩
def C35l : Cfg := tbC Q tb35 (fun _ => false) kdI
def C35 : Cfg := { C35l with
  lw := fun id => if id = 2 then some fun st K => ∃ s : List UInt8, st = q35 s 0 ∧ (∀ i : Fin 4, askB (i == 0) (K (.exit 0) (envOf 26 [(0, .str s)], [])) (K .ret (envOf 26 [(2, .str ([[], [33, 61], [60, 61], [62, 61]].getD i.1 []))], []))) else none
  F := fun id => if id = 2 then t35 else ⟨[], .all⟩ }
def tb23 : List TbE := [⟨35, fun vs _ => sSym vs, .of (.one .str)⟩]
def q39 (s : List UInt8) (i : Int) : St := (envOf 21 [(0, .str s), (3, .int .i64 i)], [])
def C39 : Cfg := { tbC Q [] (fun _ => false) kdI with
  F := fun id => if id = 1000000 then ⟨dropT 21 [0, 3], .all⟩ else if id = 3 then ⟨dropT 21 [2], .all⟩ else if id = 6 then ⟨dropT 21 [3], .all⟩ else ⟨[], .all⟩ }
def G39 (s : List UInt8) (m : Nat) (l : Nat) : Option (St → (AExit → St → Prop) → Prop) :=
  if l = 0 then some fun st K => ∃ i : Nat, st = q39 s i ∧ (i ≤ s.length + 2 ∧ s.length + 2 - i < m) ∧ askB (qd (s.drop i) i == 0) (K .ret (envOf 21 [(2, .int .i64 0)], [])) (K .ret (envOf 21 [(2, .int .i64 (qd (s.drop i) i)), (3, .int .i64 ((qd (s.drop i) i : Int) - 1)), (13, .int .i64 ((qd (s.drop i) i : Int) - 1)), (14, .int .i64 (qd (s.drop i) i))], [])) else none
def tb16 : List TbE := [⟨17, fun vs _ => sHasPrefix vs, .of (.one .bool)⟩, ⟨27, fun vs _ => sIndexByte vs, .of (.one (.int .i64))⟩]
def q16 (s : List UInt8) (i : Int) : St := (envOf 47 [(0, .str s), (1, .int .i64 i)], [])
def C16 : Cfg := { tbC Q tb16 (fun _ => false) kdI with
  F := fun id => if id = 1000000 then ⟨dropT 47 [0, 1], .all⟩ else if id = 4 ∨ id = 16 then ⟨dropT 47 [1], .all⟩ else if id = 14 then ⟨dropT 47 [0], .all⟩ else ⟨[], .all⟩ }
def G16 (s : List UInt8) (m : Nat) (l : Nat) : Option (St → (AExit → St → Prop) → Prop) :=
  if l = 0 then some fun st K => ∃ i : Nat, st = q16 s i ∧ (i ≤ s.length ∧ s.length - i < m) ∧ ∀ e : Fin 3, askB (e == 0) (K .ret (envOf 47 [(1, .int .i64 ((i + blk (s.drop i) false : Nat) : Int)), (4, .int .i64 ((i + blk (s.drop i) false : Nat) : Int)), (19, .int .i64 ((i + blk (s.drop i) false : Nat) : Int))], [])) (askB (e == 1) (K .ret (envOf 47 [(1, .int .i64 ((i + blk (s.drop i) false : Nat) : Int)), (4, .int .i64 ((i + blk (s.drop i) false : Nat) : Int)), (46, .int .i64 ((i + blk (s.drop i) false : Nat) : Int))], [])) (K .ret (envOf 47 [(0, .str s), (4, .int .i64 ((i + blk (s.drop i) false : Nat) : Int)), (40, .str s), (41, .int .i64 ((i + blk (s.drop i) false : Nat) : Int))], []))) else none
theorem v33 (c : Int) (R : AV → AHeap → Prop) : (askB (c == 95) (R (AV.bool true) []) (askB (decide (c ≥ 97)) (askB (decide (c ≤ 122)) (R (AV.bool true) []) (askB (decide (c ≥ 65)) (askB (decide (c ≤ 90)) (R (AV.bool true) []) (R (AV.bool false) [])) (R (AV.bool false) []))) (askB (decide (c ≥ 65)) (askB (decide (c ≤ 90)) (R (AV.bool true) []) (R (AV.bool false) [])) (R (AV.bool false) [])))) = (wpF Tryd.prog (tbC Q [] (fun _ => false) kdI) 40 p33 [.int .u8 c] [] R) := by kernel_rfl
theorem v34 (c : Int) (R : AV → AHeap → Prop) : (askB (decide (c ≥ 48)) (askB (decide (c ≤ 57)) (R (AV.bool true) []) (R (AV.bool false) [])) (R (AV.bool false) [])) = (wpF Tryd.prog (tbC Q [] (fun _ => false) kdI) 40 p34 [.int .u8 c] [] R) := by kernel_rfl
theorem v36b (s : List UInt8) (i : Nat) (K : AExit → St → Prop) : (askB (decide ((↑i : Int) < (↑(List.length s) : Int))) (chkW (decide (i < List.length s)) (∃ (b : Bool), sLet [AV.int .u8 (↑(UInt8.toNat (List.getD s i 0)) : Int)] = some (AV.bool b) ∧ askB b (K AExit.normal (envOf 23 [(0, AV.str s), (3, AV.int .i64 (IntKind.wrap .i64 ((↑i : Int) + 1)))], [])) (chkW (decide (i < List.length s)) (∃ (b : Bool), sIsD [AV.int .u8 (↑(UInt8.toNat (List.getD s i 0)) : Int)] = some (AV.bool b) ∧ askB b (K AExit.normal (envOf 23 [(0, AV.str s), (3, AV.int .i64 (IntKind.wrap .i64 ((↑i : Int) + 1)))], [])) (K (AExit.exit 0) (envOf 23 [(3, AV.int .i64 (↑i : Int))], [])))))) (K (AExit.exit 0) (envOf 23 [(3, AV.int .i64 (↑i : Int))], []))) = (wpP Tryd.prog C36l 40 (.inl p36_l0) (q36 s i) (postX C36l t36 x36 x36 K)) := by kernel_rfl
theorem v36 (s : List UInt8) (R : AV → AHeap → Prop) : (∃ (s_1 : List UInt8), (envOf 23 [(0, AV.str s), (3, AV.int .i64 0)], ([] : AHeap)) = (envOf 23 [(0, AV.str s_1), (3, AV.int .i64 0)], []) ∧ List.length s_1 ≤ 1099511627776 ∧ R (AV.int .i64 (↑(runF s_1) : Int)) []) = (wpF Tryd.prog C36 40 p36 [.str s] [] R) := by kernel_rfl
theorem v21 (s : List UInt8) (R : AV → AHeap → Prop) : (askB (!s == Array.toList (ByteArray.data { data := #[] })) (askB (decide ((↑(List.length s) : Int) ≤ 32)) (chkW (decide (0 < List.length s)) (∃ (b : Bool), sLet [AV.int .u8 (↑(UInt8.toNat (List.getD s 0 0)) : Int)] = some (AV.bool b) ∧ askB b (∃ (n : Int), sRun [AV.str s] = some (AV.int .i64 n) ∧ askB (n == (↑(List.length s) : Int)) (R (AV.bool true) []) (R (AV.bool false) [])) (R (AV.bool false) []))) (R (AV.bool false) [])) (R (AV.bool false) [])) = (wpF Tryd.prog (tbC Q tb21 (fun _ => false) kdI) 40 p21 [.str s] [] R) := by kernel_rfl
theorem v35b0 (s : List UInt8) (K : AExit → St → Prop) : (∃ (b : Bool), some (AV.bool (Lib.hasPrefix s [33, 61])) = some (AV.bool b) ∧ askB b (K AExit.ret (envOf 26 [(2, AV.str [33, 61])], [])) (K AExit.normal (envOf 26 [(0, AV.str s), (5, AV.sl (some (0, 0)) 3 (ACap.rel 0)), (6, AV.int .i64 3), (7, AV.int .i64 1)], [AObj.row 9 1 [AV.str [33, 61], AV.str [60, 61], AV.str [62, 61]]]))) = (wpP Tryd.prog C35l 40 (.inl p35_l0) (q35 s 0) (postX C35l t35 x35 r35 K)) := by kernel_rfl
theorem v35b1 (s : List UInt8) (K : AExit → St → Prop) : (∃ (b : Bool), some (AV.bool (Lib.hasPrefix s [60, 61])) = some (AV.bool b) ∧ askB b (K AExit.ret (envOf 26 [(2, AV.str [60, 61])], [])) (K AExit.normal (envOf 26 [(0, AV.str s), (5, AV.sl (some (0, 0)) 3 (ACap.rel 0)), (6, AV.int .i64 3), (7, AV.int .i64 2)], [AObj.row 9 1 [AV.str [33, 61], AV.str [60, 61], AV.str [62, 61]]]))) = (wpP Tryd.prog C35l 40 (.inl p35_l0) (q35 s 1) (postX C35l t35 x35 r35 K)) := by kernel_rfl
theorem v35b2 (s : List UInt8) (K : AExit → St → Prop) : (∃ (b : Bool), some (AV.bool (Lib.hasPrefix s [62, 61])) = some (AV.bool b) ∧ askB b (K AExit.ret (envOf 26 [(2, AV.str [62, 61])], [])) (K AExit.normal (envOf 26 [(0, AV.str s), (5, AV.sl (some (0, 0)) 3 (ACap.rel 0)), (6, AV.int .i64 3), (7, AV.int .i64 3)], [AObj.row 9 1 [AV.str [33, 61], AV.str [60, 61], AV.str [62, 61]]]))) = (wpP Tryd.prog C35l 40 (.inl p35_l0) (q35 s 2) (postX C35l t35 x35 r35 K)) := by kernel_rfl
theorem v35b3 (s : List UInt8) (K : AExit → St → Prop) : (K (AExit.exit 0) (envOf 26 [(0, AV.str s)], [])) = (wpP Tryd.prog C35l 40 (.inl p35_l0) (q35 s 3) (postX C35l t35 x35 r35 K)) := by kernel_rfl
theorem v35 (s : List UInt8) (R : AV → AHeap → Prop) : ((envOf 26 [(0, AV.str s), (5, AV.sl (some (0, 0)) 3 (ACap.rel 0)), (6, AV.int .i64 3), (7, AV.int .i64 0)], [AObj.row 9 1 [AV.str [33, 61], AV.str [60, 61], AV.str [62, 61]]]) = (envOf 26 [(0, AV.str s), (5, AV.sl (some (0, 0)) 3 (ACap.rel 0)), (6, AV.int .i64 3), (7, AV.int .i64 0)], [AObj.row 9 1 [AV.str [33, 61], AV.str [60, 61], AV.str [62, 61]]]) ∧ askB (E35 s == 0) (askB (!s == Array.toList (ByteArray.data { data := #[] })) (chkW (decide (0 < List.length s)) (∃ (n : Int), some (AV.int .i64 (Lib.indexByte (Array.toList (ByteArray.data { data := #[123, 125, 40, 41, 44, 59, 58, 46, 61, 60, 62, 43, 45, 42] })) (Nat.toUInt8 (UInt8.toNat (List.getD s 0 0))))) = some (AV.int .i64 n) ∧ askB (decide (n ≥ 0)) (chkW (decide (1 ≤ (↑(List.length s) : Int))) (R (AV.str (List.drop 0 (List.take 1 s))) [])) (R (AV.str []) []))) (R (AV.str []) [])) (R (AV.str (List.getD [[], [33, 61], [60, 61], [62, 61]] (↑(E35 s) : Nat) [])) [])) = (wpF Tryd.prog { C35 with lw := fun id => if id = 2 then some fun st K => st = q35 s 0 ∧ askB (E35 s == 0) (K (.exit 0) (envOf 26 [(0, .str s)], [])) (K .ret (envOf 26 [(2, .str ([[], [33, 61], [60, 61], [62, 61]].getD (E35 s).1 []))], [])) else none } 40 p35 [.str s] [] R) := by kernel_rfl
theorem v23 (s : List UInt8) (R : AV → AHeap → Prop) : (askB (!s == Array.toList (ByteArray.data { data := #[] })) (∃ (s_1 : List UInt8), sSym [AV.str s] = some (AV.str s_1) ∧ askB (s_1 == s) (R (AV.bool true) []) (R (AV.bool false) [])) (R (AV.bool false) [])) = (wpF Tryd.prog (tbC Q tb23 (fun _ => false) kdI) 40 p23 [.str s] [] R) := by kernel_rfl
theorem v39_0 (s : List UInt8) (m i : Nat) (K : AExit → St → Prop) : (askB (decide ((↑i : Int) ≥ (↑(List.length s) : Int))) (K AExit.ret (envOf 21 [(2, AV.int .i64 0)], [])) (chkW (decide (i < List.length s)) (askB ((↑(UInt8.toNat (List.getD s i 0)) : Int) == 34) (K AExit.ret (envOf 21 [(2, AV.int .i64 (IntKind.wrap .i64 ((↑i : Int) + 1))), (3, AV.int .i64 (↑i : Int)), (13, AV.int .i64 (↑i : Int)), (14, AV.int .i64 (IntKind.wrap .i64 ((↑i : Int) + 1)))], [])) (askB ((↑(UInt8.toNat (List.getD s i 0)) : Int) == 92) (∃ (i_1 : Nat), (envOf 21 [(0, AV.str s), (3, AV.int .i64 (IntKind.wrap .i64 (IntKind.wrap .i64 ((↑i : Int) + 1) + 1)))], ([] : AHeap)) = (envOf 21 [(0, AV.str s), (3, AV.int .i64 (↑i_1 : Int))], []) ∧ (i_1 ≤ List.length s + 2 ∧ List.length s + 2 - i_1 < m) ∧ askB (qd (List.drop i_1 s) i_1 == 0) (K AExit.ret (envOf 21 [(2, AV.int .i64 0)], [])) (K AExit.ret (envOf 21 [(2, AV.int .i64 (↑(qd (List.drop i_1 s) i_1) : Int)), (3, AV.int .i64 ((↑(qd (List.drop i_1 s) i_1) : Int) - 1)), (13, AV.int .i64 ((↑(qd (List.drop i_1 s) i_1) : Int) - 1)), (14, AV.int .i64 (↑(qd (List.drop i_1 s) i_1) : Int))], []))) (∃ (i_1 : Nat), (envOf 21 [(0, AV.str s), (3, AV.int .i64 (IntKind.wrap .i64 ((↑i : Int) + 1)))], ([] : AHeap)) = (envOf 21 [(0, AV.str s), (3, AV.int .i64 (↑i_1 : Int))], []) ∧ (i_1 ≤ List.length s + 2 ∧ List.length s + 2 - i_1 < m) ∧ askB (qd (List.drop i_1 s) i_1 == 0) (K AExit.ret (envOf 21 [(2, AV.int .i64 0)], [])) (K AExit.ret (envOf 21 [(2, AV.int .i64 (↑(qd (List.drop i_1 s) i_1) : Int)), (3, AV.int .i64 ((↑(qd (List.drop i_1 s) i_1) : Int) - 1)), (13, AV.int .i64 ((↑(qd (List.drop i_1 s) i_1) : Int) - 1)), (14, AV.int .i64 (↑(qd (List.drop i_1 s) i_1) : Int))], []))))))) = (wpP Tryd.prog { C39 with gw := G39 s m } 80 (.inr ((match p39.body with | .seq _ (.scope a) => a | _ => .skip), ((findP (match p39.body with | .seq _ (.scope a) => a | _ => .skip) 0).getD .skip))) (q39 s i) K) := by kernel_rfl
theorem v39 (s : List UInt8) (m : Nat) (R : AV → AHeap → Prop) : (askB (decide (1 ≥ (↑(List.length s) : Int))) (R (AV.int .i64 0) []) (chkW (decide (1 < List.length s)) (askB ((↑(UInt8.toNat (List.getD s 1 0)) : Int) == 34) (R (AV.int .i64 2) []) (askB ((↑(UInt8.toNat (List.getD s 1 0)) : Int) == 92) (∃ (i : Nat), (envOf 21 [(0, AV.str s), (3, AV.int .i64 3)], ([] : AHeap)) = (envOf 21 [(0, AV.str s), (3, AV.int .i64 (↑i : Int))], []) ∧ (i ≤ List.length s + 2 ∧ List.length s + 2 - i < m) ∧ askB (qd (List.drop i s) i == 0) (R (AV.int .i64 0) []) (R (AV.int .i64 (↑(qd (List.drop i s) i) : Int)) [])) (∃ (i : Nat), (envOf 21 [(0, AV.str s), (3, AV.int .i64 2)], ([] : AHeap)) = (envOf 21 [(0, AV.str s), (3, AV.int .i64 (↑i : Int))], []) ∧ (i ≤ List.length s + 2 ∧ List.length s + 2 - i < m) ∧ askB (qd (List.drop i s) i == 0) (R (AV.int .i64 0) []) (R (AV.int .i64 (↑(qd (List.drop i s) i) : Int)) [])))))) = (wpF Tryd.prog { C39 with gw := G39 s m } 80 p39 [.str s] [] R) := by kernel_rfl
theorem v16_0 (s : List UInt8) (m i : Nat) (K : AExit → St → Prop) : (askB ((↑i : Int) == (↑(List.length s) : Int)) (K AExit.ret (envOf 47 [(1, AV.int .i64 (↑i : Int)), (4, AV.int .i64 (↑i : Int)), (19, AV.int .i64 (↑i : Int))], [])) (chkW (decide (i < List.length s)) (askB ((↑(UInt8.toNat (List.getD s i 0)) : Int) == 32) (∃ (i_1 : Nat), (envOf 47 [(0, AV.str s), (1, AV.int .i64 (IntKind.wrap .i64 ((↑i : Int) + 1)))], ([] : AHeap)) = (envOf 47 [(0, AV.str s), (1, AV.int .i64 (↑i_1 : Int))], []) ∧ (i_1 ≤ List.length s ∧ List.length s - i_1 < m) ∧ ∀ (e : Fin 3), askB (e == 0) (K AExit.ret (envOf 47 [(1, AV.int .i64 (↑(i_1 + blk (List.drop i_1 s) false) : Int)), (4, AV.int .i64 (↑(i_1 + blk (List.drop i_1 s) false) : Int)), (19, AV.int .i64 (↑(i_1 + blk (List.drop i_1 s) false) : Int))], [])) (askB (e == 1) (K AExit.ret (envOf 47 [(1, AV.int .i64 (↑(i_1 + blk (List.drop i_1 s) false) : Int)), (4, AV.int .i64 (↑(i_1 + blk (List.drop i_1 s) false) : Int)), (46, AV.int .i64 (↑(i_1 + blk (List.drop i_1 s) false) : Int))], [])) (K AExit.ret (envOf 47 [(0, AV.str s), (4, AV.int .i64 (↑(i_1 + blk (List.drop i_1 s) false) : Int)), (40, AV.str s), (41, AV.int .i64 (↑(i_1 + blk (List.drop i_1 s) false) : Int))], [])))) (askB ((↑(UInt8.toNat (List.getD s i 0)) : Int) == 9) (∃ (i_1 : Nat), (envOf 47 [(0, AV.str s), (1, AV.int .i64 (IntKind.wrap .i64 ((↑i : Int) + 1)))], ([] : AHeap)) = (envOf 47 [(0, AV.str s), (1, AV.int .i64 (↑i_1 : Int))], []) ∧ (i_1 ≤ List.length s ∧ List.length s - i_1 < m) ∧ ∀ (e : Fin 3), askB (e == 0) (K AExit.ret (envOf 47 [(1, AV.int .i64 (↑(i_1 + blk (List.drop i_1 s) false) : Int)), (4, AV.int .i64 (↑(i_1 + blk (List.drop i_1 s) false) : Int)), (19, AV.int .i64 (↑(i_1 + blk (List.drop i_1 s) false) : Int))], [])) (askB (e == 1) (K AExit.ret (envOf 47 [(1, AV.int .i64 (↑(i_1 + blk (List.drop i_1 s) false) : Int)), (4, AV.int .i64 (↑(i_1 + blk (List.drop i_1 s) false) : Int)), (46, AV.int .i64 (↑(i_1 + blk (List.drop i_1 s) false) : Int))], [])) (K AExit.ret (envOf 47 [(0, AV.str s), (4, AV.int .i64 (↑(i_1 + blk (List.drop i_1 s) false) : Int)), (40, AV.str s), (41, AV.int .i64 (↑(i_1 + blk (List.drop i_1 s) false) : Int))], [])))) (askB ((↑(UInt8.toNat (List.getD s i 0)) : Int) == 10) (∃ (i_1 : Nat), (envOf 47 [(0, AV.str s), (1, AV.int .i64 (IntKind.wrap .i64 ((↑i : Int) + 1)))], ([] : AHeap)) = (envOf 47 [(0, AV.str s), (1, AV.int .i64 (↑i_1 : Int))], []) ∧ (i_1 ≤ List.length s ∧ List.length s - i_1 < m) ∧ ∀ (e : Fin 3), askB (e == 0) (K AExit.ret (envOf 47 [(1, AV.int .i64 (↑(i_1 + blk (List.drop i_1 s) false) : Int)), (4, AV.int .i64 (↑(i_1 + blk (List.drop i_1 s) false) : Int)), (19, AV.int .i64 (↑(i_1 + blk (List.drop i_1 s) false) : Int))], [])) (askB (e == 1) (K AExit.ret (envOf 47 [(1, AV.int .i64 (↑(i_1 + blk (List.drop i_1 s) false) : Int)), (4, AV.int .i64 (↑(i_1 + blk (List.drop i_1 s) false) : Int)), (46, AV.int .i64 (↑(i_1 + blk (List.drop i_1 s) false) : Int))], [])) (K AExit.ret (envOf 47 [(0, AV.str s), (4, AV.int .i64 (↑(i_1 + blk (List.drop i_1 s) false) : Int)), (40, AV.str s), (41, AV.int .i64 (↑(i_1 + blk (List.drop i_1 s) false) : Int))], [])))) (askB ((↑(UInt8.toNat (List.getD s i 0)) : Int) == 13) (∃ (i_1 : Nat), (envOf 47 [(0, AV.str s), (1, AV.int .i64 (IntKind.wrap .i64 ((↑i : Int) + 1)))], ([] : AHeap)) = (envOf 47 [(0, AV.str s), (1, AV.int .i64 (↑i_1 : Int))], []) ∧ (i_1 ≤ List.length s ∧ List.length s - i_1 < m) ∧ ∀ (e : Fin 3), askB (e == 0) (K AExit.ret (envOf 47 [(1, AV.int .i64 (↑(i_1 + blk (List.drop i_1 s) false) : Int)), (4, AV.int .i64 (↑(i_1 + blk (List.drop i_1 s) false) : Int)), (19, AV.int .i64 (↑(i_1 + blk (List.drop i_1 s) false) : Int))], [])) (askB (e == 1) (K AExit.ret (envOf 47 [(1, AV.int .i64 (↑(i_1 + blk (List.drop i_1 s) false) : Int)), (4, AV.int .i64 (↑(i_1 + blk (List.drop i_1 s) false) : Int)), (46, AV.int .i64 (↑(i_1 + blk (List.drop i_1 s) false) : Int))], [])) (K AExit.ret (envOf 47 [(0, AV.str s), (4, AV.int .i64 (↑(i_1 + blk (List.drop i_1 s) false) : Int)), (40, AV.str s), (41, AV.int .i64 (↑(i_1 + blk (List.drop i_1 s) false) : Int))], [])))) (chkW (decide ((↑i : Int) ≤ (↑(List.length s) : Int))) (∃ (b : Bool), some (AV.bool (Lib.hasPrefix (List.drop i (List.take (List.length s) s)) (Array.toList (ByteArray.data { data := #[47, 47] })))) = some (AV.bool b) ∧ askB b (chkW (decide ((↑i : Int) ≤ (↑(List.length s) : Int))) (∃ (n : Int), some (AV.int .i64 (Lib.indexByte (List.drop i (List.take (List.length s) s)) (Nat.toUInt8 10))) = some (AV.int .i64 n) ∧ askB (decide (n < 0)) (K AExit.ret (envOf 47 [(0, AV.str s), (4, AV.int .i64 (↑(List.length s) : Int)), (40, AV.str s), (41, AV.int .i64 (↑(List.length s) : Int))], [])) (∃ (i_1 : Nat), (envOf 47 [(0, AV.str s), (1, AV.int .i64 (IntKind.wrap .i64 ((↑i : Int) + IntKind.wrap .i64 (n + 1))))], ([] : AHeap)) = (envOf 47 [(0, AV.str s), (1, AV.int .i64 (↑i_1 : Int))], []) ∧ (i_1 ≤ List.length s ∧ List.length s - i_1 < m) ∧ ∀ (e : Fin 3), askB (e == 0) (K AExit.ret (envOf 47 [(1, AV.int .i64 (↑(i_1 + blk (List.drop i_1 s) false) : Int)), (4, AV.int .i64 (↑(i_1 + blk (List.drop i_1 s) false) : Int)), (19, AV.int .i64 (↑(i_1 + blk (List.drop i_1 s) false) : Int))], [])) (askB (e == 1) (K AExit.ret (envOf 47 [(1, AV.int .i64 (↑(i_1 + blk (List.drop i_1 s) false) : Int)), (4, AV.int .i64 (↑(i_1 + blk (List.drop i_1 s) false) : Int)), (46, AV.int .i64 (↑(i_1 + blk (List.drop i_1 s) false) : Int))], [])) (K AExit.ret (envOf 47 [(0, AV.str s), (4, AV.int .i64 (↑(i_1 + blk (List.drop i_1 s) false) : Int)), (40, AV.str s), (41, AV.int .i64 (↑(i_1 + blk (List.drop i_1 s) false) : Int))], [])))))) (K AExit.ret (envOf 47 [(1, AV.int .i64 (↑i : Int)), (4, AV.int .i64 (↑i : Int)), (46, AV.int .i64 (↑i : Int))], [])))))))))) = (wpP Tryd.prog { C16 with gw := G16 s m } 80 (.inr ((match p16.body with | .seq _ (.scope a) => a | _ => .skip), ((findP (match p16.body with | .seq _ (.scope a) => a | _ => .skip) 0).getD .skip))) (q16 s i) K) := by kernel_rfl
theorem v16 (s : List UInt8) (i : Int) (m : Nat) (R : AV → AHeap → Prop) : (askB (decide (i < 0)) (R (AV.int .i64 i) []) (askB (decide (i > (↑(List.length s) : Int))) (R (AV.int .i64 i) []) (askB (i == (↑(List.length s) : Int)) (R (AV.int .i64 i) []) (chkW (decide (0 ≤ i)) (chkW (decide (Int.toNat i < List.length s)) (askB ((↑(UInt8.toNat (List.getD s (Int.toNat i) 0)) : Int) == 32) (∃ (i_1 : Nat), (envOf 47 [(0, AV.str s), (1, AV.int .i64 (IntKind.wrap .i64 (i + 1)))], ([] : AHeap)) = (envOf 47 [(0, AV.str s), (1, AV.int .i64 (↑i_1 : Int))], []) ∧ (i_1 ≤ List.length s ∧ List.length s - i_1 < m) ∧ ∀ (e : Fin 3), askB (e == 0) (R (AV.int .i64 (↑(i_1 + blk (List.drop i_1 s) false) : Int)) []) (askB (e == 1) (R (AV.int .i64 (↑(i_1 + blk (List.drop i_1 s) false) : Int)) []) (R (AV.int .i64 (↑(i_1 + blk (List.drop i_1 s) false) : Int)) []))) (askB ((↑(UInt8.toNat (List.getD s (Int.toNat i) 0)) : Int) == 9) (∃ (i_1 : Nat), (envOf 47 [(0, AV.str s), (1, AV.int .i64 (IntKind.wrap .i64 (i + 1)))], ([] : AHeap)) = (envOf 47 [(0, AV.str s), (1, AV.int .i64 (↑i_1 : Int))], []) ∧ (i_1 ≤ List.length s ∧ List.length s - i_1 < m) ∧ ∀ (e : Fin 3), askB (e == 0) (R (AV.int .i64 (↑(i_1 + blk (List.drop i_1 s) false) : Int)) []) (askB (e == 1) (R (AV.int .i64 (↑(i_1 + blk (List.drop i_1 s) false) : Int)) []) (R (AV.int .i64 (↑(i_1 + blk (List.drop i_1 s) false) : Int)) []))) (askB ((↑(UInt8.toNat (List.getD s (Int.toNat i) 0)) : Int) == 10) (∃ (i_1 : Nat), (envOf 47 [(0, AV.str s), (1, AV.int .i64 (IntKind.wrap .i64 (i + 1)))], ([] : AHeap)) = (envOf 47 [(0, AV.str s), (1, AV.int .i64 (↑i_1 : Int))], []) ∧ (i_1 ≤ List.length s ∧ List.length s - i_1 < m) ∧ ∀ (e : Fin 3), askB (e == 0) (R (AV.int .i64 (↑(i_1 + blk (List.drop i_1 s) false) : Int)) []) (askB (e == 1) (R (AV.int .i64 (↑(i_1 + blk (List.drop i_1 s) false) : Int)) []) (R (AV.int .i64 (↑(i_1 + blk (List.drop i_1 s) false) : Int)) []))) (askB ((↑(UInt8.toNat (List.getD s (Int.toNat i) 0)) : Int) == 13) (∃ (i_1 : Nat), (envOf 47 [(0, AV.str s), (1, AV.int .i64 (IntKind.wrap .i64 (i + 1)))], ([] : AHeap)) = (envOf 47 [(0, AV.str s), (1, AV.int .i64 (↑i_1 : Int))], []) ∧ (i_1 ≤ List.length s ∧ List.length s - i_1 < m) ∧ ∀ (e : Fin 3), askB (e == 0) (R (AV.int .i64 (↑(i_1 + blk (List.drop i_1 s) false) : Int)) []) (askB (e == 1) (R (AV.int .i64 (↑(i_1 + blk (List.drop i_1 s) false) : Int)) []) (R (AV.int .i64 (↑(i_1 + blk (List.drop i_1 s) false) : Int)) []))) (chkW (decide (0 ≤ i)) (chkW (decide (i ≤ (↑(List.length s) : Int))) (∃ (b : Bool), some (AV.bool (Lib.hasPrefix (List.drop (Int.toNat i) (List.take (List.length s) s)) (Array.toList (ByteArray.data { data := #[47, 47] })))) = some (AV.bool b) ∧ askB b (chkW (decide (0 ≤ i)) (chkW (decide (i ≤ (↑(List.length s) : Int))) (∃ (n : Int), some (AV.int .i64 (Lib.indexByte (List.drop (Int.toNat i) (List.take (List.length s) s)) (Nat.toUInt8 10))) = some (AV.int .i64 n) ∧ askB (decide (n < 0)) (R (AV.int .i64 (↑(List.length s) : Int)) []) (∃ (i_1 : Nat), (envOf 47 [(0, AV.str s), (1, AV.int .i64 (IntKind.wrap .i64 (i + IntKind.wrap .i64 (n + 1))))], ([] : AHeap)) = (envOf 47 [(0, AV.str s), (1, AV.int .i64 (↑i_1 : Int))], []) ∧ (i_1 ≤ List.length s ∧ List.length s - i_1 < m) ∧ ∀ (e : Fin 3), askB (e == 0) (R (AV.int .i64 (↑(i_1 + blk (List.drop i_1 s) false) : Int)) []) (askB (e == 1) (R (AV.int .i64 (↑(i_1 + blk (List.drop i_1 s) false) : Int)) []) (R (AV.int .i64 (↑(i_1 + blk (List.drop i_1 s) false) : Int)) [])))))) (R (AV.int .i64 i) []))))))))))))) = (wpF Tryd.prog { C16 with gw := G16 s m } 80 p16 [.str s, .int .i64 i] [] R) := by kernel_rfl
theorem letter33_ok : QuietOK Tryd.prog 33 fun vs _ => sLet vs := quiet_plain ht33 fun args v h => by
  unfold sLet at h
  split at h
  · rename_i z
    split at h
    · rename_i hs
      cases h
      refine ⟨rfl, rfl, ?_⟩
      have hS : (tbS Q []).OK Tryd.prog := tbS_ok quietText (by simp)
      obtain ⟨u, h', rfl, hsem⟩ := sem_vc mixed (C := tbC Q [] (fun _ => false) kdI) hS (tbS_q _ _) (tbW_ok rfl) ht33 c33 (no_parts rfl) (v33 z fun u _ => u = .bool (letterF z.toNat.toUInt8)) (by
        have hn : (z.toNat.toUInt8).toNat = z.toNat := by simp; omega
        refine askI (fun h1 => ?_) fun h1 => askI (fun h2 => askI (fun h3 => ?_) fun h3 => askI (fun h4 => askI (fun h5 => ?_) fun h5 => ?_) fun h4 => ?_) fun h2 => askI (fun h4 => askI (fun h5 => ?_) fun h5 => ?_) fun h4 => ?_
        all_goals
          refine congrArg AV.bool ?_
          simp only [decide_eq_true_eq, decide_eq_false_iff_not, beq_iff_eq, beq_eq_false_iff_ne, ne_eq] at *
          unfold letterF
          rw [hn]
          simp
          omega)
      exact ⟨h', hsem⟩
    · cases h
  · cases h
theorem isD34_ok : QuietOK Tryd.prog 34 fun vs _ => sIsD vs := quiet_plain ht34 fun args v h => by
  unfold sIsD at h
  split at h
  · rename_i z
    split at h
    · rename_i hs
      cases h
      refine ⟨rfl, rfl, ?_⟩
      have hS : (tbS Q []).OK Tryd.prog := tbS_ok quietText (by simp)
      obtain ⟨u, h', rfl, hsem⟩ := sem_vc mixed (C := tbC Q [] (fun _ => false) kdI) hS (tbS_q _ _) (tbW_ok rfl) ht34 c34 (no_parts rfl) (v34 z fun u _ => u = .bool (isD z.toNat.toUInt8)) (by
        have hn : (z.toNat.toUInt8).toNat = z.toNat := by simp; omega
        refine askI (fun h2 => askI (fun h3 => ?_) fun h3 => ?_) fun h2 => ?_
        all_goals
          refine congrArg AV.bool ?_
          simp only [decide_eq_true_eq, decide_eq_false_iff_not] at *
          unfold isD
          rw [hn]
          simp
          omega)
      exact ⟨h', hsem⟩
    · cases h
  · cases h
theorem letter_at (c : UInt8) : sLet [.int .u8 (c.toNat : Int)] = some (.bool (letterF c)) := by
  have h := c.toNat_lt
  show (if 0 ≤ ((c.toNat : Nat) : Int) ∧ ((c.toNat : Nat) : Int) < 256 then some (AV.bool (letterF ((c.toNat : Nat) : Int).toNat.toUInt8)) else none) = _
  rw [if_pos (by omega), u8_back]
theorem run_le : ∀ l : List UInt8, runF l ≤ l.length
  | [] => Nat.le_refl _
  | c :: l => by
    unfold runF
    split
    · have := run_le l; simp only [List.length_cons]; omega
    · omega
theorem run_yes {s : List UInt8} {i : Nat} (hi : i < s.length) (h : lod (s.getD i 0) = true) : runF (s.drop i) = runF (s.drop (i + 1)) + 1 := by
  rw [drop_cons hi]; exact if_pos h
theorem run_no {s : List UInt8} {i : Nat} (hi : i < s.length) (h : lod (s.getD i 0) = false) : runF (s.drop i) = 0 := by
  rw [drop_cons hi]; exact if_neg (by rw [h]; decide)
theorem loop36 (s : List UInt8) (hs : s.length ≤ 1099511627776) : W Tryd.prog (tbS Q tb36) 0 (.inl (.loop p36_l0)) (q36 s 0) (fun e st => e = .exit 0 ∧ st = (envOf 23 [(3, .int .i64 (runF s))], [])) := by
  have hcw : CwOK (tbS Q tb36) (tbW Q tb36) := tbW_ok rfl
  have main := W_roundsG (P := Tryd.prog) (S := tbS Q tb36) (b0 := 0) (a := p36_l0) (fun i : Nat => q36 s i)
    (fun i => i ≤ s.length ∧ i + runF (s.drop i) = runF s) (fun i => s.length - i) (fun _ e st => e = .exit 0 ∧ st = (envOf 23 [(3, .int .i64 (runF s))], [])) ?_ 0 ⟨Nat.zero_le _, by rw [List.drop_zero]; omega⟩
  · exact main
  · rintro i ⟨h1, h2⟩
    refine W_wpX (C := C36l) hcw (by intro x hx; cases hx) (n := 40) (tn := t36) (tx := x36) (tr := x36) ((v36b s i _).mp ?_)
    have w1 : IntKind.wrap .i64 ((i : Int) + 1) = ((i + 1 : Nat) : Int) := by rw [IntKind.wrap_i64]; omega
    rw [w1]
    rcases Nat.lt_or_ge i s.length with hi | hi
    · refine askT (decide_eq_true (by omega)) (chkI (decide_eq_true hi) ⟨_, letter_at _, askI (fun g1 => ?_) fun g1 => chkI (decide_eq_true hi) ⟨_, isD_at _, askI (fun g2 => ?_) fun g2 => ?_⟩⟩)
      · have hl : lod (s.getD i 0) = true := by unfold lod; rw [g1]; rfl
        rw [run_yes hi hl] at h2
        exact ⟨i + 1, rfl, ⟨hi, by omega⟩, by show s.length - (i + 1) < s.length - i; omega, fun _ _ h => h⟩
      · have hl : lod (s.getD i 0) = true := by unfold lod; rw [g2, Bool.or_true]
        rw [run_yes hi hl] at h2
        exact ⟨i + 1, rfl, ⟨hi, by omega⟩, by show s.length - (i + 1) < s.length - i; omega, fun _ _ h => h⟩
      · have hl : lod (s.getD i 0) = false := by unfold lod; rw [g1, g2]; rfl
        rw [run_no hi hl] at h2
        exact ⟨rfl, by rw [← h2]; rfl⟩
    · rw [List.drop_eq_nil_of_le hi] at h2
      have h2' : i = runF s := h2
      exact askF (decide_eq_false (by omega)) ⟨rfl, by rw [← h2']⟩
theorem run_ok : QuietOK Tryd.prog 36 fun vs _ => sRun vs := quiet_plain ht36 fun args v h => by
  unfold sRun at h
  split at h
  · rename_i s
    split at h
    · rename_i hs
      cases h
      refine ⟨rfl, rfl, ?_⟩
      have hS : (tbS Q tb36).OK Tryd.prog := tbS_ok quietText (by
        intro x hx
        simp only [tb36, List.mem_cons, List.not_mem_nil, or_false] at hx
        rcases hx with rfl | rfl
        · exact letter33_ok
        · exact isD34_ok)
      obtain ⟨u, h', rfl, hsem⟩ := sem_vc mixed (C := C36) hS (tbS_q _ _) (tbW_ok rfl) ht36 c36 (one_part rfl (part_loop (id := 2) rfl rfl fun st K hT => by
        obtain ⟨s', rfl, hs', hk⟩ := hT
        refine W_mono (loop36 s' hs') fun e st he => ?_
        obtain ⟨rfl, rfl⟩ := he
        exact hk)) (v36 s fun u _ => u = .int .i64 (runF s)) (by
        exact ⟨s, rfl, hs, rfl⟩)
      exact ⟨h', hsem⟩
    · cases h
  · cases h
theorem len_pos {s : List UInt8} (h : (!(s == [])) = true) : 0 < s.length := by
  cases s with
  | nil => cases h
  | cons _ _ => simp
theorem run_at {s : List UInt8} (h : s.length ≤ 1099511627776) : sRun [.str s] = some (.int .i64 (runF s)) := if_pos h
theorem sym_at {s : List UInt8} (h : s.length ≤ 1099511627776) : sSym [.str s] = some (.str (symF s)) := if_pos h
theorem name_ok : QuietOK Tryd.prog 21 fun vs _ => sName vs := quiet_plain ht21 fun args v h => by
  unfold sName at h
  split at h
  · rename_i s
    split at h
    · rename_i hs
      cases h
      refine ⟨rfl, rfl, ?_⟩
      have hS : (tbS Q tb21).OK Tryd.prog := tbS_ok quietText (by
        intro x hx
        simp only [tb21, List.mem_cons, List.not_mem_nil, or_false] at hx
        rcases hx with rfl | rfl
        · exact letter33_ok
        · exact run_ok)
      obtain ⟨u, h', rfl, hsem⟩ := sem_vc mixed (C := tbC Q tb21 (fun _ => false) kdI) hS (tbS_q _ _) (tbW_ok rfl) ht21 c21 (no_parts rfl) (v21 s fun u _ => u = .bool (nameF s)) (by
        refine askI (fun h1 => ?_) fun h1 => ?_
        · have hp := len_pos h1
          refine askI (fun h2 => ?_) fun h2 => ?_
          · have h2' : decide (s.length ≤ 32) = true := by simp only [decide_eq_true_eq] at h2 ⊢; omega
            refine chkI (decide_eq_true hp) ⟨_, letter_at _, askI (fun h3 => ?_) fun h3 => ?_⟩
            · refine ⟨_, run_at hs, askI (fun h4 => ?_) fun h4 => ?_⟩
              · have h4' : (runF s == s.length) = true := by rw [beq_iff_eq] at h4 ⊢; omega
                unfold nameF; rw [h3, h2', h4']
                exact congrArg AV.bool (by rw [Bool.and_true, Bool.and_true, Bool.and_true]; exact h1.symm)
              · have h4' : (runF s == s.length) = false := by rw [beq_eq_false_iff_ne] at h4 ⊢; omega
                unfold nameF; rw [h4', Bool.and_false]
            · unfold nameF; rw [h3, Bool.and_false, Bool.false_and]
          · have h2' : decide (s.length ≤ 32) = false := by simp only [decide_eq_false_iff_not] at h2 ⊢; omega
            unfold nameF; rw [h2', Bool.and_false, Bool.false_and, Bool.false_and]
        · have h1' : (!(s == [])) = false := h1
          unfold nameF; rw [h1']; rfl)
      exact ⟨h', hsem⟩
    · cases h
  · cases h
def K35 (s : List UInt8) (e : AExit) (st : St) : Prop := (e, st) = if E35 s == 0 then (AExit.exit 0, (envOf 26 [(0, .str s)], [])) else (AExit.ret, (envOf 26 [(2, .str ([[], [33, 61], [60, 61], [62, 61]].getD (E35 s).1 []))], []))
def pfxs : Nat → List UInt8
  | 0 => [33, 61]
  | 1 => [60, 61]
  | _ => [62, 61]
theorem loop35 (s : List UInt8) : W Tryd.prog (tbS Q tb35) 0 (.inl (.loop p35_l0)) (q35 s 0) (K35 s) := by
  have hcw : CwOK (tbS Q tb35) (tbW Q tb35) := tbW_ok rfl
  have main := W_roundsG (P := Tryd.prog) (S := tbS Q tb35) (b0 := 0) (a := p35_l0) (fun i : Nat => q35 s i)
    (fun i => i ≤ 3 ∧ ∀ j, j < i → Lib.hasPrefix s (pfxs j) = false) (fun i => 3 - i) (fun _ => K35 s) ?_ 0 ⟨by omega, fun j hj => absurd hj (by omega)⟩
  · exact main
  · rintro i ⟨h1, h2⟩
    have hn : ∀ k : Nat, k < 3 → i = k → Lib.hasPrefix s (pfxs k) = false → ∃ s' : Nat, q35 s ((k + 1 : Nat) : Int) = q35 s s' ∧ (s' ≤ 3 ∧ ∀ j, j < s' → Lib.hasPrefix s (pfxs j) = false) ∧ 3 - s' < 3 - i ∧ ∀ e st, K35 s e st → K35 s e st := by
      rintro k hk rfl hp
      refine ⟨i + 1, rfl, ⟨by omega, fun j hj => ?_⟩, by omega, fun _ _ h => h⟩
      rcases Nat.lt_or_ge j i with hj' | hj'
      · exact h2 j hj'
      · have : j = i := by omega
        rw [this]; exact hp
    have h40 : i = 0 ∨ i = 1 ∨ i = 2 ∨ i = 3 := by omega
    rcases h40 with rfl | rfl | rfl | rfl
    · refine W_wpX (C := C35l) hcw (by intro x hx; cases hx) (n := 40) (tn := t35) (tx := x35) (tr := r35) ((v35b0 s _).mp ?_)
      refine ⟨_, rfl, askI (fun g => ?_) fun g => hn 0 (by omega) rfl g⟩
      show K35 s _ _
      have hE : E35 s = 1 := if_pos g
      unfold K35; rw [hE]; rfl
    · refine W_wpX (C := C35l) hcw (by intro x hx; cases hx) (n := 40) (tn := t35) (tx := x35) (tr := r35) ((v35b1 s _).mp ?_)
      refine ⟨_, rfl, askI (fun g => ?_) fun g => hn 1 (by omega) rfl g⟩
      have g0 : Lib.hasPrefix s [33, 61] = false := h2 0 (by omega)
      have hE : E35 s = 2 := by unfold E35; rw [if_neg (by rw [g0]; decide)]; exact if_pos g
      show K35 s _ _
      unfold K35; rw [hE]; rfl
    · refine W_wpX (C := C35l) hcw (by intro x hx; cases hx) (n := 40) (tn := t35) (tx := x35) (tr := r35) ((v35b2 s _).mp ?_)
      refine ⟨_, rfl, askI (fun g => ?_) fun g => hn 2 (by omega) rfl g⟩
      have g0 : Lib.hasPrefix s [33, 61] = false := h2 0 (by omega)
      have g1 : Lib.hasPrefix s [60, 61] = false := h2 1 (by omega)
      have hE : E35 s = 3 := by unfold E35; rw [if_neg (by rw [g0]; decide), if_neg (by rw [g1]; decide)]; exact if_pos g
      show K35 s _ _
      unfold K35; rw [hE]; rfl
    · refine W_wpX (C := C35l) hcw (by intro x hx; cases hx) (n := 40) (tn := t35) (tx := x35) (tr := r35) ((v35b3 s _).mp ?_)
      have g0 : Lib.hasPrefix s [33, 61] = false := h2 0 (by omega)
      have g1 : Lib.hasPrefix s [60, 61] = false := h2 1 (by omega)
      have g2 : Lib.hasPrefix s [62, 61] = false := h2 2 (by omega)
      have hE : E35 s = 0 := by unfold E35; rw [if_neg (by rw [g0]; decide), if_neg (by rw [g1]; decide), if_neg (by rw [g2]; decide)]
      show K35 s _ _
      unfold K35; rw [hE]; rfl
theorem sym_E {s : List UInt8} {i : Fin 4} (h : E35 s = i) (h0 : i ≠ 0) : symF s = [[], [33, 61], [60, 61], [62, 61]].getD i.1 [] := by
  subst h
  unfold E35 at h0 ⊢
  unfold symF
  split
  · rfl
  · split
    · rfl
    · split
      · rfl
      · rename_i a b c
        rw [if_neg a, if_neg b, if_neg c] at h0
        exact absurd rfl h0
theorem sym_0 {s : List UInt8} (h : E35 s = 0) : symF s = if !(s == []) && decide (0 ≤ Lib.indexByte onesL (s.getD 0 0)) then s.take 1 else [] := by
  unfold E35 at h
  unfold symF
  split
  · rename_i a; rw [if_pos a] at h; cases h
  · rename_i a; rw [if_neg a] at h
    split
    · rename_i b; rw [if_pos b] at h; cases h
    · rename_i b; rw [if_neg b] at h
      split
      · rename_i c; rw [if_pos c] at h; cases h
      · rfl
theorem sym_ok : QuietOK Tryd.prog 35 fun vs _ => sSym vs := quiet_plain ht35 fun args v h => by
  unfold sSym at h
  split at h
  · rename_i s
    split at h
    · rename_i hs
      cases h
      refine ⟨rfl, rfl, ?_⟩
      have hS : (tbS Q tb35).OK Tryd.prog := tbS_ok quietText (by
        intro x hx
        simp only [tb35, List.mem_cons, List.not_mem_nil, or_false] at hx
        rcases hx with rfl | rfl
        · exact hasPrefix_ok
        · exact indexByte_ok)
      obtain ⟨u, h', rfl, hsem⟩ := sem_vc mixed (C := { C35 with lw := fun id => if id = 2 then some fun st K => st = q35 s 0 ∧ askB (E35 s == 0) (K (.exit 0) (envOf 26 [(0, .str s)], [])) (K .ret (envOf 26 [(2, .str ([[], [33, 61], [60, 61], [62, 61]].getD (E35 s).1 []))], [])) else none }) hS (tbS_q _ _) (tbW_ok rfl) ht35 c35 (one_part rfl (part_loop (id := 2) rfl rfl fun st K hT => by
        obtain ⟨rfl, hk⟩ := hT
        refine W_mono (loop35 s) fun e st he => ?_
        unfold K35 at he
        cases hE : (E35 s == 0) with
        | true => rw [hE] at he hk; cases he; exact hk
        | false => rw [hE] at he hk; cases he; exact hk)) (v35 s fun u _ => u = .str (symF s)) (by
        refine ⟨rfl, askI (fun h0 => ?_) fun h0 => ?_⟩
        · rw [beq_iff_eq] at h0
          have hY := sym_0 h0
          refine askI (fun h1 => ?_) fun h1 => ?_
          · have hp := len_pos h1
            have h1' : (!(s == [])) = true := h1
            rw [h1', Bool.true_and] at hY
            refine chkI (decide_eq_true hp) ⟨_, rfl, ?_⟩
            rw [tou]
            refine askI (fun h2 => chkI (decide_eq_true (by omega)) ?_) fun h2 => ?_
            · rw [hY, if_pos (by simpa [onesL] using h2)]; rfl
            · rw [hY, if_neg (by simpa [onesL] using h2)]
          · have h1' : (!(s == [])) = false := h1
            rw [h1'] at hY
            rw [hY]; rfl
        · rw [sym_E rfl (by rw [beq_eq_false_iff_ne] at h0; exact h0)])
      exact ⟨h', hsem⟩
    · cases h
  · cases h
theorem eqU8 (c k : UInt8) : (((c.toNat : Nat) : Int) == ((k.toNat : Nat) : Int)) = (c == k) := by
  have h := ne_u8 c k
  rw [bne, bne] at h
  exact Bool.not_inj h
theorem eq34 (c : UInt8) : (((c.toNat : Nat) : Int) == 34) = (c == 34) := eqU8 c 34
theorem qd_end {s : List UInt8} {i : Nat} (h : s.length ≤ i) : qd (s.drop i) i = 0 := by rw [List.drop_eq_nil_of_le h]; rfl
theorem qd_q {s : List UInt8} {i : Nat} (h : i < s.length) (hc : (s.getD i 0 == 34) = true) : qd (s.drop i) i = i + 1 := by
  rw [drop_cons h]
  rcases Nat.lt_or_ge (i + 1) s.length with h1 | h1
  · rw [drop_cons h1]; exact if_pos hc
  · rw [List.drop_eq_nil_of_le h1]; exact if_pos hc
theorem qd_b {s : List UInt8} {i : Nat} (h : i < s.length) (h0 : (s.getD i 0 == 34) = false) (hc : (s.getD i 0 == 92) = true) : qd (s.drop i) i = qd (s.drop (i + 2)) (i + 2) := by
  rw [drop_cons h]
  rcases Nat.lt_or_ge (i + 1) s.length with h1 | h1
  · rw [drop_cons h1]; conv => lhs; unfold qd
    rw [h0, hc]; rfl
  · rw [List.drop_eq_nil_of_le h1, List.drop_eq_nil_of_le (by omega)]; exact if_neg (by rw [h0]; decide)
theorem qd_n {s : List UInt8} {i : Nat} (h : i < s.length) (h0 : (s.getD i 0 == 34) = false) (hc : (s.getD i 0 == 92) = false) : qd (s.drop i) i = qd (s.drop (i + 1)) (i + 1) := by
  rw [drop_cons h]
  rcases Nat.lt_or_ge (i + 1) s.length with h1 | h1
  · rw [drop_cons h1]; conv => lhs; unfold qd
    rw [h0, hc]; rfl
  · rw [List.drop_eq_nil_of_le h1]; exact if_neg (by rw [h0]; decide)
def sc39 : PC := (match p39.body with | .seq _ (.scope a) => a | _ => .skip)
theorem gotos39 (s : List UInt8) (hs : s.length ≤ 1099511627776) : ∀ m, PartOK Tryd.prog { C39 with gw := G39 s m } (.scope sc39) := by
  have hcw : CwOK C39.S C39.cw := tbW_ok (Q := Q) (l := []) rfl
  refine part_gotos (P := Tryd.prog) (C := C39) hcw (a := sc39) (by
    have e : partsIn sc39 = [] := rfl
    rw [e]; intro x hx; cases hx) (G39 s) ?_
  intro m l T r st K hT hf ht
  unfold G39 at hT
  split at hT
  · rename_i hl
    subst hl
    cases hT
    obtain ⟨i, rfl, ⟨hd, hm⟩, hk⟩ := ht
    have hr : r = (findP sc39 0).getD .skip := by rw [hf]; rfl
    subst hr
    refine ⟨s.length + 2 - i, 80, hm, ?_⟩
    refine Eq.subst (motive := fun p => p) (v39_0 s (s.length + 2 - i) i K) ?_
    rw [eq34, eq92]
    refine askI (fun g1 => ?_) fun g1 => ?_
    · simp only [decide_eq_true_eq] at g1
      rw [qd_end (by omega)] at hk
      exact hk
    · simp only [decide_eq_false_iff_not] at g1
      have hi : i < s.length := by omega
      have w1 : IntKind.wrap .i64 ((i : Int) + 1) = ((i + 1 : Nat) : Int) := by rw [IntKind.wrap_i64]; omega
      have w2 : IntKind.wrap .i64 (((i + 1 : Nat) : Int) + 1) = ((i + 2 : Nat) : Int) := by rw [IntKind.wrap_i64]; omega
      rw [w1, w2]
      refine chkI (decide_eq_true hi) (askI (fun g2 => ?_) fun g2 => askI (fun g3 => ?_) fun g3 => ?_)
      · rw [qd_q hi g2] at hk
        have e : (((i + 1 : Nat) : Int) - 1) = (i : Int) := by omega
        rw [e] at hk
        exact hk
      · rw [qd_b hi g2 g3] at hk
        exact ⟨i + 2, rfl, ⟨by omega, by omega⟩, hk⟩
      · rw [qd_n hi g2 g3] at hk
        exact ⟨i + 1, rfl, ⟨by omega, by omega⟩, hk⟩
  · cases hT
theorem askS {b : Bool} {T : Prop} (h : T) : askB b T T := by cases b <;> exact h
theorem qz {n : Nat} {R : AV → AHeap → Prop} {h : AHeap} (k : R (.int .i64 (n : Int)) h) : askB (n == 0) (R (.int .i64 0) h) (R (.int .i64 (n : Int)) h) := by
  refine askI (fun g => ?_) fun g => k
  rw [beq_iff_eq] at g
  subst g
  exact k
theorem quoted_ok : QuietOK Tryd.prog 39 fun vs _ => sQuoted vs := quiet_plain ht39 fun args v h => by
  unfold sQuoted at h
  split at h
  · rename_i s
    split at h
    · rename_i hs
      cases h
      refine ⟨rfl, rfl, ?_⟩
      have hS : (tbS Q []).OK Tryd.prog := tbS_ok quietText (by simp)
      obtain ⟨u, h', rfl, hsem⟩ := sem_vc mixed (C := { C39 with gw := G39 s (s.length + 5) }) hS (tbS_q _ _) (tbW_ok rfl) ht39 c39 (fun x hx => by
        have e : partsIn p39.body = [.scope sc39] := rfl
        rw [e, List.mem_singleton] at hx
        subst hx
        exact gotos39 s hs (s.length + 5)) (v39 s (s.length + 5) fun u _ => u = .int .i64 (quotedF s)) (by
        rw [eq34, eq92]
        have hq : quotedF s = qd (s.drop 1) 1 := rfl
        refine askI (fun g1 => ?_) fun g1 => ?_
        · simp only [decide_eq_true_eq] at g1
          rw [hq, qd_end (by omega)]; rfl
        · simp only [decide_eq_false_iff_not] at g1
          have hi : 1 < s.length := by omega
          refine chkI (decide_eq_true hi) (askI (fun g2 => ?_) fun g2 => askI (fun g3 => ?_) fun g3 => ?_)
          · rw [hq, qd_q hi g2]; rfl
          · rw [qd_b hi g2 g3] at hq
            exact ⟨3, rfl, ⟨by omega, by omega⟩, qz (R := fun u _ => u = .int .i64 (quotedF s)) (h := []) (by rw [hq])⟩
          · rw [qd_n hi g2 g3] at hq
            exact ⟨2, rfl, ⟨by omega, by omega⟩, qz (R := fun u _ => u = .int .i64 (quotedF s)) (h := []) (by rw [hq])⟩)
      exact ⟨h', hsem⟩
    · cases h
  · cases h
theorem blk_f (c : UInt8) (l : List UInt8) : blk (c :: l) false = if isBl c then blk l false + 1 else if c == 47 && decide (0 < l.length) && l.getD 0 0 == 47 then blk l true + 1 else 0 := by rw [blk]
theorem blk_t (c : UInt8) (l : List UInt8) : blk (c :: l) true = if c == 10 then blk l false + 1 else blk l true + 1 := by rw [blk]
theorem blk_cons {s : List UInt8} {i : Nat} (h : i < s.length) (hb : isBl (s.getD i 0) = true) : i + blk (s.drop i) false = i + 1 + blk (s.drop (i + 1)) false := by
  rw [drop_cons h]
  have : blk (s.getD i 0 :: s.drop (i + 1)) false = blk (s.drop (i + 1)) false + 1 := by rw [blk_f]; exact if_pos hb
  omega
theorem hasP2 {s : List UInt8} {i : Nat} (h : i < s.length) : Lib.hasPrefix (s.drop i) [47, 47] = (s.getD i 0 == 47 && decide (0 < (s.drop (i + 1)).length) && (s.drop (i + 1)).getD 0 0 == 47) := by
  rw [drop_cons h]
  unfold Lib.hasPrefix
  generalize s.drop (i + 1) = l
  generalize s.getD i 0 = c
  have hc : ∀ a b : UInt8, (a == b) = (b == a) := fun a b => by
    by_cases e : a = b
    · subst e; rfl
    · have h1 : (a == b) = false := by rw [beq_eq_false_iff_ne]; exact e
      have h2 : (b == a) = false := by rw [beq_eq_false_iff_ne]; exact fun h => e h.symm
      rw [h1, h2]
  cases l with
  | nil => simp [List.isPrefixOf]
  | cons d l => simp [List.isPrefixOf, hc c 47, hc d 47]
theorem blk_no {s : List UInt8} {i : Nat} (h : i < s.length) (hb : isBl (s.getD i 0) = false) (hp : Lib.hasPrefix (s.drop i) [47, 47] = false) : blk (s.drop i) false = 0 := by
  rw [hasP2 h] at hp
  rw [drop_cons h]
  rw [blk_f, if_neg (by rw [hb]; decide)]
  exact if_neg (by rw [hp]; decide)
theorem ix_none : ∀ l : List UInt8, Lib.indexByte l 10 < 0 → blk l true = l.length
  | [], _ => rfl
  | c :: l, h => by
    rw [Lib.indexByte] at h
    rw [blk_t]
    split at h
    · omega
    · rename_i hc
      rw [if_neg hc]
      split at h
      · rename_i h2
        rw [beq_iff_eq] at h2
        rw [ix_none l (by omega)]; rfl
      · obtain ⟨a, b⟩ := ix_lt l 10
        rename_i h2
        simp only [beq_iff_eq] at h2
        omega
theorem ix_some : ∀ l : List UInt8, 0 ≤ Lib.indexByte l 10 → blk l true = (Lib.indexByte l 10).toNat + 1 + blk (l.drop ((Lib.indexByte l 10).toNat + 1)) false
  | [], h => by unfold Lib.indexByte at h; omega
  | c :: l, h => by
    rw [Lib.indexByte] at h ⊢
    rw [blk_t]
    cases hc : (c == 10) with
    | true =>
      simp only [if_true, Int.toNat_zero, Nat.zero_add, List.drop_succ_cons, List.drop_zero]
      omega
    | false =>
      rw [hc] at h
      simp only [Bool.false_eq_true, if_false] at h ⊢
      obtain ⟨a, b⟩ := ix_lt l 10
      cases h2 : (Lib.indexByte l 10 == -1) with
      | true => rw [h2] at h; simp at h
      | false =>
        rw [beq_eq_false_iff_ne] at h2
        simp only [Bool.false_eq_true, if_false]
        rw [ix_some l (by omega), show (Lib.indexByte l 10 + 1).toNat = (Lib.indexByte l 10).toNat + 1 by omega, List.drop_succ_cons]
        omega
theorem blk_com {s : List UInt8} {i : Nat} (h : i < s.length) (hp : Lib.hasPrefix (s.drop i) [47, 47] = true) : blk (s.drop i) false = blk (s.drop i) true := by
  rw [hasP2 h] at hp
  have h47 : s.getD i 0 = 47 := by
    simp only [Bool.and_eq_true, beq_iff_eq] at hp
    exact hp.1.1
  rw [drop_cons h, blk_f, blk_t, if_pos hp, h47]
  rfl
theorem isBl_of {c : UInt8} (h : (c == 32) = true ∨ (c == 9) = true ∨ (c == 10) = true ∨ (c == 13) = true) : isBl c = true := by
  unfold isBl; rcases h with h | h | h | h <;> simp [h]
theorem isBl_no {c : UInt8} (h1 : (c == 32) = false) (h2 : (c == 9) = false) (h3 : (c == 10) = false) (h4 : (c == 13) = false) : isBl c = false := by
  unfold isBl; rw [h1, h2, h3, h4]; rfl
theorem eq32 (c : UInt8) : (((c.toNat : Nat) : Int) == 32) = (c == 32) := eqU8 c 32
theorem eq9 (c : UInt8) : (((c.toNat : Nat) : Int) == 9) = (c == 9) := eqU8 c 9
theorem eq10 (c : UInt8) : (((c.toNat : Nat) : Int) == 10) = (c == 10) := eqU8 c 10
theorem eq13 (c : UInt8) : (((c.toNat : Nat) : Int) == 13) = (c == 13) := eqU8 c 13
def sc16 : PC := (match p16.body with | .seq _ (.scope a) => a | _ => .skip)
theorem gotos16 (s : List UInt8) (hs : s.length ≤ 1099511627776) : ∀ m, PartOK Tryd.prog { C16 with gw := G16 s m } (.scope sc16) := by
  have hcw : CwOK C16.S C16.cw := tbW_ok (Q := Q) (l := tb16) rfl
  refine part_gotos (P := Tryd.prog) (C := C16) hcw (a := sc16) (by
    have e : partsIn sc16 = [] := rfl
    rw [e]; intro x hx; cases hx) (G16 s) ?_
  intro m l T r st K hT hf ht
  unfold G16 at hT
  split at hT
  · rename_i hl
    subst hl
    cases hT
    obtain ⟨i, rfl, ⟨hd, hm⟩, hk⟩ := ht
    have hr : r = (findP sc16 0).getD .skip := by rw [hf]; rfl
    subst hr
    refine ⟨s.length - i, 80, hm, ?_⟩
    refine Eq.subst (motive := fun p => p) (v16_0 s (s.length - i) i K) ?_
    rw [eq32, eq9, eq10, eq13]
    refine askI (fun g1 => ?_) fun g1 => ?_
    · rw [beq_iff_eq] at g1
      have hA := hk 0
      rw [List.drop_eq_nil_of_le (by omega)] at hA
      exact hA
    · rw [beq_eq_false_iff_ne] at g1
      have hi : i < s.length := by omega
      have w1 : IntKind.wrap .i64 ((i : Int) + 1) = ((i + 1 : Nat) : Int) := by rw [IntKind.wrap_i64]; omega
      rw [w1]
      have hbl : isBl (s.getD i 0) = true → ∃ i' : Nat, ((envOf 47 [(0, .str s), (1, .int .i64 ((i + 1 : Nat) : Int))], []) : St) = q16 s i' ∧ (i' ≤ s.length ∧ s.length - i' < s.length - i) ∧ ∀ e : Fin 3, askB (e == 0) (K .ret (envOf 47 [(1, .int .i64 ((i' + blk (s.drop i') false : Nat) : Int)), (4, .int .i64 ((i' + blk (s.drop i') false : Nat) : Int)), (19, .int .i64 ((i' + blk (s.drop i') false : Nat) : Int))], [])) (askB (e == 1) (K .ret (envOf 47 [(1, .int .i64 ((i' + blk (s.drop i') false : Nat) : Int)), (4, .int .i64 ((i' + blk (s.drop i') false : Nat) : Int)), (46, .int .i64 ((i' + blk (s.drop i') false : Nat) : Int))], [])) (K .ret (envOf 47 [(0, .str s), (4, .int .i64 ((i' + blk (s.drop i') false : Nat) : Int)), (40, .str s), (41, .int .i64 ((i' + blk (s.drop i') false : Nat) : Int))], []))) := fun hb => by
        rw [blk_cons hi hb] at hk
        exact ⟨i + 1, rfl, ⟨hi, by omega⟩, hk⟩
      refine chkI (decide_eq_true hi) (askI (fun g2 => hbl (isBl_of (.inl g2))) fun g2 => askI (fun g3 => hbl (isBl_of (.inr (.inl g3)))) fun g3 => askI (fun g4 => hbl (isBl_of (.inr (.inr (.inl g4))))) fun g4 => askI (fun g5 => hbl (isBl_of (.inr (.inr (.inr g5))))) fun g5 => ?_)
      have hno := isBl_no g2 g3 g4 g5
      rw [List.take_length]
      refine chkI (decide_eq_true (by omega)) ⟨_, rfl, askI (fun g6 => ?_) fun g6 => ?_⟩
      · have g6' : Lib.hasPrefix (s.drop i) [47, 47] = true := g6
        have hb := blk_com hi g6'
        refine chkI (decide_eq_true (by omega)) ⟨Lib.indexByte (s.drop i) 10, rfl, askI (fun g7 => ?_) fun g7 => ?_⟩
        · simp only [decide_eq_true_eq] at g7
          have hv : i + blk (s.drop i) false = s.length := by rw [hb, ix_none _ g7, List.length_drop]; omega
          rw [hv] at hk
          exact hk 2
        · simp only [decide_eq_false_iff_not] at g7
          obtain ⟨a1, a2⟩ := ix_lt (s.drop i) 10
          rw [List.length_drop] at a1
          have hs2 := ix_some (s.drop i) (by omega)
          obtain ⟨n, hn⟩ : ∃ n : Nat, Lib.indexByte (s.drop i) 10 = n := ⟨(Lib.indexByte (s.drop i) 10).toNat, by omega⟩
          rw [hn] at a1 a2 g7 hs2 ⊢
          rw [Int.toNat_natCast, List.drop_drop, show i + (n + 1) = i + n + 1 by omega] at hs2
          have w2 : IntKind.wrap .i64 ((n : Int) + 1) = ((n + 1 : Nat) : Int) := by rw [IntKind.wrap_i64]; omega
          have w3 : IntKind.wrap .i64 ((i : Int) + ((n + 1 : Nat) : Int)) = ((i + n + 1 : Nat) : Int) := by rw [IntKind.wrap_i64]; omega
          rw [w2, w3]
          have hv : i + blk (s.drop i) false = i + n + 1 + blk (s.drop (i + n + 1)) false := by rw [hb, hs2]; omega
          rw [hv] at hk
          exact ⟨i + n + 1, rfl, ⟨by omega, by omega⟩, hk⟩
      · have g6' : Lib.hasPrefix (s.drop i) [47, 47] = false := g6
        rw [blk_no hi hno g6'] at hk
        exact hk 1
  · cases hT
theorem blank_in {s : List UInt8} {i : Nat} (h : i ≤ s.length) : blankF s i = ((i + blk (s.drop i) false : Nat) : Int) := by
  unfold blankF; rw [if_neg (by omega), Int.toNat_natCast]
theorem blank_out {s : List UInt8} {i : Int} (h : i < 0 ∨ i > (s.length : Int)) : blankF s i = i := if_pos h
theorem blank_ok : QuietOK Tryd.prog 16 fun vs _ => sBlank vs := quiet_plain ht16 fun args v h => by
  unfold sBlank at h
  split at h
  · rename_i s z
    split at h
    · rename_i hs
      cases h
      refine ⟨rfl, rfl, ?_⟩
      have hS : (tbS Q tb16).OK Tryd.prog := tbS_ok quietText (by
        intro x hx
        simp only [tb16, List.mem_cons, List.not_mem_nil, or_false] at hx
        rcases hx with rfl | rfl
        · exact hasPrefix_ok
        · exact indexByte_ok)
      obtain ⟨u, h', rfl, hsem⟩ := sem_vc mixed (C := { C16 with gw := G16 s (s.length + 5) }) hS (tbS_q _ _) (tbW_ok rfl) ht16 c16 (fun x hx => by
        have e : partsIn p16.body = [.scope sc16] := rfl
        rw [e, List.mem_singleton] at hx
        subst hx
        exact gotos16 s hs (s.length + 5)) (v16 s z (s.length + 5) fun u _ => u = .int .i64 (blankF s z)) (by
        refine askI (fun g0 => ?_) fun g0 => askI (fun g0' => ?_) fun g0' => ?_
        · simp only [decide_eq_true_eq] at g0
          rw [blank_out (.inl g0)]
        · simp only [decide_eq_true_eq] at g0'
          rw [blank_out (.inr g0')]
        simp only [decide_eq_false_iff_not] at g0 g0'
        obtain ⟨i, rfl⟩ : ∃ i : Nat, z = i := ⟨z.toNat, by omega⟩
        rw [Int.toNat_natCast, eq32, eq9, eq10, eq13, List.take_length]
        have hB := blank_in (s := s) (i := i) (by omega)
        refine askI (fun g1 => ?_) fun g1 => ?_
        · rw [beq_iff_eq] at g1
          rw [List.drop_eq_nil_of_le (by omega)] at hB
          rw [hB]; rfl
        rw [beq_eq_false_iff_ne] at g1
        have hi : i < s.length := by omega
        have w1 : IntKind.wrap .i64 ((i : Int) + 1) = ((i + 1 : Nat) : Int) := by rw [IntKind.wrap_i64]; omega
        rw [w1]
        have hbl : isBl (s.getD i 0) = true → ∃ i' : Nat, ((envOf 47 [(0, .str s), (1, .int .i64 ((i + 1 : Nat) : Int))], []) : St) = q16 s i' ∧ (i' ≤ s.length ∧ s.length - i' < s.length + 5) ∧ ∀ e : Fin 3, askB (e == 0) (AV.int .i64 ((i' + blk (s.drop i') false : Nat) : Int) = .int .i64 (blankF s i)) (askB (e == 1) (AV.int .i64 ((i' + blk (s.drop i') false : Nat) : Int) = .int .i64 (blankF s i)) (AV.int .i64 ((i' + blk (s.drop i') false : Nat) : Int) = .int .i64 (blankF s i))) := fun hb => by
          rw [blk_cons hi hb] at hB
          exact ⟨i + 1, rfl, ⟨hi, by omega⟩, fun e => askI (fun _ => by rw [hB]) fun _ => askS (by rw [hB])⟩
        refine chkI (decide_eq_true (by omega)) (chkI (decide_eq_true hi) (askI (fun g2 => hbl (isBl_of (.inl g2))) fun g2 => askI (fun g3 => hbl (isBl_of (.inr (.inl g3)))) fun g3 => askI (fun g4 => hbl (isBl_of (.inr (.inr (.inl g4))))) fun g4 => askI (fun g5 => hbl (isBl_of (.inr (.inr (.inr g5))))) fun g5 => ?_))
        have hno := isBl_no g2 g3 g4 g5
        refine chkI (decide_eq_true (by omega)) (chkI (decide_eq_true (by omega)) ⟨_, rfl, askI (fun g6 => ?_) fun g6 => ?_⟩)
        · have g6' : Lib.hasPrefix (s.drop i) [47, 47] = true := g6
          have hb := blk_com hi g6'
          refine chkI (decide_eq_true (by omega)) (chkI (decide_eq_true (by omega)) ⟨Lib.indexByte (s.drop i) 10, rfl, askI (fun g7 => ?_) fun g7 => ?_⟩)
          · simp only [decide_eq_true_eq] at g7
            have hv : i + blk (s.drop i) false = s.length := by rw [hb, ix_none _ g7, List.length_drop]; omega
            rw [hv] at hB
            rw [hB]
          · simp only [decide_eq_false_iff_not] at g7
            obtain ⟨a1, a2⟩ := ix_lt (s.drop i) 10
            rw [List.length_drop] at a1
            have hs2 := ix_some (s.drop i) (by omega)
            obtain ⟨n, hn⟩ : ∃ n : Nat, Lib.indexByte (s.drop i) 10 = n := ⟨(Lib.indexByte (s.drop i) 10).toNat, by omega⟩
            rw [hn] at a1 a2 g7 hs2 ⊢
            rw [Int.toNat_natCast, List.drop_drop, show i + (n + 1) = i + n + 1 by omega] at hs2
            have w2 : IntKind.wrap .i64 ((n : Int) + 1) = ((n + 1 : Nat) : Int) := by rw [IntKind.wrap_i64]; omega
            have w3 : IntKind.wrap .i64 ((i : Int) + ((n + 1 : Nat) : Int)) = ((i + n + 1 : Nat) : Int) := by rw [IntKind.wrap_i64]; omega
            rw [w2, w3]
            have hv : i + blk (s.drop i) false = i + n + 1 + blk (s.drop (i + n + 1)) false := by rw [hb, hs2]; omega
            rw [hv] at hB
            exact ⟨i + n + 1, rfl, ⟨by omega, by omega⟩, fun e => askI (fun _ => by rw [hB]) fun _ => askS (by rw [hB])⟩
        · have g6' : Lib.hasPrefix (s.drop i) [47, 47] = false := g6
          rw [blk_no hi hno g6'] at hB
          rw [hB]; rfl)
      exact ⟨h', hsem⟩
    · cases h
  · cases h
def z13 : List AV := [.int .i64 0, .str [], .int .i64 0, .bool false, .int .u64 0, .int .u64 0, .int .u64 0, .int .u64 0, .int .i64 0, .bool false, .str [], .int .i64 0, .int .i64 0]
def tokV (kind : Int) (text : List UInt8) (vk : Int) (neg : Bool) (n sc : Int) (vt : List UInt8) (at' : Int) : List AV :=
  [.int .i64 kind, .str text, .int .i64 vk, .bool neg, .int .u64 (n % 18446744073709551616), .int .u64 (n / 18446744073709551616 % 18446744073709551616), .int .u64 (n / 18446744073709551616 / 18446744073709551616 % 18446744073709551616), .int .u64 (n / 18446744073709551616 / 18446744073709551616 / 18446744073709551616 % 18446744073709551616), .int .i64 sc, .bool false, .str vt, .int .i64 0, .int .i64 at']
def quoOK (w : List UInt8) : Bool := (unquoteF w).2 && decide ((unquoteF w).1.length ≤ 64)
def numOK (w : List UInt8) : Bool := (parseD w).2.2.2 == 0
def tokName (t : List UInt8) (at' : Int) : List AV := tokV 1 (t.take (runF t)) 0 false 0 0 [] at'
def tokNum (t : List UInt8) (at' : Int) : List AV := tokV 2 (t.take (prefixF t)) 1 (parseD (t.take (prefixF t))).1 (parseD (t.take (prefixF t))).2.1 (parseD (t.take (prefixF t))).2.2.1 [] at'
def tokQuo (t : List UInt8) (at' : Int) : List AV := tokV 3 (t.take (quotedF t)) 3 false 0 0 (unquoteF (t.take (quotedF t))).1 at'
def tokSym (t : List UInt8) (at' : Int) : List AV := tokV 4 (symF t) 0 false 0 0 [] at'
def nextAt (t : List UInt8) (at' : Int) : List AV × Int :=
  if letterF (t.getD 0 0) then (if nameF (t.take (runF t)) then (tokName t at', 0) else (z13, 70))
  else if isD (t.getD 0 0) then (if numOK (t.take (prefixF t)) then (tokNum t at', 0) else (z13, 70))
  else if t.getD 0 0 == 34 then (if quoOK (t.take (quotedF t)) then (tokQuo t at', 0) else (z13, 70))
  else if symF t == [] then (z13, 70) else (tokSym t at', 0)
def nextF (s : List UInt8) (at' : Int) : List AV × Int := if at' < 0 ∨ at' ≥ (s.length : Int) then (z13, 4) else nextAt (s.drop at'.toNat) at'
def sNext : List AV → Option AV
  | [.str s, .int .i64 i] => if s.length ≤ 1048577 then some (.tup [.agg (nextF s i).1, .int .i64 (nextF s i).2]) else none
  | _ => none
def ag6 : Rs1 := .agg [.bool, .int .u64, .int .u64, .int .u64, .int .u64, .int .i64]
def tb18 : List TbE := [⟨33, fun vs _ => sLet vs, .of (.one .bool)⟩, ⟨34, fun vs _ => sIsD vs, .of (.one .bool)⟩, ⟨35, fun vs _ => sSym vs, .of (.one .str)⟩, ⟨36, fun vs _ => sRun vs, .of (.one (.int .i64))⟩, ⟨21, fun vs _ => sName vs, .of (.one .bool)⟩, ⟨37, fun vs _ => sPrefix vs, .of (.one (.int .i64))⟩, ⟨38, fun vs _ => sParseD vs, .tup [ag6, .one (.int .i64)]⟩, ⟨39, fun vs _ => sQuoted vs, .of (.one (.int .i64))⟩, ⟨12, fun vs _ => sUnquote vs, .tup [.one .str, .one .bool]⟩]
def at13 (at' : Int) : List AV := [.int .i64 0, .str [], .int .i64 0, .bool false, .int .u64 0, .int .u64 0, .int .u64 0, .int .u64 0, .int .i64 0, .bool false, .str [], .int .i64 0, .int .i64 at']
def q18 (t : List UInt8) (at' : Int) : St := (envOf 98 [(4, .ptr (some (0, 0))), (6, .str t), (7, .ptr (some (1, 0)))], [.row 41 13 z13, .row 41 13 (at13 at')])
def a18 (k : Nat) (tok : List AV) : St := (envOf 98 [(4, .ptr (some (0, 0))), (5, .int .i64 0), (7, .ptr (some (1, 0))), (k, .agg tok)], [.row 41 13 tok, .row 41 13 tok])
def b18 : St := (envOf 98 [(4, .ptr (some (0, 0))), (5, .int .i64 70), (97, .agg z13)], [.row 41 13 z13])
def C18 : Cfg := { tbC Q tb18 (fun _ => false) kdI with
  F := fun id => if id = 1000000 ∨ id = 1000001 ∨ id = 1000002 then ⟨dropT 98 [4, 6, 7], .all⟩ else if id = 1000003 ∨ id = 24 then ⟨dropT 98 [4], .rows [0]⟩
    else if id = 10 ∨ id = 13 ∨ id = 18 ∨ id = 23 then ⟨dropT 98 [4, 7], .rows [0, 1]⟩ else ⟨[], .all⟩ }
def G18 (s : List UInt8) (m : Nat) (l : Nat) : Option (St → (AExit → St → Prop) → Prop) :=
  if l = 0 then some fun st K => ∃ (t : List UInt8) (at' : Int), st = q18 t at' ∧ (0 < t.length ∧ t.length ≤ 1048577 ∧ 1 < m) ∧ askB (nameF (t.take (runF t))) (K .ret (a18 56 (tokName t at'))) (K .ret b18)
  else if l = 1 then some fun st K => ∃ (t : List UInt8) (at' : Int), st = q18 t at' ∧ (0 < t.length ∧ t.length ≤ 1048577 ∧ 1 < m) ∧ askB (numOK (t.take (prefixF t))) (K .ret (a18 74 (tokNum t at'))) (K .ret b18)
  else if l = 2 then some fun st K => ∃ (t : List UInt8) (at' : Int), st = q18 t at' ∧ (0 < t.length ∧ t.length ≤ 1048577 ∧ 1 < m) ∧ askB (quoOK (t.take (quotedF t))) (K .ret (a18 96 (tokQuo t at'))) (K .ret b18)
  else if l = 3 then some fun st K => st = (envOf 98 [(4, .ptr (some (0, 0)))], [.row 41 13 z13]) ∧ 0 < m ∧ K .ret b18
  else none
theorem v18_0 (s t : List UInt8) (at' : Int) (m : Nat) (K : AExit → St → Prop) : (∃ (n : Int), sRun [AV.str t] = some (AV.int .i64 n) ∧ chkW (decide (0 ≤ n)) (chkW (decide (n ≤ (↑(List.length t) : Int))) (∃ (b : Bool), sName [AV.str (List.drop 0 (List.take (Int.toNat n) t))] = some (AV.bool b) ∧ askB b (K AExit.ret (envOf 98 [(4, AV.ptr (some (0, 0))), (5, AV.int .i64 0), (7, AV.ptr (some (1, 0))), (56, AV.agg [AV.int .i64 1, AV.str (List.drop 0 (List.take (Int.toNat n) t)), AV.int .i64 0, AV.bool false, AV.int .u64 0, AV.int .u64 0, AV.int .u64 0, AV.int .u64 0, AV.int .i64 0, AV.bool false, AV.str [], AV.int .i64 0, AV.int .i64 at'])], [AObj.row 41 13 [AV.int .i64 1, AV.str (List.drop 0 (List.take (Int.toNat n) t)), AV.int .i64 0, AV.bool false, AV.int .u64 0, AV.int .u64 0, AV.int .u64 0, AV.int .u64 0, AV.int .i64 0, AV.bool false, AV.str [], AV.int .i64 0, AV.int .i64 at'], AObj.row 41 13 [AV.int .i64 1, AV.str (List.drop 0 (List.take (Int.toNat n) t)), AV.int .i64 0, AV.bool false, AV.int .u64 0, AV.int .u64 0, AV.int .u64 0, AV.int .u64 0, AV.int .i64 0, AV.bool false, AV.str [], AV.int .i64 0, AV.int .i64 at']])) ((envOf 98 [(4, AV.ptr (some (0, 0)))], [AObj.row 41 13 [AV.int .i64 0, AV.str [], AV.int .i64 0, AV.bool false, AV.int .u64 0, AV.int .u64 0, AV.int .u64 0, AV.int .u64 0, AV.int .i64 0, AV.bool false, AV.str [], AV.int .i64 0, AV.int .i64 0]]) = (envOf 98 [(4, AV.ptr (some (0, 0)))], [AObj.row 41 13 [AV.int .i64 0, AV.str [], AV.int .i64 0, AV.bool false, AV.int .u64 0, AV.int .u64 0, AV.int .u64 0, AV.int .u64 0, AV.int .i64 0, AV.bool false, AV.str [], AV.int .i64 0, AV.int .i64 0]]) ∧ 0 < m ∧ K AExit.ret (envOf 98 [(4, AV.ptr (some (0, 0))), (5, AV.int .i64 70), (97, AV.agg [AV.int .i64 0, AV.str [], AV.int .i64 0, AV.bool false, AV.int .u64 0, AV.int .u64 0, AV.int .u64 0, AV.int .u64 0, AV.int .i64 0, AV.bool false, AV.str [], AV.int .i64 0, AV.int .i64 0])], [AObj.row 41 13 [AV.int .i64 0, AV.str [], AV.int .i64 0, AV.bool false, AV.int .u64 0, AV.int .u64 0, AV.int .u64 0, AV.int .u64 0, AV.int .i64 0, AV.bool false, AV.str [], AV.int .i64 0, AV.int .i64 0]]))))) = (wpP Tryd.prog { C18 with gw := G18 s m } 80 (.inr ((match p18.body with | .seq _ (.scope a) => a | _ => .skip), ((findP (match p18.body with | .seq _ (.scope a) => a | _ => .skip) 0).getD .skip))) (q18 t at') K) := by kernel_rfl
theorem v18_1 (s t : List UInt8) (at' : Int) (m : Nat) (K : AExit → St → Prop) : (∃ (n : Int), sPrefix [AV.str t] = some (AV.int .i64 n) ∧ chkW (decide (0 ≤ n)) (chkW (decide (n ≤ (↑(List.length t) : Int))) (∃ (b : Bool), ∃ (n_1 : Int), ∃ (n_2 : Int), ∃ (n_3 : Int), ∃ (n_4 : Int), ∃ (n_5 : Int), ∃ (n_6 : Int), sParseD [AV.str (List.drop 0 (List.take (Int.toNat n) t))] = some (AV.tup [AV.agg [AV.bool b, AV.int .u64 n_1, AV.int .u64 n_2, AV.int .u64 n_3, AV.int .u64 n_4, AV.int .i64 n_5], AV.int .i64 n_6]) ∧ askB (n_6 == 0) (K AExit.ret (envOf 98 [(4, AV.ptr (some (0, 0))), (5, AV.int .i64 0), (7, AV.ptr (some (1, 0))), (74, AV.agg [AV.int .i64 2, AV.str (List.drop 0 (List.take (Int.toNat n) t)), AV.int .i64 1, AV.bool b, AV.int .u64 n_1, AV.int .u64 n_2, AV.int .u64 n_3, AV.int .u64 n_4, AV.int .i64 n_5, AV.bool false, AV.str [], AV.int .i64 0, AV.int .i64 at'])], [AObj.row 41 13 [AV.int .i64 2, AV.str (List.drop 0 (List.take (Int.toNat n) t)), AV.int .i64 1, AV.bool b, AV.int .u64 n_1, AV.int .u64 n_2, AV.int .u64 n_3, AV.int .u64 n_4, AV.int .i64 n_5, AV.bool false, AV.str [], AV.int .i64 0, AV.int .i64 at'], AObj.row 41 13 [AV.int .i64 2, AV.str (List.drop 0 (List.take (Int.toNat n) t)), AV.int .i64 1, AV.bool b, AV.int .u64 n_1, AV.int .u64 n_2, AV.int .u64 n_3, AV.int .u64 n_4, AV.int .i64 n_5, AV.bool false, AV.str [], AV.int .i64 0, AV.int .i64 at']])) ((envOf 98 [(4, AV.ptr (some (0, 0)))], [AObj.row 41 13 [AV.int .i64 0, AV.str [], AV.int .i64 0, AV.bool false, AV.int .u64 0, AV.int .u64 0, AV.int .u64 0, AV.int .u64 0, AV.int .i64 0, AV.bool false, AV.str [], AV.int .i64 0, AV.int .i64 0]]) = (envOf 98 [(4, AV.ptr (some (0, 0)))], [AObj.row 41 13 [AV.int .i64 0, AV.str [], AV.int .i64 0, AV.bool false, AV.int .u64 0, AV.int .u64 0, AV.int .u64 0, AV.int .u64 0, AV.int .i64 0, AV.bool false, AV.str [], AV.int .i64 0, AV.int .i64 0]]) ∧ 0 < m ∧ K AExit.ret (envOf 98 [(4, AV.ptr (some (0, 0))), (5, AV.int .i64 70), (97, AV.agg [AV.int .i64 0, AV.str [], AV.int .i64 0, AV.bool false, AV.int .u64 0, AV.int .u64 0, AV.int .u64 0, AV.int .u64 0, AV.int .i64 0, AV.bool false, AV.str [], AV.int .i64 0, AV.int .i64 0])], [AObj.row 41 13 [AV.int .i64 0, AV.str [], AV.int .i64 0, AV.bool false, AV.int .u64 0, AV.int .u64 0, AV.int .u64 0, AV.int .u64 0, AV.int .i64 0, AV.bool false, AV.str [], AV.int .i64 0, AV.int .i64 0]]))))) = (wpP Tryd.prog { C18 with gw := G18 s m } 80 (.inr ((match p18.body with | .seq _ (.scope a) => a | _ => .skip), ((findP (match p18.body with | .seq _ (.scope a) => a | _ => .skip) 1).getD .skip))) (q18 t at') K) := by kernel_rfl
theorem v18_2 (s t : List UInt8) (at' : Int) (m : Nat) (K : AExit → St → Prop) : (∃ (n : Int), sQuoted [AV.str t] = some (AV.int .i64 n) ∧ chkW (decide (0 ≤ n)) (chkW (decide (n ≤ (↑(List.length t) : Int))) (∃ (s : List UInt8), ∃ (b : Bool), sUnquote [AV.str (List.drop 0 (List.take (Int.toNat n) t))] = some (AV.tup [AV.str s, AV.bool b]) ∧ askB b (askB (decide ((↑(List.length s) : Int) ≤ 64)) (K AExit.ret (envOf 98 [(4, AV.ptr (some (0, 0))), (5, AV.int .i64 0), (7, AV.ptr (some (1, 0))), (96, AV.agg [AV.int .i64 3, AV.str (List.drop 0 (List.take (Int.toNat n) t)), AV.int .i64 3, AV.bool false, AV.int .u64 0, AV.int .u64 0, AV.int .u64 0, AV.int .u64 0, AV.int .i64 0, AV.bool false, AV.str s, AV.int .i64 0, AV.int .i64 at'])], [AObj.row 41 13 [AV.int .i64 3, AV.str (List.drop 0 (List.take (Int.toNat n) t)), AV.int .i64 3, AV.bool false, AV.int .u64 0, AV.int .u64 0, AV.int .u64 0, AV.int .u64 0, AV.int .i64 0, AV.bool false, AV.str s, AV.int .i64 0, AV.int .i64 at'], AObj.row 41 13 [AV.int .i64 3, AV.str (List.drop 0 (List.take (Int.toNat n) t)), AV.int .i64 3, AV.bool false, AV.int .u64 0, AV.int .u64 0, AV.int .u64 0, AV.int .u64 0, AV.int .i64 0, AV.bool false, AV.str s, AV.int .i64 0, AV.int .i64 at']])) (K AExit.ret (envOf 98 [(4, AV.ptr (some (0, 0))), (5, AV.int .i64 70), (97, AV.agg [AV.int .i64 0, AV.str [], AV.int .i64 0, AV.bool false, AV.int .u64 0, AV.int .u64 0, AV.int .u64 0, AV.int .u64 0, AV.int .i64 0, AV.bool false, AV.str [], AV.int .i64 0, AV.int .i64 0])], [AObj.row 41 13 [AV.int .i64 0, AV.str [], AV.int .i64 0, AV.bool false, AV.int .u64 0, AV.int .u64 0, AV.int .u64 0, AV.int .u64 0, AV.int .i64 0, AV.bool false, AV.str [], AV.int .i64 0, AV.int .i64 0]]))) (K AExit.ret (envOf 98 [(4, AV.ptr (some (0, 0))), (5, AV.int .i64 70), (97, AV.agg [AV.int .i64 0, AV.str [], AV.int .i64 0, AV.bool false, AV.int .u64 0, AV.int .u64 0, AV.int .u64 0, AV.int .u64 0, AV.int .i64 0, AV.bool false, AV.str [], AV.int .i64 0, AV.int .i64 0])], [AObj.row 41 13 [AV.int .i64 0, AV.str [], AV.int .i64 0, AV.bool false, AV.int .u64 0, AV.int .u64 0, AV.int .u64 0, AV.int .u64 0, AV.int .i64 0, AV.bool false, AV.str [], AV.int .i64 0, AV.int .i64 0]]))))) = (wpP Tryd.prog { C18 with gw := G18 s m } 80 (.inr ((match p18.body with | .seq _ (.scope a) => a | _ => .skip), ((findP (match p18.body with | .seq _ (.scope a) => a | _ => .skip) 2).getD .skip))) (q18 t at') K) := by kernel_rfl
theorem v18_3 (s : List UInt8) (m : Nat) (K : AExit → St → Prop) : (K AExit.ret (envOf 98 [(4, AV.ptr (some (0, 0))), (5, AV.int .i64 70), (97, AV.agg [AV.int .i64 0, AV.str [], AV.int .i64 0, AV.bool false, AV.int .u64 0, AV.int .u64 0, AV.int .u64 0, AV.int .u64 0, AV.int .i64 0, AV.bool false, AV.str [], AV.int .i64 0, AV.int .i64 0])], [AObj.row 41 13 [AV.int .i64 0, AV.str [], AV.int .i64 0, AV.bool false, AV.int .u64 0, AV.int .u64 0, AV.int .u64 0, AV.int .u64 0, AV.int .i64 0, AV.bool false, AV.str [], AV.int .i64 0, AV.int .i64 0]])) = (wpP Tryd.prog { C18 with gw := G18 s m } 80 (.inr ((match p18.body with | .seq _ (.scope a) => a | _ => .skip), ((findP (match p18.body with | .seq _ (.scope a) => a | _ => .skip) 3).getD .skip))) (envOf 98 [(4, .ptr (some (0, 0)))], [.row 41 13 z13]) K) := by kernel_rfl
theorem v18 (s : List UInt8) (i : Int) (m : Nat) (R : AV → AHeap → Prop) : (askB (decide (i < 0)) (R (AV.tup [AV.agg [AV.int .i64 0, AV.str [], AV.int .i64 0, AV.bool false, AV.int .u64 0, AV.int .u64 0, AV.int .u64 0, AV.int .u64 0, AV.int .i64 0, AV.bool false, AV.str [], AV.int .i64 0, AV.int .i64 0], AV.int .i64 4]) [AObj.row 41 13 [AV.int .i64 0, AV.str [], AV.int .i64 0, AV.bool false, AV.int .u64 0, AV.int .u64 0, AV.int .u64 0, AV.int .u64 0, AV.int .i64 0, AV.bool false, AV.str [], AV.int .i64 0, AV.int .i64 0]]) (askB (decide (i ≥ (↑(List.length s) : Int))) (R (AV.tup [AV.agg [AV.int .i64 0, AV.str [], AV.int .i64 0, AV.bool false, AV.int .u64 0, AV.int .u64 0, AV.int .u64 0, AV.int .u64 0, AV.int .i64 0, AV.bool false, AV.str [], AV.int .i64 0, AV.int .i64 0], AV.int .i64 4]) [AObj.row 41 13 [AV.int .i64 0, AV.str [], AV.int .i64 0, AV.bool false, AV.int .u64 0, AV.int .u64 0, AV.int .u64 0, AV.int .u64 0, AV.int .i64 0, AV.bool false, AV.str [], AV.int .i64 0, AV.int .i64 0]]) (chkW (decide (0 ≤ i)) (chkW (decide (i ≤ (↑(List.length s) : Int))) (chkW (decide (0 < List.length (List.drop (Int.toNat i) (List.take (List.length s) s)))) (∃ (b : Bool), sLet [AV.int .u8 (↑(UInt8.toNat (List.getD (List.drop (Int.toNat i) (List.take (List.length s) s)) 0 0)) : Int)] = some (AV.bool b) ∧ askB b (∃ (t : List UInt8), ∃ (at' : Int), (envOf 98 [(4, AV.ptr (some (0, 0))), (6, AV.str (List.drop (Int.toNat i) (List.take (List.length s) s))), (7, AV.ptr (some (1, 0)))], [AObj.row 41 13 [AV.int .i64 0, AV.str [], AV.int .i64 0, AV.bool false, AV.int .u64 0, AV.int .u64 0, AV.int .u64 0, AV.int .u64 0, AV.int .i64 0, AV.bool false, AV.str [], AV.int .i64 0, AV.int .i64 0], AObj.row 41 13 [AV.int .i64 0, AV.str [], AV.int .i64 0, AV.bool false, AV.int .u64 0, AV.int .u64 0, AV.int .u64 0, AV.int .u64 0, AV.int .i64 0, AV.bool false, AV.str [], AV.int .i64 0, AV.int .i64 i]]) = (envOf 98 [(4, AV.ptr (some (0, 0))), (6, AV.str t), (7, AV.ptr (some (1, 0)))], [AObj.row 41 13 [AV.int .i64 0, AV.str [], AV.int .i64 0, AV.bool false, AV.int .u64 0, AV.int .u64 0, AV.int .u64 0, AV.int .u64 0, AV.int .i64 0, AV.bool false, AV.str [], AV.int .i64 0, AV.int .i64 0], AObj.row 41 13 [AV.int .i64 0, AV.str [], AV.int .i64 0, AV.bool false, AV.int .u64 0, AV.int .u64 0, AV.int .u64 0, AV.int .u64 0, AV.int .i64 0, AV.bool false, AV.str [], AV.int .i64 0, AV.int .i64 at']]) ∧ (0 < List.length t ∧ List.length t ≤ 1048577 ∧ 1 < m) ∧ askB (nameF (List.take (runF t) t)) (R (AV.tup [AV.agg [AV.int .i64 1, AV.str (List.take (runF t) t), AV.int .i64 0, AV.bool false, AV.int .u64 0, AV.int .u64 0, AV.int .u64 0, AV.int .u64 0, AV.int .i64 0, AV.bool false, AV.str [], AV.int .i64 0, AV.int .i64 at'], AV.int .i64 0]) [AObj.row 41 13 [AV.int .i64 1, AV.str (List.take (runF t) t), AV.int .i64 0, AV.bool false, AV.int .u64 0, AV.int .u64 0, AV.int .u64 0, AV.int .u64 0, AV.int .i64 0, AV.bool false, AV.str [], AV.int .i64 0, AV.int .i64 at'], AObj.row 41 13 [AV.int .i64 1, AV.str (List.take (runF t) t), AV.int .i64 0, AV.bool false, AV.int .u64 0, AV.int .u64 0, AV.int .u64 0, AV.int .u64 0, AV.int .i64 0, AV.bool false, AV.str [], AV.int .i64 0, AV.int .i64 at']]) (R (AV.tup [AV.agg [AV.int .i64 0, AV.str [], AV.int .i64 0, AV.bool false, AV.int .u64 0, AV.int .u64 0, AV.int .u64 0, AV.int .u64 0, AV.int .i64 0, AV.bool false, AV.str [], AV.int .i64 0, AV.int .i64 0], AV.int .i64 70]) [AObj.row 41 13 [AV.int .i64 0, AV.str [], AV.int .i64 0, AV.bool false, AV.int .u64 0, AV.int .u64 0, AV.int .u64 0, AV.int .u64 0, AV.int .i64 0, AV.bool false, AV.str [], AV.int .i64 0, AV.int .i64 0]])) (chkW (decide (0 < List.length (List.drop (Int.toNat i) (List.take (List.length s) s)))) (∃ (b : Bool), sIsD [AV.int .u8 (↑(UInt8.toNat (List.getD (List.drop (Int.toNat i) (List.take (List.length s) s)) 0 0)) : Int)] = some (AV.bool b) ∧ askB b (∃ (t : List UInt8), ∃ (at' : Int), (envOf 98 [(4, AV.ptr (some (0, 0))), (6, AV.str (List.drop (Int.toNat i) (List.take (List.length s) s))), (7, AV.ptr (some (1, 0)))], [AObj.row 41 13 [AV.int .i64 0, AV.str [], AV.int .i64 0, AV.bool false, AV.int .u64 0, AV.int .u64 0, AV.int .u64 0, AV.int .u64 0, AV.int .i64 0, AV.bool false, AV.str [], AV.int .i64 0, AV.int .i64 0], AObj.row 41 13 [AV.int .i64 0, AV.str [], AV.int .i64 0, AV.bool false, AV.int .u64 0, AV.int .u64 0, AV.int .u64 0, AV.int .u64 0, AV.int .i64 0, AV.bool false, AV.str [], AV.int .i64 0, AV.int .i64 i]]) = (envOf 98 [(4, AV.ptr (some (0, 0))), (6, AV.str t), (7, AV.ptr (some (1, 0)))], [AObj.row 41 13 [AV.int .i64 0, AV.str [], AV.int .i64 0, AV.bool false, AV.int .u64 0, AV.int .u64 0, AV.int .u64 0, AV.int .u64 0, AV.int .i64 0, AV.bool false, AV.str [], AV.int .i64 0, AV.int .i64 0], AObj.row 41 13 [AV.int .i64 0, AV.str [], AV.int .i64 0, AV.bool false, AV.int .u64 0, AV.int .u64 0, AV.int .u64 0, AV.int .u64 0, AV.int .i64 0, AV.bool false, AV.str [], AV.int .i64 0, AV.int .i64 at']]) ∧ (0 < List.length t ∧ List.length t ≤ 1048577 ∧ 1 < m) ∧ askB (numOK (List.take (prefixF t) t)) (R (AV.tup [AV.agg [AV.int .i64 2, AV.str (List.take (prefixF t) t), AV.int .i64 1, AV.bool (Prod.fst (parseD (List.take (prefixF t) t))), AV.int .u64 (Prod.fst (Prod.snd (parseD (List.take (prefixF t) t))) % 18446744073709551616), AV.int .u64 (Prod.fst (Prod.snd (parseD (List.take (prefixF t) t))) / 18446744073709551616 % 18446744073709551616), AV.int .u64 (Prod.fst (Prod.snd (parseD (List.take (prefixF t) t))) / 18446744073709551616 / 18446744073709551616 % 18446744073709551616), AV.int .u64 (Prod.fst (Prod.snd (parseD (List.take (prefixF t) t))) / 18446744073709551616 / 18446744073709551616 / 18446744073709551616 % 18446744073709551616), AV.int .i64 (Prod.fst (Prod.snd (Prod.snd (parseD (List.take (prefixF t) t))))), AV.bool false, AV.str [], AV.int .i64 0, AV.int .i64 at'], AV.int .i64 0]) [AObj.row 41 13 [AV.int .i64 2, AV.str (List.take (prefixF t) t), AV.int .i64 1, AV.bool (Prod.fst (parseD (List.take (prefixF t) t))), AV.int .u64 (Prod.fst (Prod.snd (parseD (List.take (prefixF t) t))) % 18446744073709551616), AV.int .u64 (Prod.fst (Prod.snd (parseD (List.take (prefixF t) t))) / 18446744073709551616 % 18446744073709551616), AV.int .u64 (Prod.fst (Prod.snd (parseD (List.take (prefixF t) t))) / 18446744073709551616 / 18446744073709551616 % 18446744073709551616), AV.int .u64 (Prod.fst (Prod.snd (parseD (List.take (prefixF t) t))) / 18446744073709551616 / 18446744073709551616 / 18446744073709551616 % 18446744073709551616), AV.int .i64 (Prod.fst (Prod.snd (Prod.snd (parseD (List.take (prefixF t) t))))), AV.bool false, AV.str [], AV.int .i64 0, AV.int .i64 at'], AObj.row 41 13 [AV.int .i64 2, AV.str (List.take (prefixF t) t), AV.int .i64 1, AV.bool (Prod.fst (parseD (List.take (prefixF t) t))), AV.int .u64 (Prod.fst (Prod.snd (parseD (List.take (prefixF t) t))) % 18446744073709551616), AV.int .u64 (Prod.fst (Prod.snd (parseD (List.take (prefixF t) t))) / 18446744073709551616 % 18446744073709551616), AV.int .u64 (Prod.fst (Prod.snd (parseD (List.take (prefixF t) t))) / 18446744073709551616 / 18446744073709551616 % 18446744073709551616), AV.int .u64 (Prod.fst (Prod.snd (parseD (List.take (prefixF t) t))) / 18446744073709551616 / 18446744073709551616 / 18446744073709551616 % 18446744073709551616), AV.int .i64 (Prod.fst (Prod.snd (Prod.snd (parseD (List.take (prefixF t) t))))), AV.bool false, AV.str [], AV.int .i64 0, AV.int .i64 at']]) (R (AV.tup [AV.agg [AV.int .i64 0, AV.str [], AV.int .i64 0, AV.bool false, AV.int .u64 0, AV.int .u64 0, AV.int .u64 0, AV.int .u64 0, AV.int .i64 0, AV.bool false, AV.str [], AV.int .i64 0, AV.int .i64 0], AV.int .i64 70]) [AObj.row 41 13 [AV.int .i64 0, AV.str [], AV.int .i64 0, AV.bool false, AV.int .u64 0, AV.int .u64 0, AV.int .u64 0, AV.int .u64 0, AV.int .i64 0, AV.bool false, AV.str [], AV.int .i64 0, AV.int .i64 0]])) (chkW (decide (0 < List.length (List.drop (Int.toNat i) (List.take (List.length s) s)))) (askB ((↑(UInt8.toNat (List.getD (List.drop (Int.toNat i) (List.take (List.length s) s)) 0 0)) : Int) == 34) (∃ (t : List UInt8), ∃ (at' : Int), (envOf 98 [(4, AV.ptr (some (0, 0))), (6, AV.str (List.drop (Int.toNat i) (List.take (List.length s) s))), (7, AV.ptr (some (1, 0)))], [AObj.row 41 13 [AV.int .i64 0, AV.str [], AV.int .i64 0, AV.bool false, AV.int .u64 0, AV.int .u64 0, AV.int .u64 0, AV.int .u64 0, AV.int .i64 0, AV.bool false, AV.str [], AV.int .i64 0, AV.int .i64 0], AObj.row 41 13 [AV.int .i64 0, AV.str [], AV.int .i64 0, AV.bool false, AV.int .u64 0, AV.int .u64 0, AV.int .u64 0, AV.int .u64 0, AV.int .i64 0, AV.bool false, AV.str [], AV.int .i64 0, AV.int .i64 i]]) = (envOf 98 [(4, AV.ptr (some (0, 0))), (6, AV.str t), (7, AV.ptr (some (1, 0)))], [AObj.row 41 13 [AV.int .i64 0, AV.str [], AV.int .i64 0, AV.bool false, AV.int .u64 0, AV.int .u64 0, AV.int .u64 0, AV.int .u64 0, AV.int .i64 0, AV.bool false, AV.str [], AV.int .i64 0, AV.int .i64 0], AObj.row 41 13 [AV.int .i64 0, AV.str [], AV.int .i64 0, AV.bool false, AV.int .u64 0, AV.int .u64 0, AV.int .u64 0, AV.int .u64 0, AV.int .i64 0, AV.bool false, AV.str [], AV.int .i64 0, AV.int .i64 at']]) ∧ (0 < List.length t ∧ List.length t ≤ 1048577 ∧ 1 < m) ∧ askB (quoOK (List.take (quotedF t) t)) (R (AV.tup [AV.agg [AV.int .i64 3, AV.str (List.take (quotedF t) t), AV.int .i64 3, AV.bool false, AV.int .u64 0, AV.int .u64 0, AV.int .u64 0, AV.int .u64 0, AV.int .i64 0, AV.bool false, AV.str (Prod.fst (unquoteF (List.take (quotedF t) t))), AV.int .i64 0, AV.int .i64 at'], AV.int .i64 0]) [AObj.row 41 13 [AV.int .i64 3, AV.str (List.take (quotedF t) t), AV.int .i64 3, AV.bool false, AV.int .u64 0, AV.int .u64 0, AV.int .u64 0, AV.int .u64 0, AV.int .i64 0, AV.bool false, AV.str (Prod.fst (unquoteF (List.take (quotedF t) t))), AV.int .i64 0, AV.int .i64 at'], AObj.row 41 13 [AV.int .i64 3, AV.str (List.take (quotedF t) t), AV.int .i64 3, AV.bool false, AV.int .u64 0, AV.int .u64 0, AV.int .u64 0, AV.int .u64 0, AV.int .i64 0, AV.bool false, AV.str (Prod.fst (unquoteF (List.take (quotedF t) t))), AV.int .i64 0, AV.int .i64 at']]) (R (AV.tup [AV.agg [AV.int .i64 0, AV.str [], AV.int .i64 0, AV.bool false, AV.int .u64 0, AV.int .u64 0, AV.int .u64 0, AV.int .u64 0, AV.int .i64 0, AV.bool false, AV.str [], AV.int .i64 0, AV.int .i64 0], AV.int .i64 70]) [AObj.row 41 13 [AV.int .i64 0, AV.str [], AV.int .i64 0, AV.bool false, AV.int .u64 0, AV.int .u64 0, AV.int .u64 0, AV.int .u64 0, AV.int .i64 0, AV.bool false, AV.str [], AV.int .i64 0, AV.int .i64 0]])) (∃ (s_1 : List UInt8), sSym [AV.str (List.drop (Int.toNat i) (List.take (List.length s) s))] = some (AV.str s_1) ∧ askB (s_1 == []) ((envOf 98 [(4, AV.ptr (some (0, 0)))], [AObj.row 41 13 [AV.int .i64 0, AV.str [], AV.int .i64 0, AV.bool false, AV.int .u64 0, AV.int .u64 0, AV.int .u64 0, AV.int .u64 0, AV.int .i64 0, AV.bool false, AV.str [], AV.int .i64 0, AV.int .i64 0]]) = (envOf 98 [(4, AV.ptr (some (0, 0)))], [AObj.row 41 13 [AV.int .i64 0, AV.str [], AV.int .i64 0, AV.bool false, AV.int .u64 0, AV.int .u64 0, AV.int .u64 0, AV.int .u64 0, AV.int .i64 0, AV.bool false, AV.str [], AV.int .i64 0, AV.int .i64 0]]) ∧ 0 < m ∧ R (AV.tup [AV.agg [AV.int .i64 0, AV.str [], AV.int .i64 0, AV.bool false, AV.int .u64 0, AV.int .u64 0, AV.int .u64 0, AV.int .u64 0, AV.int .i64 0, AV.bool false, AV.str [], AV.int .i64 0, AV.int .i64 0], AV.int .i64 70]) [AObj.row 41 13 [AV.int .i64 0, AV.str [], AV.int .i64 0, AV.bool false, AV.int .u64 0, AV.int .u64 0, AV.int .u64 0, AV.int .u64 0, AV.int .i64 0, AV.bool false, AV.str [], AV.int .i64 0, AV.int .i64 0]]) (R (AV.tup [AV.agg [AV.int .i64 4, AV.str s_1, AV.int .i64 0, AV.bool false, AV.int .u64 0, AV.int .u64 0, AV.int .u64 0, AV.int .u64 0, AV.int .i64 0, AV.bool false, AV.str [], AV.int .i64 0, AV.int .i64 i], AV.int .i64 0]) [AObj.row 41 13 [AV.int .i64 4, AV.str s_1, AV.int .i64 0, AV.bool false, AV.int .u64 0, AV.int .u64 0, AV.int .u64 0, AV.int .u64 0, AV.int .i64 0, AV.bool false, AV.str [], AV.int .i64 0, AV.int .i64 i], AObj.row 41 13 [AV.int .i64 4, AV.str s_1, AV.int .i64 0, AV.bool false, AV.int .u64 0, AV.int .u64 0, AV.int .u64 0, AV.int .u64 0, AV.int .i64 0, AV.bool false, AV.str [], AV.int .i64 0, AV.int .i64 i]])))))))))))) = (wpF Tryd.prog { C18 with gw := G18 s m } 80 p18 [.str s, .int .i64 i] [] R) := by kernel_rfl
theorem runD_le : ∀ l : List UInt8, runD l ≤ l.length
  | [] => Nat.le_refl _
  | c :: l => by
    unfold runD
    split
    · have := runD_le l; simp only [List.length_cons]; omega
    · omega
theorem behind_le (neg : Bool) : ∀ (l : List UInt8) (i : Nat) (low : Bool) (good : Nat), good ≤ i + l.length → behindL neg l i low good ≤ i + l.length
  | [], _, _, _, h => h
  | c :: l, i, low, good, h => by
    simp only [List.length_cons] at h ⊢
    unfold behindL
    split
    · have := behind_le neg l (i + 1) (low || c != 48) (if (low || c != 48) || !neg then i + 1 else good) (by split <;> omega)
      omega
    · omega
theorem wholeP_le (neg : Bool) (s : List UInt8) (i : Nat) (low : Bool) (h : i ≤ s.length) : wholeP neg s i low ≤ s.length := by
  unfold wholeP
  split
  · rename_i g
    simp only [Bool.and_eq_true, decide_eq_true_eq] at g
    have := behind_le neg (s.drop (i + 1)) (i + 1) low (if low || !neg then i else 0) (by split <;> omega)
    rw [List.length_drop] at this
    omega
  · split <;> omega
theorem prefix_le (s : List UInt8) : prefixF s ≤ s.length := by
  unfold prefixF
  generalize (if (decide (0 < s.length) && s.getD 0 0 == 45) = true then 1 else 0) = fr
  generalize (decide (0 < s.length) && s.getD 0 0 == 45) = neg
  split
  · rename_i g
    have hl := dgA_lt g
    split
    · exact wholeP_le _ _ _ _ (by omega)
    · have := runD_le (s.drop fr)
      rw [List.length_drop] at this
      exact wholeP_le _ _ _ _ (by omega)
  · omega
theorem qd_le : ∀ (l : List UInt8) (k : Nat), qd l k ≤ k + l.length
  | [], _ => Nat.zero_le _
  | [c], k => by
    unfold qd; simp only [List.length_cons, List.length_nil]; split <;> omega
  | c :: x :: l, k => by
    unfold qd
    have h1 := qd_le l (k + 2)
    have h2 := qd_le (x :: l) (k + 1)
    simp only [List.length_cons] at h1 h2 ⊢
    split
    · omega
    · split <;> omega
theorem quoted_le (s : List UInt8) : quotedF s ≤ s.length := by
  unfold quotedF
  rcases Nat.lt_or_ge 0 s.length with h | h
  · have := qd_le (s.drop 1) 1
    rw [List.length_drop] at this
    omega
  · rw [List.drop_eq_nil_of_le (by omega)]; exact Nat.zero_le _
theorem name_at {s : List UInt8} (h : s.length ≤ 1099511627776) : sName [.str s] = some (.bool (nameF s)) := if_pos h
theorem quoted_at {s : List UInt8} (h : s.length ≤ 1099511627776) : sQuoted [.str s] = some (.int .i64 (quotedF s)) := if_pos h
theorem unquote_at {s : List UInt8} (h : s.length ≤ 1099511627776) : sUnquote [.str s] = some (.tup [.str (unquoteF s).1, .bool (unquoteF s).2]) := if_pos h
theorem parseD_at {s : List UInt8} (h : s.length ≤ 1048577) : sParseD [.str s] = some (.tup [decV (parseD s).1 (parseD s).2.1 (parseD s).2.2.1, .int .i64 (parseD s).2.2.2]) := if_pos h
def sc18 : PC := (match p18.body with | .seq _ (.scope a) => a | _ => .skip)
theorem gotos18 (s : List UInt8) : ∀ m, PartOK Tryd.prog { C18 with gw := G18 s m } (.scope sc18) := by
  have hcw : CwOK C18.S C18.cw := tbW_ok (Q := Q) (l := tb18) rfl
  refine part_gotos (P := Tryd.prog) (C := C18) hcw (a := sc18) (by
    have e : partsIn sc18 = [] := rfl
    rw [e]; intro x hx; cases hx) (G18 s) ?_
  intro m l T r st K hT hf ht
  unfold G18 at hT
  split at hT
  · rename_i hl
    subst hl
    cases hT
    obtain ⟨t, at', rfl, ⟨ht0, htl, hm⟩, hk⟩ := ht
    have hr : r = (findP sc18 0).getD .skip := by rw [hf]; try rfl
    subst hr
    refine ⟨1, 80, hm, ?_⟩
    refine Eq.subst (motive := fun p => p) (v18_0 s t at' 1 K) ?_
    refine ⟨_, run_at (by omega), chkI (decide_eq_true (by omega)) (chkI (decide_eq_true (by have := run_le t; omega)) ?_)⟩
    rw [Int.toNat_natCast, List.drop_zero]
    refine ⟨_, name_at (s := t.take (runF t)) (by rw [List.length_take]; omega), ?_⟩
    revert hk
    generalize nameF (t.take (runF t)) = b
    cases b
    · exact fun hk => ⟨rfl, by omega, hk⟩
    · exact fun hk => hk
  · split at hT
    · rename_i hl
      subst hl
      cases hT
      obtain ⟨t, at', rfl, ⟨ht0, htl, hm⟩, hk⟩ := ht
      have hr : r = (findP sc18 1).getD .skip := by rw [hf]; try rfl
      subst hr
      refine ⟨1, 80, hm, ?_⟩
      refine Eq.subst (motive := fun p => p) (v18_1 s t at' 1 K) ?_
      refine ⟨_, pfx_at (by omega), chkI (decide_eq_true (by omega)) (chkI (decide_eq_true (by have := prefix_le t; omega)) ?_)⟩
      rw [Int.toNat_natCast, List.drop_zero]
      refine ⟨_, _, _, _, _, _, _, parseD_at (s := t.take (prefixF t)) (by rw [List.length_take]; omega), ?_⟩
      have e : numOK (t.take (prefixF t)) = ((parseD (t.take (prefixF t))).2.2.2 == 0) := rfl
      rw [e] at hk
      refine askI (fun g => ?_) fun g => ?_
      · rw [g] at hk; exact hk
      · rw [g] at hk; exact ⟨rfl, by omega, hk⟩
    · split at hT
      · rename_i hl
        subst hl
        cases hT
        obtain ⟨t, at', rfl, ⟨ht0, htl, hm⟩, hk⟩ := ht
        have hr : r = (findP sc18 2).getD .skip := by rw [hf]; try rfl
        subst hr
        refine ⟨1, 80, hm, ?_⟩
        refine Eq.subst (motive := fun p => p) (v18_2 s t at' 1 K) ?_
        refine ⟨_, quoted_at (by omega), chkI (decide_eq_true (by omega)) (chkI (decide_eq_true (by have := quoted_le t; omega)) ?_)⟩
        rw [Int.toNat_natCast, List.drop_zero]
        refine ⟨_, _, unquote_at (s := t.take (quotedF t)) (by rw [List.length_take]; omega), ?_⟩
        have e : quoOK (t.take (quotedF t)) = ((unquoteF (t.take (quotedF t))).2 && decide ((unquoteF (t.take (quotedF t))).1.length ≤ 64)) := rfl
        rw [e] at hk
        refine askI (fun g => askI (fun g2 => ?_) fun g2 => ?_) fun g => ?_
        · simp only [decide_eq_true_eq] at g2
          rw [g, decide_eq_true (p := (unquoteF (t.take (quotedF t))).1.length ≤ 64) (by omega)] at hk; exact hk
        · simp only [decide_eq_false_iff_not] at g2
          rw [decide_eq_false (p := (unquoteF (t.take (quotedF t))).1.length ≤ 64) (by omega), Bool.and_false] at hk; exact hk
        · rw [g] at hk; exact hk
      · split at hT
        · rename_i hl
          subst hl
          cases hT
          obtain ⟨rfl, hm, hk⟩ := ht
          have hr : r = (findP sc18 3).getD .skip := by rw [hf]; try rfl
          subst hr
          refine ⟨0, 80, hm, ?_⟩
          refine Eq.subst (motive := fun p => p) (v18_3 s 0 K) ?_
          exact hk
        · cases hT
theorem nextAt_closed (t : List UInt8) (z : Int) : (AV.tup [.agg (nextAt t z).1, .int .i64 (nextAt t z).2]).closed = true := by
  unfold nextAt
  split
  · split <;> rfl
  · split
    · split <;> rfl
    · split
      · split <;> rfl
      · split <;> rfl
theorem next_closed (s : List UInt8) (z : Int) : (AV.tup [.agg (nextF s z).1, .int .i64 (nextF s z).2]).closed = true := by
  unfold nextF
  split
  · rfl
  · exact nextAt_closed _ _
theorem next_out {s : List UInt8} {i : Int} (h : i < 0 ∨ i ≥ (s.length : Int)) : nextF s i = (z13, 4) := if_pos h
theorem next_ok : QuietOK Tryd.prog 18 fun vs _ => sNext vs := quiet_plain ht18 fun args v h => by
  unfold sNext at h
  split at h
  · rename_i s z
    split at h
    · rename_i hs
      cases h
      refine ⟨rfl, next_closed s z, ?_⟩
      have hS : (tbS Q tb18).OK Tryd.prog := tbS_ok quietText (by
        intro x hx
        simp only [tb18, List.mem_cons, List.not_mem_nil, or_false] at hx
        rcases hx with rfl | rfl | rfl | rfl | rfl | rfl | rfl | rfl | rfl
        · exact letter33_ok
        · exact isD34_ok
        · exact sym_ok
        · exact run_ok
        · exact name_ok
        · exact prefix_ok
        · exact parse_dec_ok
        · exact quoted_ok
        · exact unquote_ok)
      obtain ⟨u, h', rfl, hsem⟩ := sem_vc mixed (C := { C18 with gw := G18 s 2 }) hS (tbS_q _ _) (tbW_ok rfl) ht18 c18 (fun x hx => by
        have e : partsIn p18.body = [.scope sc18] := rfl
        rw [e, List.mem_singleton] at hx
        subst hx
        exact gotos18 s 2) (v18 s z 2 fun u _ => u = .tup [.agg (nextF s z).1, .int .i64 (nextF s z).2]) (by
        refine askI (fun g0 => ?_) fun g0 => askI (fun g1 => ?_) fun g1 => ?_
        · simp only [decide_eq_true_eq] at g0
          rw [next_out (.inl g0)]; try rfl
        · simp only [decide_eq_true_eq] at g1
          rw [next_out (.inr g1)]; try rfl
        simp only [decide_eq_false_iff_not] at g0 g1
        obtain ⟨i, rfl⟩ : ∃ i : Nat, z = i := ⟨z.toNat, by omega⟩
        have hN : nextF s i = nextAt (s.drop i) i := by unfold nextF; rw [if_neg (by omega), Int.toNat_natCast]
        have hl : (s.drop i).length = s.length - i := List.length_drop
        rw [hN, Int.toNat_natCast, List.take_length]
        clear hN
        generalize s.drop i = t at hl ⊢
        have ht0 : 0 < t.length := by omega
        have htl : t.length ≤ 1048577 := by omega
        refine chkI (decide_eq_true (by omega)) (chkI (decide_eq_true (by omega)) (chkI (decide_eq_true ht0) ⟨_, letter_at _, askI (fun g2 => ?_) fun g2 => chkI (decide_eq_true ht0) ⟨_, isD_at _, askI (fun g3 => ?_) fun g3 => chkI (decide_eq_true ht0) ?_⟩⟩))
        · refine ⟨t, (i : Int), rfl, ⟨ht0, htl, by omega⟩, ?_⟩
          unfold nextAt; rw [if_pos g2]
          generalize nameF (t.take (runF t)) = b
          cases b <;> rfl
        · refine ⟨t, (i : Int), rfl, ⟨ht0, htl, by omega⟩, ?_⟩
          unfold nextAt; rw [if_neg (by rw [g2]; decide), if_pos g3]
          generalize numOK (t.take (prefixF t)) = b
          cases b <;> rfl
        · rw [eq34]
          refine askI (fun g4 => ?_) fun g4 => ?_
          · refine ⟨t, (i : Int), rfl, ⟨ht0, htl, by omega⟩, ?_⟩
            unfold nextAt; rw [if_neg (by rw [g2]; decide), if_neg (by rw [g3]; decide), if_pos g4]
            generalize quoOK (t.take (quotedF t)) = b
            cases b <;> rfl
          · refine ⟨_, sym_at (by omega), askI (fun g5 => ?_) fun g5 => ?_⟩
            · refine ⟨rfl, by omega, ?_⟩
              unfold nextAt; rw [if_neg (by rw [g2]; decide), if_neg (by rw [g3]; decide), if_neg (by rw [g4]; decide), if_pos g5]; try rfl
            · unfold nextAt; rw [if_neg (by rw [g2]; decide), if_neg (by rw [g3]; decide), if_neg (by rw [g4]; decide), if_neg (by rw [g5]; decide)]; try rfl)
      exact ⟨h', hsem⟩
    · cases h
  · cases h

end Go.Proofs.YtahdfjmdoljgiaaDoor
