/- Written by merging: Lna Lnb Lnc Lnd Loa Loc Lod Lpa Lpb Lpc Lpd. -/
import Derived.Test.YtahdfjmdoljgiaaDoorMb
namespace Go.Proofs.YtahdfjmdoljgiaaDoor
open Go Go.Am
set_option maxRecDepth 100000
set_option maxHeartbeats 1000000
set_option linter.unusedVariables false
set_option linter.unusedSimpArgs false

def dgA (s : List UInt8) (i : Nat) : Bool := decide (i < s.length) && isD (s.getD i 0)
def sDigit : List AV → Option AV
  | [.str s, .int .i64 i] => if 0 ≤ i then some (.bool (dgA s i.toNat)) else none
  | _ => none
def runD : List UInt8 → Nat
  | [] => 0
  | c :: l => if isD c then runD l + 1 else 0
def behindL (neg : Bool) : List UInt8 → Nat → Bool → Nat → Nat
  | [], _, _, good => good
  | c :: l, i, low, good => if isD c then behindL neg l (i + 1) (low || c != 48) (if (low || c != 48) || !neg then i + 1 else good) else good
def wholeP (neg : Bool) (s : List UInt8) (i : Nat) (low : Bool) : Nat :=
  if decide (i < s.length) && s.getD i 0 == 46 then behindL neg (s.drop (i + 1)) (i + 1) low (if low || !neg then i else 0) else (if low || !neg then i else 0)
def prefixF (s : List UInt8) : Nat :=
  if dgA s (if decide (0 < s.length) && s.getD 0 0 == 45 then 1 else 0) then
    (if s.getD (if decide (0 < s.length) && s.getD 0 0 == 45 then 1 else 0) 0 == 48 then wholeP (decide (0 < s.length) && s.getD 0 0 == 45) s ((if decide (0 < s.length) && s.getD 0 0 == 45 then 1 else 0) + 1) false
    else wholeP (decide (0 < s.length) && s.getD 0 0 == 45) s ((if decide (0 < s.length) && s.getD 0 0 == 45 then 1 else 0) + runD (s.drop (if decide (0 < s.length) && s.getD 0 0 == 45 then 1 else 0))) true) else 0
def sPrefix : List AV → Option AV
  | [.str s] => if s.length ≤ 1099511627776 then some (.int .i64 (prefixF s)) else none
  | _ => none
def tb37 : List TbE := [⟨49, fun vs _ => sDigit vs, .of (.one .bool)⟩]
def q37 (s : List UInt8) (good : Int) (i : Nat) (low neg : Bool) : St := (envOf 69 [(0, .str s), (3, .int .i64 good), (4, .int .i64 i), (5, .bool low), (6, .bool neg)], [])
def r37 (v : Int) : St := (envOf 69 [(2, .int .i64 v), (3, .int .i64 v), (68, .int .i64 v)], [])
def C37 : Cfg := { tbC Q tb37 (fun _ => false) kdI with
  F := fun id => if id = 21 then ⟨dropT 69 [3], .all⟩ else if id = 1000002 ∨ id = 1000003 then ⟨dropT 69 [0, 3, 4, 5, 6], .all⟩ else ⟨[], .all⟩ }
def G37 (s : List UInt8) (m : Nat) (l : Nat) : Option (St → (AExit → St → Prop) → Prop) :=
  if l = 2 then some fun st K => ∃ (i : Nat) (neg : Bool), st = q37 s 0 i true neg ∧ (dgA s i = true ∧ s.length - i < m) ∧ K .ret (r37 (wholeP neg s (i + runD (s.drop i)) true))
  else if l = 3 then some fun st K => ∃ (i good : Nat) (low neg : Bool), st = q37 s good i low neg ∧ (i ≤ s.length ∧ s.length - i < m) ∧ K .ret (r37 (behindL neg (s.drop i) i low good)) else none
theorem v49 (s : List UInt8) (i : Nat) (R : AV → AHeap → Prop) : (askB (decide ((↑i : Int) < (↑(List.length s) : Int))) (chkW (decide (i < List.length s)) (askB (decide ((↑(UInt8.toNat (List.getD s i 0)) : Int) ≥ 48)) (chkW (decide (i < List.length s)) (askB (decide ((↑(UInt8.toNat (List.getD s i 0)) : Int) ≤ 57)) (R (AV.bool true) []) (R (AV.bool false) []))) (R (AV.bool false) []))) (R (AV.bool false) [])) = (wpF Tryd.prog { tbC Q [] (fun _ => false) kdI with F := fun _ => ⟨[], .all⟩ } 40 p49 [.str s, .int .i64 i] [] R) := by kernel_rfl
theorem v37_2 (s : List UInt8) (m i : Nat) (neg : Bool) (K : AExit → St → Prop) : (∃ (b : Bool), sDigit [AV.str s, AV.int .i64 (IntKind.wrap .i64 ((↑i : Int) + 1))] = some (AV.bool b) ∧ askB b (∃ (i_1 : Nat), ∃ (neg_1 : Bool), (envOf 69 [(0, AV.str s), (3, AV.int .i64 0), (4, AV.int .i64 (IntKind.wrap .i64 ((↑i : Int) + 1))), (5, AV.bool true), (6, AV.bool neg)], ([] : AHeap)) = (envOf 69 [(0, AV.str s), (3, AV.int .i64 0), (4, AV.int .i64 (↑i_1 : Int)), (5, AV.bool true), (6, AV.bool neg_1)], []) ∧ (dgA s i_1 = true ∧ List.length s - i_1 < m) ∧ K AExit.ret (envOf 69 [(2, AV.int .i64 (↑(wholeP neg_1 s (i_1 + runD (List.drop i_1 s)) true) : Int)), (3, AV.int .i64 (↑(wholeP neg_1 s (i_1 + runD (List.drop i_1 s)) true) : Int)), (68, AV.int .i64 (↑(wholeP neg_1 s (i_1 + runD (List.drop i_1 s)) true) : Int))], [])) (askB (decide (IntKind.wrap .i64 ((↑i : Int) + 1) ≥ (↑(List.length s) : Int))) (K AExit.ret (envOf 69 [(2, AV.int .i64 (IntKind.wrap .i64 ((↑i : Int) + 1))), (3, AV.int .i64 (IntKind.wrap .i64 ((↑i : Int) + 1))), (68, AV.int .i64 (IntKind.wrap .i64 ((↑i : Int) + 1)))], [])) (chkW (decide (0 ≤ IntKind.wrap .i64 ((↑i : Int) + 1))) (chkW (decide (Int.toNat (IntKind.wrap .i64 ((↑i : Int) + 1)) < List.length s)) (askB ((↑(UInt8.toNat (List.getD s (Int.toNat (IntKind.wrap .i64 ((↑i : Int) + 1))) 0)) : Int) != 46) (K AExit.ret (envOf 69 [(2, AV.int .i64 (IntKind.wrap .i64 ((↑i : Int) + 1))), (3, AV.int .i64 (IntKind.wrap .i64 ((↑i : Int) + 1))), (68, AV.int .i64 (IntKind.wrap .i64 ((↑i : Int) + 1)))], [])) (∃ (b : Bool), sDigit [AV.str s, AV.int .i64 (IntKind.wrap .i64 (IntKind.wrap .i64 ((↑i : Int) + 1) + 1))] = some (AV.bool b) ∧ askB b (∃ (i_1 : Nat), ∃ (good : Nat), ∃ (low : Bool), ∃ (neg_1 : Bool), (envOf 69 [(0, AV.str s), (3, AV.int .i64 (IntKind.wrap .i64 (IntKind.wrap .i64 (IntKind.wrap .i64 ((↑i : Int) + 1) + 1) + 1))), (4, AV.int .i64 (IntKind.wrap .i64 (IntKind.wrap .i64 (IntKind.wrap .i64 ((↑i : Int) + 1) + 1) + 1))), (5, AV.bool true), (6, AV.bool neg)], ([] : AHeap)) = (envOf 69 [(0, AV.str s), (3, AV.int .i64 (↑good : Int)), (4, AV.int .i64 (↑i_1 : Int)), (5, AV.bool low), (6, AV.bool neg_1)], []) ∧ (i_1 ≤ List.length s ∧ List.length s - i_1 < m) ∧ K AExit.ret (envOf 69 [(2, AV.int .i64 (↑(behindL neg_1 (List.drop i_1 s) i_1 low good) : Int)), (3, AV.int .i64 (↑(behindL neg_1 (List.drop i_1 s) i_1 low good) : Int)), (68, AV.int .i64 (↑(behindL neg_1 (List.drop i_1 s) i_1 low good) : Int))], [])) (K AExit.ret (envOf 69 [(2, AV.int .i64 (IntKind.wrap .i64 ((↑i : Int) + 1))), (3, AV.int .i64 (IntKind.wrap .i64 ((↑i : Int) + 1))), (68, AV.int .i64 (IntKind.wrap .i64 ((↑i : Int) + 1)))], [])))))))) = (wpP Tryd.prog { C37 with gw := G37 s m } 80 (.inr ((match p37.body with | .seq _ (.scope a) => a | _ => .skip), ((findP (match p37.body with | .seq _ (.scope a) => a | _ => .skip) 2).getD .skip))) (q37 s 0 i true neg) K) := by kernel_rfl
theorem v37_3 (s : List UInt8) (m i good : Nat) (low neg : Bool) (K : AExit → St → Prop) : (∃ (b : Bool), some (AV.bool (dgA s i)) = some (AV.bool b) ∧ askB b (askB low (∃ (i_1 : Nat), ∃ (good : Nat), ∃ (low : Bool), ∃ (neg_1 : Bool), (envOf 69 [(0, AV.str s), (3, AV.int .i64 (IntKind.wrap .i64 ((↑i : Int) + 1))), (4, AV.int .i64 (IntKind.wrap .i64 ((↑i : Int) + 1))), (5, AV.bool true), (6, AV.bool neg)], ([] : AHeap)) = (envOf 69 [(0, AV.str s), (3, AV.int .i64 (↑good : Int)), (4, AV.int .i64 (↑i_1 : Int)), (5, AV.bool low), (6, AV.bool neg_1)], []) ∧ (i_1 ≤ List.length s ∧ List.length s - i_1 < m) ∧ K AExit.ret (envOf 69 [(2, AV.int .i64 (↑(behindL neg_1 (List.drop i_1 s) i_1 low good) : Int)), (3, AV.int .i64 (↑(behindL neg_1 (List.drop i_1 s) i_1 low good) : Int)), (68, AV.int .i64 (↑(behindL neg_1 (List.drop i_1 s) i_1 low good) : Int))], [])) (chkW (decide (i < List.length s)) (askB ((↑(UInt8.toNat (List.getD s i 0)) : Int) != 48) (∃ (i_1 : Nat), ∃ (good : Nat), ∃ (low : Bool), ∃ (neg_1 : Bool), (envOf 69 [(0, AV.str s), (3, AV.int .i64 (IntKind.wrap .i64 ((↑i : Int) + 1))), (4, AV.int .i64 (IntKind.wrap .i64 ((↑i : Int) + 1))), (5, AV.bool true), (6, AV.bool neg)], ([] : AHeap)) = (envOf 69 [(0, AV.str s), (3, AV.int .i64 (↑good : Int)), (4, AV.int .i64 (↑i_1 : Int)), (5, AV.bool low), (6, AV.bool neg_1)], []) ∧ (i_1 ≤ List.length s ∧ List.length s - i_1 < m) ∧ K AExit.ret (envOf 69 [(2, AV.int .i64 (↑(behindL neg_1 (List.drop i_1 s) i_1 low good) : Int)), (3, AV.int .i64 (↑(behindL neg_1 (List.drop i_1 s) i_1 low good) : Int)), (68, AV.int .i64 (↑(behindL neg_1 (List.drop i_1 s) i_1 low good) : Int))], [])) (askB neg (∃ (i_1 : Nat), ∃ (good_1 : Nat), ∃ (low : Bool), ∃ (neg_1 : Bool), (envOf 69 [(0, AV.str s), (3, AV.int .i64 (↑good : Int)), (4, AV.int .i64 (IntKind.wrap .i64 ((↑i : Int) + 1))), (5, AV.bool false), (6, AV.bool neg)], ([] : AHeap)) = (envOf 69 [(0, AV.str s), (3, AV.int .i64 (↑good_1 : Int)), (4, AV.int .i64 (↑i_1 : Int)), (5, AV.bool low), (6, AV.bool neg_1)], []) ∧ (i_1 ≤ List.length s ∧ List.length s - i_1 < m) ∧ K AExit.ret (envOf 69 [(2, AV.int .i64 (↑(behindL neg_1 (List.drop i_1 s) i_1 low good_1) : Int)), (3, AV.int .i64 (↑(behindL neg_1 (List.drop i_1 s) i_1 low good_1) : Int)), (68, AV.int .i64 (↑(behindL neg_1 (List.drop i_1 s) i_1 low good_1) : Int))], [])) (∃ (i_1 : Nat), ∃ (good : Nat), ∃ (low : Bool), ∃ (neg_1 : Bool), (envOf 69 [(0, AV.str s), (3, AV.int .i64 (IntKind.wrap .i64 ((↑i : Int) + 1))), (4, AV.int .i64 (IntKind.wrap .i64 ((↑i : Int) + 1))), (5, AV.bool false), (6, AV.bool neg)], ([] : AHeap)) = (envOf 69 [(0, AV.str s), (3, AV.int .i64 (↑good : Int)), (4, AV.int .i64 (↑i_1 : Int)), (5, AV.bool low), (6, AV.bool neg_1)], []) ∧ (i_1 ≤ List.length s ∧ List.length s - i_1 < m) ∧ K AExit.ret (envOf 69 [(2, AV.int .i64 (↑(behindL neg_1 (List.drop i_1 s) i_1 low good) : Int)), (3, AV.int .i64 (↑(behindL neg_1 (List.drop i_1 s) i_1 low good) : Int)), (68, AV.int .i64 (↑(behindL neg_1 (List.drop i_1 s) i_1 low good) : Int))], [])))))) (K AExit.ret (envOf 69 [(2, AV.int .i64 (↑good : Int)), (3, AV.int .i64 (↑good : Int)), (68, AV.int .i64 (↑good : Int))], []))) = (wpP Tryd.prog { C37 with gw := G37 s m } 80 (.inr ((match p37.body with | .seq _ (.scope a) => a | _ => .skip), ((findP (match p37.body with | .seq _ (.scope a) => a | _ => .skip) 3).getD .skip))) (q37 s good i low neg) K) := by kernel_rfl
theorem v37 (s : List UInt8) (m : Nat) (R : AV → AHeap → Prop) : (askB (decide ((↑(List.length s) : Int) > 0)) (chkW (decide (0 < List.length s)) (askB ((↑(UInt8.toNat (List.getD s 0 0)) : Int) == 45) (∃ (b : Bool), some (AV.bool (dgA s 1)) = some (AV.bool b) ∧ askB b (chkW (decide (1 < List.length s)) (askB ((↑(UInt8.toNat (List.getD s 1 0)) : Int) == 48) (askB (decide (2 ≥ (↑(List.length s) : Int))) (R (AV.int .i64 0) []) (chkW (decide (2 < List.length s)) (askB ((↑(UInt8.toNat (List.getD s 2 0)) : Int) != 46) (R (AV.int .i64 0) []) (∃ (b : Bool), some (AV.bool (dgA s 3)) = some (AV.bool b) ∧ askB b (chkW (decide (3 < List.length s)) (askB ((↑(UInt8.toNat (List.getD s 3 0)) : Int) != 48) (∃ (i : Nat), ∃ (good : Nat), ∃ (low : Bool), ∃ (neg : Bool), (envOf 69 [(0, AV.str s), (3, AV.int .i64 4), (4, AV.int .i64 4), (5, AV.bool true), (6, AV.bool true)], ([] : AHeap)) = (envOf 69 [(0, AV.str s), (3, AV.int .i64 (↑good : Int)), (4, AV.int .i64 (↑i : Int)), (5, AV.bool low), (6, AV.bool neg)], []) ∧ (i ≤ List.length s ∧ List.length s - i < m) ∧ R (AV.int .i64 (↑(behindL neg (List.drop i s) i low good) : Int)) []) (∃ (i : Nat), ∃ (good : Nat), ∃ (low : Bool), ∃ (neg : Bool), (envOf 69 [(0, AV.str s), (3, AV.int .i64 0), (4, AV.int .i64 4), (5, AV.bool false), (6, AV.bool true)], ([] : AHeap)) = (envOf 69 [(0, AV.str s), (3, AV.int .i64 (↑good : Int)), (4, AV.int .i64 (↑i : Int)), (5, AV.bool low), (6, AV.bool neg)], []) ∧ (i ≤ List.length s ∧ List.length s - i < m) ∧ R (AV.int .i64 (↑(behindL neg (List.drop i s) i low good) : Int)) []))) (R (AV.int .i64 0) []))))) (∃ (b : Bool), some (AV.bool (dgA s 2)) = some (AV.bool b) ∧ askB b (∃ (i : Nat), ∃ (neg : Bool), (envOf 69 [(0, AV.str s), (3, AV.int .i64 0), (4, AV.int .i64 2), (5, AV.bool true), (6, AV.bool true)], ([] : AHeap)) = (envOf 69 [(0, AV.str s), (3, AV.int .i64 0), (4, AV.int .i64 (↑i : Int)), (5, AV.bool true), (6, AV.bool neg)], []) ∧ (dgA s i = true ∧ List.length s - i < m) ∧ R (AV.int .i64 (↑(wholeP neg s (i + runD (List.drop i s)) true) : Int)) []) (askB (decide (2 ≥ (↑(List.length s) : Int))) (R (AV.int .i64 2) []) (chkW (decide (2 < List.length s)) (askB ((↑(UInt8.toNat (List.getD s 2 0)) : Int) != 46) (R (AV.int .i64 2) []) (∃ (b : Bool), some (AV.bool (dgA s 3)) = some (AV.bool b) ∧ askB b (∃ (i : Nat), ∃ (good : Nat), ∃ (low : Bool), ∃ (neg : Bool), (envOf 69 [(0, AV.str s), (3, AV.int .i64 4), (4, AV.int .i64 4), (5, AV.bool true), (6, AV.bool true)], ([] : AHeap)) = (envOf 69 [(0, AV.str s), (3, AV.int .i64 (↑good : Int)), (4, AV.int .i64 (↑i : Int)), (5, AV.bool low), (6, AV.bool neg)], []) ∧ (i ≤ List.length s ∧ List.length s - i < m) ∧ R (AV.int .i64 (↑(behindL neg (List.drop i s) i low good) : Int)) []) (R (AV.int .i64 2) [])))))))) (R (AV.int .i64 0) [])) (∃ (b : Bool), some (AV.bool (dgA s 0)) = some (AV.bool b) ∧ askB b (chkW (decide (0 < List.length s)) (askB ((↑(UInt8.toNat (List.getD s 0 0)) : Int) == 48) (askB (decide (1 ≥ (↑(List.length s) : Int))) (R (AV.int .i64 1) []) (chkW (decide (1 < List.length s)) (askB ((↑(UInt8.toNat (List.getD s 1 0)) : Int) != 46) (R (AV.int .i64 1) []) (∃ (b : Bool), some (AV.bool (dgA s 2)) = some (AV.bool b) ∧ askB b (chkW (decide (2 < List.length s)) (askB ((↑(UInt8.toNat (List.getD s 2 0)) : Int) != 48) (∃ (i : Nat), ∃ (good : Nat), ∃ (low : Bool), ∃ (neg : Bool), (envOf 69 [(0, AV.str s), (3, AV.int .i64 3), (4, AV.int .i64 3), (5, AV.bool true), (6, AV.bool false)], ([] : AHeap)) = (envOf 69 [(0, AV.str s), (3, AV.int .i64 (↑good : Int)), (4, AV.int .i64 (↑i : Int)), (5, AV.bool low), (6, AV.bool neg)], []) ∧ (i ≤ List.length s ∧ List.length s - i < m) ∧ R (AV.int .i64 (↑(behindL neg (List.drop i s) i low good) : Int)) []) (∃ (i : Nat), ∃ (good : Nat), ∃ (low : Bool), ∃ (neg : Bool), (envOf 69 [(0, AV.str s), (3, AV.int .i64 3), (4, AV.int .i64 3), (5, AV.bool false), (6, AV.bool false)], ([] : AHeap)) = (envOf 69 [(0, AV.str s), (3, AV.int .i64 (↑good : Int)), (4, AV.int .i64 (↑i : Int)), (5, AV.bool low), (6, AV.bool neg)], []) ∧ (i ≤ List.length s ∧ List.length s - i < m) ∧ R (AV.int .i64 (↑(behindL neg (List.drop i s) i low good) : Int)) []))) (R (AV.int .i64 1) []))))) (∃ (b : Bool), some (AV.bool (dgA s 1)) = some (AV.bool b) ∧ askB b (∃ (i : Nat), ∃ (neg : Bool), (envOf 69 [(0, AV.str s), (3, AV.int .i64 0), (4, AV.int .i64 1), (5, AV.bool true), (6, AV.bool false)], ([] : AHeap)) = (envOf 69 [(0, AV.str s), (3, AV.int .i64 0), (4, AV.int .i64 (↑i : Int)), (5, AV.bool true), (6, AV.bool neg)], []) ∧ (dgA s i = true ∧ List.length s - i < m) ∧ R (AV.int .i64 (↑(wholeP neg s (i + runD (List.drop i s)) true) : Int)) []) (askB (decide (1 ≥ (↑(List.length s) : Int))) (R (AV.int .i64 1) []) (chkW (decide (1 < List.length s)) (askB ((↑(UInt8.toNat (List.getD s 1 0)) : Int) != 46) (R (AV.int .i64 1) []) (∃ (b : Bool), some (AV.bool (dgA s 2)) = some (AV.bool b) ∧ askB b (∃ (i : Nat), ∃ (good : Nat), ∃ (low : Bool), ∃ (neg : Bool), (envOf 69 [(0, AV.str s), (3, AV.int .i64 3), (4, AV.int .i64 3), (5, AV.bool true), (6, AV.bool false)], ([] : AHeap)) = (envOf 69 [(0, AV.str s), (3, AV.int .i64 (↑good : Int)), (4, AV.int .i64 (↑i : Int)), (5, AV.bool low), (6, AV.bool neg)], []) ∧ (i ≤ List.length s ∧ List.length s - i < m) ∧ R (AV.int .i64 (↑(behindL neg (List.drop i s) i low good) : Int)) []) (R (AV.int .i64 1) [])))))))) (R (AV.int .i64 0) [])))) (∃ (b : Bool), some (AV.bool (dgA s 0)) = some (AV.bool b) ∧ askB b (chkW (decide (0 < List.length s)) (askB ((↑(UInt8.toNat (List.getD s 0 0)) : Int) == 48) (askB (decide (1 ≥ (↑(List.length s) : Int))) (R (AV.int .i64 1) []) (chkW (decide (1 < List.length s)) (askB ((↑(UInt8.toNat (List.getD s 1 0)) : Int) != 46) (R (AV.int .i64 1) []) (∃ (b : Bool), some (AV.bool (dgA s 2)) = some (AV.bool b) ∧ askB b (chkW (decide (2 < List.length s)) (askB ((↑(UInt8.toNat (List.getD s 2 0)) : Int) != 48) (∃ (i : Nat), ∃ (good : Nat), ∃ (low : Bool), ∃ (neg : Bool), (envOf 69 [(0, AV.str s), (3, AV.int .i64 3), (4, AV.int .i64 3), (5, AV.bool true), (6, AV.bool false)], ([] : AHeap)) = (envOf 69 [(0, AV.str s), (3, AV.int .i64 (↑good : Int)), (4, AV.int .i64 (↑i : Int)), (5, AV.bool low), (6, AV.bool neg)], []) ∧ (i ≤ List.length s ∧ List.length s - i < m) ∧ R (AV.int .i64 (↑(behindL neg (List.drop i s) i low good) : Int)) []) (∃ (i : Nat), ∃ (good : Nat), ∃ (low : Bool), ∃ (neg : Bool), (envOf 69 [(0, AV.str s), (3, AV.int .i64 3), (4, AV.int .i64 3), (5, AV.bool false), (6, AV.bool false)], ([] : AHeap)) = (envOf 69 [(0, AV.str s), (3, AV.int .i64 (↑good : Int)), (4, AV.int .i64 (↑i : Int)), (5, AV.bool low), (6, AV.bool neg)], []) ∧ (i ≤ List.length s ∧ List.length s - i < m) ∧ R (AV.int .i64 (↑(behindL neg (List.drop i s) i low good) : Int)) []))) (R (AV.int .i64 1) []))))) (∃ (b : Bool), some (AV.bool (dgA s 1)) = some (AV.bool b) ∧ askB b (∃ (i : Nat), ∃ (neg : Bool), (envOf 69 [(0, AV.str s), (3, AV.int .i64 0), (4, AV.int .i64 1), (5, AV.bool true), (6, AV.bool false)], ([] : AHeap)) = (envOf 69 [(0, AV.str s), (3, AV.int .i64 0), (4, AV.int .i64 (↑i : Int)), (5, AV.bool true), (6, AV.bool neg)], []) ∧ (dgA s i = true ∧ List.length s - i < m) ∧ R (AV.int .i64 (↑(wholeP neg s (i + runD (List.drop i s)) true) : Int)) []) (askB (decide (1 ≥ (↑(List.length s) : Int))) (R (AV.int .i64 1) []) (chkW (decide (1 < List.length s)) (askB ((↑(UInt8.toNat (List.getD s 1 0)) : Int) != 46) (R (AV.int .i64 1) []) (∃ (b : Bool), some (AV.bool (dgA s 2)) = some (AV.bool b) ∧ askB b (∃ (i : Nat), ∃ (good : Nat), ∃ (low : Bool), ∃ (neg : Bool), (envOf 69 [(0, AV.str s), (3, AV.int .i64 3), (4, AV.int .i64 3), (5, AV.bool true), (6, AV.bool false)], ([] : AHeap)) = (envOf 69 [(0, AV.str s), (3, AV.int .i64 (↑good : Int)), (4, AV.int .i64 (↑i : Int)), (5, AV.bool low), (6, AV.bool neg)], []) ∧ (i ≤ List.length s ∧ List.length s - i < m) ∧ R (AV.int .i64 (↑(behindL neg (List.drop i s) i low good) : Int)) []) (R (AV.int .i64 1) [])))))))) (R (AV.int .i64 0) []))) = (wpF Tryd.prog { C37 with gw := G37 s m } 80 p37 [.str s] [] R) := by kernel_rfl
theorem dgA_lt {s : List UInt8} {i : Nat} (h : dgA s i = true) : i < s.length := by
  unfold dgA at h
  simp only [Bool.and_eq_true, decide_eq_true_eq] at h
  exact h.1
theorem dgA_eq {s : List UInt8} {i : Nat} (h : i < s.length) : dgA s i = isD (s.getD i 0) := by
  unfold dgA; rw [decide_eq_true h, Bool.true_and]
theorem digit_ok : QuietOK Tryd.prog 49 fun vs _ => sDigit vs := quiet_plain ht49 fun args v h => by
  unfold sDigit at h
  split at h
  · rename_i s z
    split at h
    · rename_i hz
      cases h
      obtain ⟨i, rfl⟩ : ∃ i : Nat, z = i := ⟨z.toNat, by omega⟩
      refine ⟨rfl, rfl, ?_⟩
      have hS : (tbS Q []).OK Tryd.prog := tbS_ok quietText (by simp)
      obtain ⟨u, h', rfl, hsem⟩ := sem_vc mixed (C := { tbC Q [] (fun _ => false) kdI with F := fun _ => ⟨[], .all⟩ }) hS (tbS_q _ _) (tbW_ok rfl) ht49 c49 (no_parts rfl) (v49 s i fun u _ => u = .bool (dgA s i)) (by
        refine askI (fun h1 => ?_) fun h1 => ?_
        · simp only [decide_eq_true_eq] at h1
          have hl : i < s.length := by omega
          rw [dgA_eq hl]
          refine chkI (decide_eq_true hl) (askI (fun h2 => chkI (decide_eq_true hl) (askI (fun h3 => ?_) fun h3 => ?_)) fun h2 => ?_)
          · simp only [decide_eq_true_eq] at h2 h3
            unfold isD; rw [decide_eq_true (by omega), decide_eq_true (p := (s.getD i 0).toNat ≤ 57) (by omega)]; rfl
          · simp only [decide_eq_false_iff_not] at h3
            unfold isD; rw [decide_eq_false (p := (s.getD i 0).toNat ≤ 57) (by omega), Bool.and_false]
          · simp only [decide_eq_false_iff_not] at h2
            unfold isD; rw [decide_eq_false (by omega)]; rfl
        · simp only [decide_eq_false_iff_not] at h1
          unfold dgA; rw [decide_eq_false (by omega)]; rfl)
      exact ⟨h', hsem⟩
    · cases h
  · cases h
theorem digit_at (s : List UInt8) (i : Nat) : sDigit [.str s, .int .i64 (i : Int)] = some (.bool (dgA s i)) := by
  show (if 0 ≤ (i : Int) then some (AV.bool (dgA s (Int.toNat (i : Int)))) else none) = _
  rw [if_pos (by omega)]; rfl
theorem runD_at {s : List UInt8} {i : Nat} (h : dgA s i = true) : runD (s.drop i) = runD (s.drop (i + 1)) + 1 := by
  have hl := dgA_lt h
  rw [drop_cons hl]
  rw [dgA_eq hl] at h
  simp only [runD, h, if_true]
theorem runD_no {s : List UInt8} {i : Nat} (h : dgA s i = false) : runD (s.drop i) = 0 := by
  rcases Nat.lt_or_ge i s.length with hl | hl
  · rw [drop_cons hl]
    rw [dgA_eq hl] at h
    simp only [runD, h, Bool.false_eq_true, if_false]
  · rw [List.drop_eq_nil_of_le hl]; rfl
theorem behind_at {neg low : Bool} {s : List UInt8} {i good : Nat} (h : dgA s i = true) : behindL neg (s.drop i) i low good = behindL neg (s.drop (i + 1)) (i + 1) (low || s.getD i 0 != 48) (if (low || s.getD i 0 != 48) || !neg then i + 1 else good) := by
  have hl := dgA_lt h
  rw [drop_cons hl]
  rw [dgA_eq hl] at h
  simp only [behindL, h, if_true]
theorem behind_no {neg low : Bool} {s : List UInt8} {i good : Nat} (h : dgA s i = false) : behindL neg (s.drop i) i low good = good := by
  rcases Nat.lt_or_ge i s.length with hl | hl
  · rw [drop_cons hl]
    rw [dgA_eq hl] at h
    simp only [behindL, h, Bool.false_eq_true, if_false]
  · rw [List.drop_eq_nil_of_le hl]; rfl
theorem ne48 (c : UInt8) : (((c.toNat : Nat) : Int) != 48) = (c != 48) := ne_u8 c 48
theorem ne46 (c : UInt8) : (((c.toNat : Nat) : Int) != 46) = (c != 46) := ne_u8 c 46
theorem wholeP_no {neg low : Bool} {s : List UInt8} {i : Nat} (h : (decide (i < s.length) && s.getD i 0 == 46) = false) : wholeP neg s i low = if low || !neg then i else 0 := by
  unfold wholeP; rw [h]; rfl
theorem wholeP_yes {neg low : Bool} {s : List UInt8} {i : Nat} (h : i < s.length) (h2 : (s.getD i 0 != 46) = false) : wholeP neg s i low = behindL neg (s.drop (i + 1)) (i + 1) low (if low || !neg then i else 0) := by
  have h3 : (s.getD i 0 == 46) = true := by rw [bne] at h2; simpa using h2
  unfold wholeP; rw [decide_eq_true h, h3]; rfl
def sc37 : PC := (match p37.body with | .seq _ (.scope a) => a | _ => .skip)
theorem gotos37 (s : List UInt8) (hs : s.length ≤ 1099511627776) : ∀ m, PartOK Tryd.prog { C37 with gw := G37 s m } (.scope sc37) := by
  have hcw : CwOK C37.S C37.cw := tbW_ok (Q := Q) (l := tb37) rfl
  refine part_gotos (P := Tryd.prog) (C := C37) hcw (a := sc37) (by
    have e : partsIn sc37 = [] := rfl
    rw [e]; intro x hx; cases hx) (G37 s) ?_
  intro m l T r st K hT hf ht
  unfold G37 at hT
  split at hT
  · rename_i hl
    subst hl
    cases hT
    obtain ⟨i, neg, rfl, ⟨hd, hm⟩, hk⟩ := ht
    have hlt := dgA_lt hd
    have hr : r = (findP sc37 2).getD .skip := by rw [hf]; rfl
    subst hr
    refine ⟨s.length - i, 80, hm, ?_⟩
    have hv := v37_2 s (s.length - i) i neg K
    refine Eq.subst (motive := fun p => p) hv ?_
    clear hv
    have w1 : IntKind.wrap .i64 ((i : Int) + 1) = ((i + 1 : Nat) : Int) := by rw [IntKind.wrap_i64]; omega
    have w2 : IntKind.wrap .i64 (((i + 1 : Nat) : Int) + 1) = ((i + 2 : Nat) : Int) := by rw [IntKind.wrap_i64]; omega
    have w3 : IntKind.wrap .i64 (((i + 2 : Nat) : Int) + 1) = ((i + 3 : Nat) : Int) := by rw [IntKind.wrap_i64]; omega
    rw [w1, w2, w3, Int.toNat_natCast, ne46]
    rw [runD_at hd] at hk
    refine ⟨dgA s (i + 1), digit_at s (i + 1), askI (fun g1 => ?_) fun g1 => ?_⟩
    · refine ⟨i + 1, neg, rfl, ⟨g1, by omega⟩, ?_⟩
      rw [show i + 1 + runD (s.drop (i + 1)) = i + (runD (s.drop (i + 1)) + 1) by omega]
      exact hk
    · rw [runD_no g1] at hk
      have hk2 : K .ret (r37 (wholeP neg s (i + 1) true)) := hk
      refine askI (fun g2 => ?_) fun g2 => ?_
      · simp only [decide_eq_true_eq] at g2
        rw [wholeP_no (by rw [decide_eq_false (by omega), Bool.false_and])] at hk2
        exact hk2
      · simp only [decide_eq_false_iff_not] at g2
        have h1 : i + 1 < s.length := by omega
        refine chkI (decide_eq_true (by omega)) (chkI (decide_eq_true h1) (askI (fun g3 => ?_) fun g3 => ⟨dgA s (i + 2), digit_at s (i + 2), askI (fun g4 => ?_) fun g4 => ?_⟩))
        · rw [wholeP_no (by rw [bne] at g3; rw [Bool.not_eq_true'] at g3; rw [g3, Bool.and_false])] at hk2
          exact hk2
        · have hl4 := dgA_lt g4
          rw [wholeP_yes h1 g3, show i + 1 + 1 = i + 2 by omega, behind_at g4] at hk2
          exact ⟨i + 3, i + 3, true, neg, rfl, ⟨by omega, by omega⟩, hk2⟩
        · rw [wholeP_yes h1 g3, show i + 1 + 1 = i + 2 by omega, behind_no g4] at hk2
          exact hk2
  · split at hT
    · rename_i hl
      subst hl
      cases hT
      obtain ⟨i, good, low, neg, rfl, ⟨hd, hm⟩, hk⟩ := ht
      have hr : r = (findP sc37 3).getD .skip := by rw [hf]; rfl
      subst hr
      refine ⟨s.length - i, 80, hm, ?_⟩
      have hv := v37_3 s (s.length - i) i good low neg K
      refine Eq.subst (motive := fun p => p) hv ?_
      clear hv
      refine ⟨dgA s i, rfl, askI (fun g1 => ?_) fun g1 => ?_⟩
      · have hlt := dgA_lt g1
        have w1 : IntKind.wrap .i64 ((i : Int) + 1) = ((i + 1 : Nat) : Int) := by rw [IntKind.wrap_i64]; omega
        rw [w1, ne48]
        rw [behind_at g1] at hk
        refine askI (fun g2 => ?_) fun g2 => chkI (decide_eq_true hlt) (askI (fun g3 => ?_) fun g3 => askI (fun g4 => ?_) fun g4 => ?_)
        · subst g2
          exact ⟨i + 1, i + 1, true, neg, rfl, ⟨by omega, by omega⟩, hk⟩
        · subst g2
          rw [g3] at hk
          exact ⟨i + 1, i + 1, true, neg, rfl, ⟨by omega, by omega⟩, hk⟩
        · subst g2 g4
          rw [g3] at hk
          exact ⟨i + 1, good, false, true, rfl, ⟨by omega, by omega⟩, hk⟩
        · subst g2 g4
          rw [g3] at hk
          exact ⟨i + 1, i + 1, false, false, rfl, ⟨by omega, by omega⟩, hk⟩
      · rw [behind_no g1] at hk
        exact hk
    · cases hT
theorem eq45 (c : UInt8) : (((c.toNat : Nat) : Int) == 45) = (c == 45) := by
  have h := ne_u8 c 45
  rw [bne, bne] at h
  exact Bool.not_inj h
theorem pfx_neg {s : List UInt8} (h : (decide (0 < s.length) && s.getD 0 0 == 45) = true) : prefixF s = if dgA s 1 then (if s.getD 1 0 == 48 then wholeP true s 2 false else wholeP true s (1 + runD (s.drop 1)) true) else 0 := by
  unfold prefixF; rw [h]; rfl
theorem pfx_pos {s : List UInt8} (h : (decide (0 < s.length) && s.getD 0 0 == 45) = false) : prefixF s = if dgA s 0 then (if s.getD 0 0 == 48 then wholeP false s 1 false else wholeP false s (0 + runD (s.drop 0)) true) else 0 := by
  unfold prefixF; rw [h]; rfl
theorem prefix_ok : QuietOK Tryd.prog 37 fun vs _ => sPrefix vs := quiet_plain ht37 fun args v h => by
  unfold sPrefix at h
  split at h
  · rename_i s
    split at h
    · rename_i hs
      cases h
      refine ⟨rfl, rfl, ?_⟩
      have hS : (tbS Q tb37).OK Tryd.prog := tbS_ok quietText (by
        intro x hx
        simp only [tb37, List.mem_cons, List.not_mem_nil, or_false] at hx
        subst hx
        exact digit_ok)
      obtain ⟨u, h', rfl, hsem⟩ := sem_vc mixed (C := { C37 with gw := G37 s (s.length + 1) }) hS (tbS_q _ _) (tbW_ok rfl) ht37 c37 (fun x hx => by
        have e : partsIn p37.body = [.scope sc37] := rfl
        rw [e, List.mem_singleton] at hx
        subst hx
        exact gotos37 s hs (s.length + 1)) (v37 s (s.length + 1) fun u _ => u = .int .i64 (prefixF s)) (by
        refine askI (fun g1 => ?_) fun g1 => ?_
        · simp only [decide_eq_true_eq] at g1
          refine chkI (decide_eq_true (by omega)) ?_
          rw [eq45]
          refine askI (fun g2 => ?_) fun g2 => ?_
          · have hF := pfx_neg (s := s) (by rw [g2, decide_eq_true (by omega)]; rfl)
            refine ⟨dgA s 1, rfl, askI (fun f1 => ?_) fun f1 => ?_⟩
            · have l1 := dgA_lt f1
              rw [f1] at hF
              refine chkI (decide_eq_true (by omega)) ?_
              rw [eq48]
              refine askI (fun f2 => ?_) fun f2 => ⟨dgA s 2, rfl, askI (fun f3 => ?_) fun f3 => ?_⟩
              · rw [f2] at hF
                have hP : prefixF s = wholeP true s 2 false := hF
                refine askI (fun e1 => ?_) fun e1 => ?_
                · simp only [decide_eq_true_eq] at e1
                  rw [hP, wholeP_no (by rw [decide_eq_false (by omega), Bool.false_and])]; rfl
                simp only [decide_eq_false_iff_not] at e1
                refine chkI (decide_eq_true (by omega)) ?_
                rw [ne46]
                refine askI (fun e2 => ?_) fun e2 => ⟨dgA s 3, rfl, askI (fun e3 => ?_) fun e3 => ?_⟩
                · rw [hP, wholeP_no (by rw [bne] at e2; rw [Bool.not_eq_true'] at e2; rw [e2, Bool.and_false])]; rfl
                · have l3 := dgA_lt e3
                  rw [wholeP_yes (by omega) e2, behind_at e3] at hP
                  refine chkI (decide_eq_true (by omega)) ?_
                  rw [ne48]
                  refine askI (fun e4 => ?_) fun e4 => ?_
                  · rw [e4] at hP
                    exact ⟨4, 4, true, true, rfl, ⟨by omega, by omega⟩, by rw [hP]; rfl⟩
                  · rw [e4] at hP
                    exact ⟨4, 0, false, true, rfl, ⟨by omega, by omega⟩, by rw [hP]; rfl⟩
                · rw [wholeP_yes (by omega) e2, behind_no e3] at hP
                  rw [hP]; rfl
              · have hr : runD (s.drop 1) = runD (s.drop 2) + 1 := runD_at f1
                rw [f2, show 1 + runD (s.drop 1) = 2 + runD (s.drop 2) by omega] at hF
                have l3 := dgA_lt f3
                exact ⟨2, true, rfl, ⟨f3, by omega⟩, by rw [hF]; rfl⟩
              · have hr : runD (s.drop 1) = runD (s.drop 2) + 1 := runD_at f1
                rw [f2, show 1 + runD (s.drop 1) = 2 + runD (s.drop 2) by omega, runD_no f3] at hF
                have hP : prefixF s = wholeP true s 2 true := hF
                refine askI (fun e1 => ?_) fun e1 => ?_
                · simp only [decide_eq_true_eq] at e1
                  rw [hP, wholeP_no (by rw [decide_eq_false (by omega), Bool.false_and])]; rfl
                simp only [decide_eq_false_iff_not] at e1
                refine chkI (decide_eq_true (by omega)) ?_
                rw [ne46]
                refine askI (fun e2 => ?_) fun e2 => ⟨dgA s 3, rfl, askI (fun e3 => ?_) fun e3 => ?_⟩
                · rw [hP, wholeP_no (by rw [bne] at e2; rw [Bool.not_eq_true'] at e2; rw [e2, Bool.and_false])]; rfl
                · have l3 := dgA_lt e3
                  rw [wholeP_yes (by omega) e2, behind_at e3] at hP
                  exact ⟨4, 4, true, true, rfl, ⟨by omega, by omega⟩, by rw [hP]; rfl⟩
                · rw [wholeP_yes (by omega) e2, behind_no e3] at hP
                  rw [hP]; rfl
            · rw [f1] at hF
              rw [hF]; rfl
          · have hF := pfx_pos (s := s) (by rw [g2, Bool.and_false])
            refine ⟨dgA s 0, rfl, askI (fun f1 => ?_) fun f1 => ?_⟩
            · have l1 := dgA_lt f1
              rw [f1] at hF
              refine chkI (decide_eq_true (by omega)) ?_
              rw [eq48]
              refine askI (fun f2 => ?_) fun f2 => ⟨dgA s 1, rfl, askI (fun f3 => ?_) fun f3 => ?_⟩
              · rw [f2] at hF
                have hP : prefixF s = wholeP false s 1 false := hF
                refine askI (fun e1 => ?_) fun e1 => ?_
                · simp only [decide_eq_true_eq] at e1
                  rw [hP, wholeP_no (by rw [decide_eq_false (by omega), Bool.false_and])]; rfl
                simp only [decide_eq_false_iff_not] at e1
                refine chkI (decide_eq_true (by omega)) ?_
                rw [ne46]
                refine askI (fun e2 => ?_) fun e2 => ⟨dgA s 2, rfl, askI (fun e3 => ?_) fun e3 => ?_⟩
                · rw [hP, wholeP_no (by rw [bne] at e2; rw [Bool.not_eq_true'] at e2; rw [e2, Bool.and_false])]; rfl
                · have l3 := dgA_lt e3
                  rw [wholeP_yes (by omega) e2, behind_at e3] at hP
                  refine chkI (decide_eq_true (by omega)) ?_
                  rw [ne48]
                  refine askI (fun e4 => ?_) fun e4 => ?_
                  · rw [e4] at hP
                    exact ⟨3, 3, true, false, rfl, ⟨by omega, by omega⟩, by rw [hP]; rfl⟩
                  · rw [e4] at hP
                    exact ⟨3, 3, false, false, rfl, ⟨by omega, by omega⟩, by rw [hP]; rfl⟩
                · rw [wholeP_yes (by omega) e2, behind_no e3] at hP
                  rw [hP]; rfl
              · have hr : runD (s.drop 0) = runD (s.drop 1) + 1 := runD_at f1
                rw [f2, show 0 + runD (s.drop 0) = 1 + runD (s.drop 1) by omega] at hF
                have l3 := dgA_lt f3
                exact ⟨1, false, rfl, ⟨f3, by omega⟩, by rw [hF]; rfl⟩
              · have hr : runD (s.drop 0) = runD (s.drop 1) + 1 := runD_at f1
                rw [f2, show 0 + runD (s.drop 0) = 1 + runD (s.drop 1) by omega, runD_no f3] at hF
                have hP : prefixF s = wholeP false s 1 true := hF
                refine askI (fun e1 => ?_) fun e1 => ?_
                · simp only [decide_eq_true_eq] at e1
                  rw [hP, wholeP_no (by rw [decide_eq_false (by omega), Bool.false_and])]; rfl
                simp only [decide_eq_false_iff_not] at e1
                refine chkI (decide_eq_true (by omega)) ?_
                rw [ne46]
                refine askI (fun e2 => ?_) fun e2 => ⟨dgA s 2, rfl, askI (fun e3 => ?_) fun e3 => ?_⟩
                · rw [hP, wholeP_no (by rw [bne] at e2; rw [Bool.not_eq_true'] at e2; rw [e2, Bool.and_false])]; rfl
                · have l3 := dgA_lt e3
                  rw [wholeP_yes (by omega) e2, behind_at e3] at hP
                  exact ⟨3, 3, true, false, rfl, ⟨by omega, by omega⟩, by rw [hP]; rfl⟩
                · rw [wholeP_yes (by omega) e2, behind_no e3] at hP
                  rw [hP]; rfl
            · rw [f1] at hF
              rw [hF]; rfl
        · simp only [decide_eq_false_iff_not] at g1
          have hF := pfx_pos (s := s) (by rw [decide_eq_false (by omega), Bool.false_and])
          have f0 : dgA s 0 = false := by unfold dgA; rw [decide_eq_false (by omega), Bool.false_and]
          rw [f0] at hF
          refine ⟨dgA s 0, rfl, askF f0 ?_⟩
          rw [hF]; rfl)
      exact ⟨h', hsem⟩
    · cases h
  · cases h
def sIsD : List AV → Option AV
  | [.int .u8 c] => if 0 ≤ c ∧ c < 256 then some (.bool (isD c.toNat.toUInt8)) else none
  | _ => none
def pfxR (fr : Nat) (f0 : UInt8) : List UInt8 → Nat → Bool → Bool → Nat → Nat
  | [], _, _, _, best => best
  | c :: l, i, sm, pt, best =>
    if c == 46 && !pt && decide (fr < i) then pfxR fr f0 l (i + 1) sm true best
    else if !isD c || (!pt && decide (fr < i) && f0 == 48) then best
    else pfxR fr f0 l (i + 1) (sm || c != 48) pt (if (sm || c != 48) || fr == 0 then i + 1 else best)
theorem isD_at (c : UInt8) : sIsD [.int .u8 (c.toNat : Int)] = some (.bool (isD c)) := by
  have h := c.toNat_lt
  show (if 0 ≤ ((c.toNat : Nat) : Int) ∧ ((c.toNat : Nat) : Int) < 256 then some (AV.bool (isD ((c.toNat : Nat) : Int).toNat.toUInt8)) else none) = _
  rw [if_pos (by omega), u8_back]
theorem pfx_behind (fr : Nat) (f0 : UInt8) : ∀ (l : List UInt8) (i : Nat) (sm : Bool) (best : Nat), pfxR fr f0 l i sm true best = behindL (fr != 0) l i sm best
  | [], _, _, _ => rfl
  | c :: l, i, sm, best => by
    have hn : (!(fr != 0)) = (fr == 0) := by rw [bne, Bool.not_not]
    simp only [pfxR, behindL, Bool.not_true, Bool.and_false, Bool.false_and, Bool.or_false, Bool.false_eq_true, if_false, hn]
    cases hd : isD c with
    | true => simp only [Bool.not_true, Bool.false_eq_true, if_false, if_true]; exact pfx_behind fr f0 l _ _ _
    | false => simp only [Bool.not_false, if_true, Bool.false_eq_true, if_false]
theorem isD46 : isD 46 = false := by decide
theorem pfx_whole {s : List UInt8} {fr : Nat} {f0 : UInt8} (h0 : (f0 == 48) = false) : ∀ (k i : Nat), s.length - i ≤ k → fr < i → pfxR fr f0 (s.drop i) i true false i = wholeP (fr != 0) s (i + runD (s.drop i)) true := by
  intro k
  induction k with
  | zero =>
    intro i hk hi
    have hl : s.length ≤ i := by omega
    rw [List.drop_eq_nil_of_le hl]
    show i = wholeP _ s (i + 0) true
    rw [Nat.add_zero, wholeP_no (by rw [decide_eq_false (by omega), Bool.false_and])]
    rfl
  | succ k ih =>
    intro i hk hi
    rcases Nat.lt_or_ge i s.length with hl | hl
    · have hgt : decide (fr < i) = true := decide_eq_true hi
      cases hd : isD (s.getD i 0) with
      | true =>
        have hne : (s.getD i 0 == 46) = false := by
          rw [beq_eq_false_iff_ne]; intro e; rw [e, isD46] at hd; cases hd
        rw [runD_at (by rw [dgA_eq hl]; exact hd), show i + (runD (s.drop (i + 1)) + 1) = (i + 1) + runD (s.drop (i + 1)) by omega, ← ih (i + 1) (by omega) (by omega)]
        rw [drop_cons hl]
        simp only [pfxR, hne, hd, h0, Bool.false_and, Bool.and_false, Bool.or_false, Bool.not_true, Bool.false_eq_true, if_false, Bool.true_or, if_true]
      | false =>
        rw [runD_no (by rw [dgA_eq hl]; exact hd), Nat.add_zero]
        cases hp : (s.getD i 0 == 46) with
        | true =>
          have hp2 : (s.getD i 0 != 46) = false := by rw [bne, hp]; rfl
          rw [wholeP_yes hl hp2, ← pfx_behind fr f0]
          rw [drop_cons hl]
          simp only [pfxR, hp, hgt, Bool.not_false, Bool.and_true, if_true, Bool.true_or]
        | false =>
          rw [wholeP_no (by rw [hp, Bool.and_false]), drop_cons hl]
          simp only [pfxR, hp, hd, Bool.false_and, Bool.false_eq_true, if_false, Bool.not_false, Bool.true_or, if_true]
    · exact ih i (by omega) hi
theorem pfx_start {s : List UInt8} {fr : Nat} : pfxR fr (s.getD fr 0) (s.drop fr) fr false false 0 = if dgA s fr then (if s.getD fr 0 == 48 then wholeP (fr != 0) s (fr + 1) false else wholeP (fr != 0) s (fr + runD (s.drop fr)) true) else 0 := by
  rcases Nat.lt_or_ge fr s.length with hl | hl
  · rw [dgA_eq hl]
    have hgt : decide (fr < fr) = false := decide_eq_false (by omega)
    have hgt1 : decide (fr < fr + 1) = true := decide_eq_true (by omega)
    cases hd : isD (s.getD fr 0) with
    | false =>
      rw [drop_cons hl]
      simp only [pfxR, hgt, hd, Bool.and_false, Bool.false_and, Bool.false_eq_true, if_false, Bool.not_false, Bool.true_or, if_true]
    | true =>
      simp only [if_true]
      cases hz : (s.getD fr 0 == 48) with
      | false =>
        have hz2 : (s.getD fr 0 != 48) = true := by rw [bne, hz]; rfl
        rw [runD_at (by rw [dgA_eq hl]; exact hd), show fr + (runD (s.drop (fr + 1)) + 1) = (fr + 1) + runD (s.drop (fr + 1)) by omega]
        have hw := pfx_whole (s := s) (fr := fr) hz (s.length - (fr + 1)) (fr + 1) (Nat.le_refl _) (by omega)
        simp only [Bool.false_eq_true, if_false]
        rw [← hw]
        conv => lhs; rw [drop_cons hl]
        simp only [pfxR, hgt, hd, hz2, Bool.and_false, Bool.false_and, Bool.false_eq_true, if_false, Bool.not_true, Bool.false_or, Bool.true_or, Bool.or_true, if_true]
      | true =>
        have hz2 : (s.getD fr 0 != 48) = false := by rw [bne, hz]; rfl
        have hn : (!(fr != 0)) = (fr == 0) := by rw [bne, Bool.not_not]
        have h1 : pfxR fr (s.getD fr 0) (s.drop fr) fr false false 0 = pfxR fr (s.getD fr 0) (s.drop (fr + 1)) (fr + 1) false false (if fr == 0 then fr + 1 else 0) := by
          conv => lhs; rw [drop_cons hl]
          simp only [pfxR, hgt, hd, hz2, Bool.and_false, Bool.false_and, Bool.false_eq_true, if_false, Bool.not_true, Bool.false_or, Bool.or_false]
        rw [h1]
        simp only [if_true]
        rcases Nat.lt_or_ge (fr + 1) s.length with hl1 | hl1
        · cases hp : (s.getD (fr + 1) 0 == 46) with
          | true =>
            have hp2 : (s.getD (fr + 1) 0 != 46) = false := by rw [bne, hp]; rfl
            rw [wholeP_yes hl1 hp2, ← pfx_behind fr (s.getD fr 0), drop_cons hl1, hn]
            simp only [pfxR, hp, hgt1, Bool.not_false, Bool.and_true, if_true, Bool.true_or, Bool.false_or]
          | false =>
            rw [wholeP_no (by rw [hp, Bool.and_false]), drop_cons hl1, hn]
            simp only [pfxR, hp, hz, hgt1, Bool.false_and, Bool.false_eq_true, if_false, Bool.not_false, Bool.true_and, Bool.and_true, Bool.or_true, if_true, Bool.false_or]
        · rw [List.drop_eq_nil_of_le hl1, wholeP_no (by rw [decide_eq_false (by omega), Bool.false_and]), hn]
          simp only [pfxR, Bool.false_or]
  · rw [List.drop_eq_nil_of_le hl]
    have : dgA s fr = false := by unfold dgA; rw [decide_eq_false (by omega), Bool.false_and]
    rw [this]; rfl
def V43 (s : List UInt8) (fr : Nat) : Nat := pfxR fr (s.getD fr 0) (s.drop fr) fr false false 0
theorem V43_one (s : List UInt8) (h : (decide (0 < s.length) && s.getD 0 0 == 45) = true) : V43 s 1 = prefixF s := by
  rw [pfx_neg h]; exact pfx_start
theorem V43_zero (s : List UInt8) (h : (decide (0 < s.length) && s.getD 0 0 == 45) = false) : V43 s 0 = prefixF s := by
  rw [pfx_pos h]; exact pfx_start
def cut1 (s : List UInt8) (c : UInt8) : List UInt8 × List UInt8 × Bool :=
  if Lib.indexByte s c ≥ 0 then (s.take (Lib.indexByte s c).toNat, s.drop ((Lib.indexByte s c).toNat + 1), true) else (s, [], false)
def sCut : List AV → Option AV
  | [.str s, .str [c]] => if s.length ≤ 1099511627776 then some (.tup [.str (cut1 s c).1, .str (cut1 s c).2.1, .bool (cut1 s c).2.2]) else none
  | _ => none
def tb61 : List TbE := [⟨73, fun vs _ => sIndexOne vs, .of (.one (.int .i64))⟩]
def tb51 : List TbE := [⟨61, fun vs _ => sCut vs, .tup [.one .str, .one .str, .one .bool]⟩]
def digX (w d : List UInt8) : List UInt8 := if (Lib.trimLeftB (w ++ d) 48 == []) = true then [48] else Lib.trimLeftB (w ++ d) 48
def parseWD (neg : Bool) (w d : List UInt8) : Bool × Int × Int × Int :=
  if d.length > 18 then (false, 0, 0, 31)
  else if ((parseN (digX w d)).2 != 0) = true then (false, 0, 0, (parseN (digX w d)).2)
  else (neg, (parseN (digX w d)).1, d.length, 0)
def parseD (s : List UInt8) : Bool × Int × Int × Int :=
  if ((s == []) || ((prefixF s : Int) != (s.length : Int))) = true then (false, 0, 0, 30)
  else parseWD (Lib.hasPrefix s [45]) (cut1 (Lib.trimPrefix s [45]) 46).1 (cut1 (Lib.trimPrefix s [45]) 46).2.1
def decV (neg : Bool) (v sc : Int) : AV := .agg (.bool neg :: (limbs v ++ [.int .i64 sc]))
def sParseD : List AV → Option AV
  | [.str s] => if s.length ≤ 1048577 then some (.tup [decV (parseD s).1 (parseD s).2.1 (parseD s).2.2.1, .int .i64 (parseD s).2.2.2]) else none
  | _ => none
def tb38 : List TbE := [⟨37, fun vs _ => sPrefix vs, .of (.one (.int .i64))⟩, ⟨50, fun vs _ => sCutPrefix vs, .tup [.one .str, .one .bool]⟩, ⟨51, fun vs _ => sCut vs, .tup [.one .str, .one .str, .one .bool]⟩, ⟨52, fun vs _ => sTrimLeft vs, .of (.one .str)⟩, ⟨53, fun vs _ => sParseN vs, .tup [ag4, .one (.int .i64)]⟩]
theorem v61 (s : List UInt8) (c : UInt8) (R : AV → AHeap → Prop) : (∃ (n : Int), some (AV.int .i64 (Lib.indexByte s c)) = some (AV.int .i64 n) ∧ askB (decide (n ≥ 0)) (chkW (decide (0 ≤ n)) (chkW (decide (n ≤ (↑(List.length s) : Int))) (chkW (decide (0 ≤ IntKind.wrap .i64 (n + (↑(List.length [c]) : Int)))) (chkW (decide (IntKind.wrap .i64 (n + (↑(List.length [c]) : Int)) ≤ (↑(List.length s) : Int))) (R (AV.tup [AV.str (List.drop 0 (List.take (Int.toNat n) s)), AV.str (List.drop (Int.toNat (IntKind.wrap .i64 (n + (↑(List.length [c]) : Int)))) (List.take (List.length s) s)), AV.bool true]) []))))) (R (AV.tup [AV.str s, AV.str [], AV.bool false]) [])) = (wpF Tryd.prog (tbC Q tb61 (fun _ => false) kdI) 40 p61 [.str s, .str [c]] [] R) := by kernel_rfl
theorem v51 (s : List UInt8) (c : UInt8) (R : AV → AHeap → Prop) : (∃ (s_1 : List UInt8), ∃ (s_2 : List UInt8), ∃ (b : Bool), sCut [AV.str s, AV.str [c]] = some (AV.tup [AV.str s_1, AV.str s_2, AV.bool b]) ∧ askB b (R (AV.tup [AV.str s_1, AV.str s_2, AV.bool true]) []) (R (AV.tup [AV.str s_1, AV.str s_2, AV.bool false]) [])) = (wpF Tryd.prog (tbC Q tb51 (fun _ => false) kdI) 40 p51 [.str s, .str [c]] [] R) := by kernel_rfl
theorem v38 (s : List UInt8) (R : AV → AHeap → Prop) : (askB (s == []) (R (AV.tup [AV.agg [AV.bool false, AV.int .u64 0, AV.int .u64 0, AV.int .u64 0, AV.int .u64 0, AV.int .i64 0], AV.int .i64 30]) [AObj.row 37 6 [AV.bool false, AV.int .u64 0, AV.int .u64 0, AV.int .u64 0, AV.int .u64 0, AV.int .i64 0]]) (∃ (n : Int), sPrefix [AV.str s] = some (AV.int .i64 n) ∧ askB (n != (↑(List.length s) : Int)) (R (AV.tup [AV.agg [AV.bool false, AV.int .u64 0, AV.int .u64 0, AV.int .u64 0, AV.int .u64 0, AV.int .i64 0], AV.int .i64 30]) [AObj.row 37 6 [AV.bool false, AV.int .u64 0, AV.int .u64 0, AV.int .u64 0, AV.int .u64 0, AV.int .i64 0]]) (∃ (s_1 : List UInt8), ∃ (b : Bool), some (AV.tup [AV.str (Lib.trimPrefix s (Array.toList (ByteArray.data { data := #[45] }))), AV.bool (Lib.hasPrefix s (Array.toList (ByteArray.data { data := #[45] })))]) = some (AV.tup [AV.str s_1, AV.bool b]) ∧ askB b (∃ (s : List UInt8), ∃ (s_2 : List UInt8), ∃ (b : Bool), sCut [AV.str s_1, AV.str [46]] = some (AV.tup [AV.str s, AV.str s_2, AV.bool b]) ∧ askB b (askB (decide ((↑(List.length s_2) : Int) > 18)) (R (AV.tup [AV.agg [AV.bool false, AV.int .u64 0, AV.int .u64 0, AV.int .u64 0, AV.int .u64 0, AV.int .i64 0], AV.int .i64 31]) [AObj.row 37 6 [AV.bool false, AV.int .u64 0, AV.int .u64 0, AV.int .u64 0, AV.int .u64 0, AV.int .i64 0]]) (chkW (decide (List.length s + List.length s_2 ≤ 9223372036854775807)) (∃ (s_3 : List UInt8), some (AV.str (Lib.trimLeftB (s ++ s_2) 48)) = some (AV.str s_3) ∧ askB (s_3 == []) (∃ (n : Int), ∃ (n_1 : Int), ∃ (n_2 : Int), ∃ (n_3 : Int), ∃ (n_4 : Int), some (AV.tup [AV.agg [AV.int .u64 0, AV.int .u64 0, AV.int .u64 0, AV.int .u64 0], AV.int .i64 0]) = some (AV.tup [AV.agg [AV.int .u64 n, AV.int .u64 n_1, AV.int .u64 n_2, AV.int .u64 n_3], AV.int .i64 n_4]) ∧ askB (n_4 != 0) (R (AV.tup [AV.agg [AV.bool false, AV.int .u64 0, AV.int .u64 0, AV.int .u64 0, AV.int .u64 0, AV.int .i64 0], AV.int .i64 n_4]) [AObj.row 37 6 [AV.bool false, AV.int .u64 0, AV.int .u64 0, AV.int .u64 0, AV.int .u64 0, AV.int .i64 0], AObj.row 35 4 [AV.int .u64 n, AV.int .u64 n_1, AV.int .u64 n_2, AV.int .u64 n_3]]) (R (AV.tup [AV.agg [AV.bool true, AV.int .u64 n, AV.int .u64 n_1, AV.int .u64 n_2, AV.int .u64 n_3, AV.int .i64 (↑(List.length s_2) : Int)], AV.int .i64 0]) [AObj.row 37 6 [AV.bool true, AV.int .u64 n, AV.int .u64 n_1, AV.int .u64 n_2, AV.int .u64 n_3, AV.int .i64 (↑(List.length s_2) : Int)], AObj.row 35 4 [AV.int .u64 n, AV.int .u64 n_1, AV.int .u64 n_2, AV.int .u64 n_3]])) (∃ (n : Int), ∃ (n_1 : Int), ∃ (n_2 : Int), ∃ (n_3 : Int), ∃ (n_4 : Int), sParseN [AV.str s_3] = some (AV.tup [AV.agg [AV.int .u64 n, AV.int .u64 n_1, AV.int .u64 n_2, AV.int .u64 n_3], AV.int .i64 n_4]) ∧ askB (n_4 != 0) (R (AV.tup [AV.agg [AV.bool false, AV.int .u64 0, AV.int .u64 0, AV.int .u64 0, AV.int .u64 0, AV.int .i64 0], AV.int .i64 n_4]) [AObj.row 37 6 [AV.bool false, AV.int .u64 0, AV.int .u64 0, AV.int .u64 0, AV.int .u64 0, AV.int .i64 0], AObj.row 35 4 [AV.int .u64 n, AV.int .u64 n_1, AV.int .u64 n_2, AV.int .u64 n_3]]) (R (AV.tup [AV.agg [AV.bool true, AV.int .u64 n, AV.int .u64 n_1, AV.int .u64 n_2, AV.int .u64 n_3, AV.int .i64 (↑(List.length s_2) : Int)], AV.int .i64 0]) [AObj.row 37 6 [AV.bool true, AV.int .u64 n, AV.int .u64 n_1, AV.int .u64 n_2, AV.int .u64 n_3, AV.int .i64 (↑(List.length s_2) : Int)], AObj.row 35 4 [AV.int .u64 n, AV.int .u64 n_1, AV.int .u64 n_2, AV.int .u64 n_3]]))))) (askB (decide ((↑(List.length s_2) : Int) > 18)) (R (AV.tup [AV.agg [AV.bool false, AV.int .u64 0, AV.int .u64 0, AV.int .u64 0, AV.int .u64 0, AV.int .i64 0], AV.int .i64 31]) [AObj.row 37 6 [AV.bool false, AV.int .u64 0, AV.int .u64 0, AV.int .u64 0, AV.int .u64 0, AV.int .i64 0]]) (chkW (decide (List.length s + List.length s_2 ≤ 9223372036854775807)) (∃ (s_3 : List UInt8), some (AV.str (Lib.trimLeftB (s ++ s_2) 48)) = some (AV.str s_3) ∧ askB (s_3 == []) (∃ (n : Int), ∃ (n_1 : Int), ∃ (n_2 : Int), ∃ (n_3 : Int), ∃ (n_4 : Int), some (AV.tup [AV.agg [AV.int .u64 0, AV.int .u64 0, AV.int .u64 0, AV.int .u64 0], AV.int .i64 0]) = some (AV.tup [AV.agg [AV.int .u64 n, AV.int .u64 n_1, AV.int .u64 n_2, AV.int .u64 n_3], AV.int .i64 n_4]) ∧ askB (n_4 != 0) (R (AV.tup [AV.agg [AV.bool false, AV.int .u64 0, AV.int .u64 0, AV.int .u64 0, AV.int .u64 0, AV.int .i64 0], AV.int .i64 n_4]) [AObj.row 37 6 [AV.bool false, AV.int .u64 0, AV.int .u64 0, AV.int .u64 0, AV.int .u64 0, AV.int .i64 0], AObj.row 35 4 [AV.int .u64 n, AV.int .u64 n_1, AV.int .u64 n_2, AV.int .u64 n_3]]) (R (AV.tup [AV.agg [AV.bool true, AV.int .u64 n, AV.int .u64 n_1, AV.int .u64 n_2, AV.int .u64 n_3, AV.int .i64 (↑(List.length s_2) : Int)], AV.int .i64 0]) [AObj.row 37 6 [AV.bool true, AV.int .u64 n, AV.int .u64 n_1, AV.int .u64 n_2, AV.int .u64 n_3, AV.int .i64 (↑(List.length s_2) : Int)], AObj.row 35 4 [AV.int .u64 n, AV.int .u64 n_1, AV.int .u64 n_2, AV.int .u64 n_3]])) (∃ (n : Int), ∃ (n_1 : Int), ∃ (n_2 : Int), ∃ (n_3 : Int), ∃ (n_4 : Int), sParseN [AV.str s_3] = some (AV.tup [AV.agg [AV.int .u64 n, AV.int .u64 n_1, AV.int .u64 n_2, AV.int .u64 n_3], AV.int .i64 n_4]) ∧ askB (n_4 != 0) (R (AV.tup [AV.agg [AV.bool false, AV.int .u64 0, AV.int .u64 0, AV.int .u64 0, AV.int .u64 0, AV.int .i64 0], AV.int .i64 n_4]) [AObj.row 37 6 [AV.bool false, AV.int .u64 0, AV.int .u64 0, AV.int .u64 0, AV.int .u64 0, AV.int .i64 0], AObj.row 35 4 [AV.int .u64 n, AV.int .u64 n_1, AV.int .u64 n_2, AV.int .u64 n_3]]) (R (AV.tup [AV.agg [AV.bool true, AV.int .u64 n, AV.int .u64 n_1, AV.int .u64 n_2, AV.int .u64 n_3, AV.int .i64 (↑(List.length s_2) : Int)], AV.int .i64 0]) [AObj.row 37 6 [AV.bool true, AV.int .u64 n, AV.int .u64 n_1, AV.int .u64 n_2, AV.int .u64 n_3, AV.int .i64 (↑(List.length s_2) : Int)], AObj.row 35 4 [AV.int .u64 n, AV.int .u64 n_1, AV.int .u64 n_2, AV.int .u64 n_3]])))))) (∃ (s : List UInt8), ∃ (s_2 : List UInt8), ∃ (b : Bool), sCut [AV.str s_1, AV.str [46]] = some (AV.tup [AV.str s, AV.str s_2, AV.bool b]) ∧ askB b (askB (decide ((↑(List.length s_2) : Int) > 18)) (R (AV.tup [AV.agg [AV.bool false, AV.int .u64 0, AV.int .u64 0, AV.int .u64 0, AV.int .u64 0, AV.int .i64 0], AV.int .i64 31]) [AObj.row 37 6 [AV.bool false, AV.int .u64 0, AV.int .u64 0, AV.int .u64 0, AV.int .u64 0, AV.int .i64 0]]) (chkW (decide (List.length s + List.length s_2 ≤ 9223372036854775807)) (∃ (s_3 : List UInt8), some (AV.str (Lib.trimLeftB (s ++ s_2) 48)) = some (AV.str s_3) ∧ askB (s_3 == []) (∃ (n : Int), ∃ (n_1 : Int), ∃ (n_2 : Int), ∃ (n_3 : Int), ∃ (n_4 : Int), some (AV.tup [AV.agg [AV.int .u64 0, AV.int .u64 0, AV.int .u64 0, AV.int .u64 0], AV.int .i64 0]) = some (AV.tup [AV.agg [AV.int .u64 n, AV.int .u64 n_1, AV.int .u64 n_2, AV.int .u64 n_3], AV.int .i64 n_4]) ∧ askB (n_4 != 0) (R (AV.tup [AV.agg [AV.bool false, AV.int .u64 0, AV.int .u64 0, AV.int .u64 0, AV.int .u64 0, AV.int .i64 0], AV.int .i64 n_4]) [AObj.row 37 6 [AV.bool false, AV.int .u64 0, AV.int .u64 0, AV.int .u64 0, AV.int .u64 0, AV.int .i64 0], AObj.row 35 4 [AV.int .u64 n, AV.int .u64 n_1, AV.int .u64 n_2, AV.int .u64 n_3]]) (R (AV.tup [AV.agg [AV.bool false, AV.int .u64 n, AV.int .u64 n_1, AV.int .u64 n_2, AV.int .u64 n_3, AV.int .i64 (↑(List.length s_2) : Int)], AV.int .i64 0]) [AObj.row 37 6 [AV.bool false, AV.int .u64 n, AV.int .u64 n_1, AV.int .u64 n_2, AV.int .u64 n_3, AV.int .i64 (↑(List.length s_2) : Int)], AObj.row 35 4 [AV.int .u64 n, AV.int .u64 n_1, AV.int .u64 n_2, AV.int .u64 n_3]])) (∃ (n : Int), ∃ (n_1 : Int), ∃ (n_2 : Int), ∃ (n_3 : Int), ∃ (n_4 : Int), sParseN [AV.str s_3] = some (AV.tup [AV.agg [AV.int .u64 n, AV.int .u64 n_1, AV.int .u64 n_2, AV.int .u64 n_3], AV.int .i64 n_4]) ∧ askB (n_4 != 0) (R (AV.tup [AV.agg [AV.bool false, AV.int .u64 0, AV.int .u64 0, AV.int .u64 0, AV.int .u64 0, AV.int .i64 0], AV.int .i64 n_4]) [AObj.row 37 6 [AV.bool false, AV.int .u64 0, AV.int .u64 0, AV.int .u64 0, AV.int .u64 0, AV.int .i64 0], AObj.row 35 4 [AV.int .u64 n, AV.int .u64 n_1, AV.int .u64 n_2, AV.int .u64 n_3]]) (R (AV.tup [AV.agg [AV.bool false, AV.int .u64 n, AV.int .u64 n_1, AV.int .u64 n_2, AV.int .u64 n_3, AV.int .i64 (↑(List.length s_2) : Int)], AV.int .i64 0]) [AObj.row 37 6 [AV.bool false, AV.int .u64 n, AV.int .u64 n_1, AV.int .u64 n_2, AV.int .u64 n_3, AV.int .i64 (↑(List.length s_2) : Int)], AObj.row 35 4 [AV.int .u64 n, AV.int .u64 n_1, AV.int .u64 n_2, AV.int .u64 n_3]]))))) (askB (decide ((↑(List.length s_2) : Int) > 18)) (R (AV.tup [AV.agg [AV.bool false, AV.int .u64 0, AV.int .u64 0, AV.int .u64 0, AV.int .u64 0, AV.int .i64 0], AV.int .i64 31]) [AObj.row 37 6 [AV.bool false, AV.int .u64 0, AV.int .u64 0, AV.int .u64 0, AV.int .u64 0, AV.int .i64 0]]) (chkW (decide (List.length s + List.length s_2 ≤ 9223372036854775807)) (∃ (s_3 : List UInt8), some (AV.str (Lib.trimLeftB (s ++ s_2) 48)) = some (AV.str s_3) ∧ askB (s_3 == []) (∃ (n : Int), ∃ (n_1 : Int), ∃ (n_2 : Int), ∃ (n_3 : Int), ∃ (n_4 : Int), some (AV.tup [AV.agg [AV.int .u64 0, AV.int .u64 0, AV.int .u64 0, AV.int .u64 0], AV.int .i64 0]) = some (AV.tup [AV.agg [AV.int .u64 n, AV.int .u64 n_1, AV.int .u64 n_2, AV.int .u64 n_3], AV.int .i64 n_4]) ∧ askB (n_4 != 0) (R (AV.tup [AV.agg [AV.bool false, AV.int .u64 0, AV.int .u64 0, AV.int .u64 0, AV.int .u64 0, AV.int .i64 0], AV.int .i64 n_4]) [AObj.row 37 6 [AV.bool false, AV.int .u64 0, AV.int .u64 0, AV.int .u64 0, AV.int .u64 0, AV.int .i64 0], AObj.row 35 4 [AV.int .u64 n, AV.int .u64 n_1, AV.int .u64 n_2, AV.int .u64 n_3]]) (R (AV.tup [AV.agg [AV.bool false, AV.int .u64 n, AV.int .u64 n_1, AV.int .u64 n_2, AV.int .u64 n_3, AV.int .i64 (↑(List.length s_2) : Int)], AV.int .i64 0]) [AObj.row 37 6 [AV.bool false, AV.int .u64 n, AV.int .u64 n_1, AV.int .u64 n_2, AV.int .u64 n_3, AV.int .i64 (↑(List.length s_2) : Int)], AObj.row 35 4 [AV.int .u64 n, AV.int .u64 n_1, AV.int .u64 n_2, AV.int .u64 n_3]])) (∃ (n : Int), ∃ (n_1 : Int), ∃ (n_2 : Int), ∃ (n_3 : Int), ∃ (n_4 : Int), sParseN [AV.str s_3] = some (AV.tup [AV.agg [AV.int .u64 n, AV.int .u64 n_1, AV.int .u64 n_2, AV.int .u64 n_3], AV.int .i64 n_4]) ∧ askB (n_4 != 0) (R (AV.tup [AV.agg [AV.bool false, AV.int .u64 0, AV.int .u64 0, AV.int .u64 0, AV.int .u64 0, AV.int .i64 0], AV.int .i64 n_4]) [AObj.row 37 6 [AV.bool false, AV.int .u64 0, AV.int .u64 0, AV.int .u64 0, AV.int .u64 0, AV.int .i64 0], AObj.row 35 4 [AV.int .u64 n, AV.int .u64 n_1, AV.int .u64 n_2, AV.int .u64 n_3]]) (R (AV.tup [AV.agg [AV.bool false, AV.int .u64 n, AV.int .u64 n_1, AV.int .u64 n_2, AV.int .u64 n_3, AV.int .i64 (↑(List.length s_2) : Int)], AV.int .i64 0]) [AObj.row 37 6 [AV.bool false, AV.int .u64 n, AV.int .u64 n_1, AV.int .u64 n_2, AV.int .u64 n_3, AV.int .i64 (↑(List.length s_2) : Int)], AObj.row 35 4 [AV.int .u64 n, AV.int .u64 n_1, AV.int .u64 n_2, AV.int .u64 n_3]]))))))))) = (wpF Tryd.prog (tbC Q tb38 (fun _ => false) kdI) 80 p38 [.str s] [] R) := by kernel_rfl
theorem cut61_ok : QuietOK Tryd.prog 61 fun vs _ => sCut vs := quiet_plain ht61 fun args v h => by
  unfold sCut at h
  split at h
  · rename_i s c
    split at h
    · rename_i hs
      cases h
      refine ⟨rfl, rfl, ?_⟩
      have hS : (tbS Q tb61).OK Tryd.prog := tbS_ok quietText (by
        intro x hx
        simp only [tb61, List.mem_cons, List.not_mem_nil, or_false] at hx
        subst hx
        exact indexOne_ok)
      obtain ⟨i1, i2⟩ := ix_lt s c
      obtain ⟨u, h', rfl, hsem⟩ := sem_vc mixed (C := tbC Q tb61 (fun _ => false) kdI) hS (tbS_q _ _) (tbW_ok rfl) ht61 c61 (no_parts rfl) (v61 s c fun u _ => u = .tup [.str (cut1 s c).1, .str (cut1 s c).2.1, .bool (cut1 s c).2.2]) (by
        refine ⟨_, rfl, askI (fun g1 => ?_) fun g1 => ?_⟩
        · simp only [decide_eq_true_eq] at g1
          have hw : IntKind.wrap .i64 (Lib.indexByte s c + ((List.length [c] : Nat) : Int)) = Lib.indexByte s c + 1 := by
            have e : ((List.length [c] : Nat) : Int) = 1 := rfl
            rw [e, IntKind.wrap_i64]; omega
          rw [hw]
          refine chkI (decide_eq_true (by omega)) (chkI (decide_eq_true (by omega)) (chkI (decide_eq_true (by omega)) (chkI (decide_eq_true (by omega)) ?_)))
          unfold cut1
          rw [if_pos g1, List.drop_zero, List.take_of_length_le (Nat.le_refl _), show (Lib.indexByte s c + 1).toNat = (Lib.indexByte s c).toNat + 1 by omega]
        · simp only [decide_eq_false_iff_not] at g1
          unfold cut1
          rw [if_neg g1])
      exact ⟨h', hsem⟩
    · cases h
  · cases h
theorem cut_ok : QuietOK Tryd.prog 51 fun vs _ => sCut vs := quiet_plain ht51 fun args v h => by
  unfold sCut at h
  split at h
  · rename_i s c
    split at h
    · rename_i hs
      cases h
      refine ⟨rfl, rfl, ?_⟩
      have hS : (tbS Q tb51).OK Tryd.prog := tbS_ok quietText (by
        intro x hx
        simp only [tb51, List.mem_cons, List.not_mem_nil, or_false] at hx
        subst hx
        exact cut61_ok)
      obtain ⟨u, h', rfl, hsem⟩ := sem_vc mixed (C := tbC Q tb51 (fun _ => false) kdI) hS (tbS_q _ _) (tbW_ok rfl) ht51 c51 (no_parts rfl) (v51 s c fun u _ => u = .tup [.str (cut1 s c).1, .str (cut1 s c).2.1, .bool (cut1 s c).2.2]) (by
        refine ⟨(cut1 s c).1, (cut1 s c).2.1, (cut1 s c).2.2, if_pos hs, askI (fun g => by rw [g]) fun g => by rw [g]⟩)
      exact ⟨h', hsem⟩
    · cases h
  · cases h
def decX (p : Bool × Int × Int × Int) : AV := .tup [decV p.1 p.2.1 p.2.2.1, .int .i64 p.2.2.2]
def X (s : List UInt8) : AV := decX (parseD s)
theorem cut1_len (s : List UInt8) (c : UInt8) : (cut1 s c).1.length ≤ s.length ∧ (cut1 s c).2.1.length ≤ s.length := by
  unfold cut1
  split
  · simp only [List.length_take, List.length_drop]; omega
  · simp
theorem trimP_len (s p : List UInt8) : (Lib.trimPrefix s p).length ≤ s.length := by
  unfold Lib.trimPrefix
  split
  · simp only [List.length_drop]; omega
  · exact Nat.le_refl _
theorem dropW_len (p : UInt8 → Bool) : ∀ l : List UInt8, (l.dropWhile p).length ≤ l.length
  | [] => Nat.le_refl _
  | a :: l => by
    rw [List.dropWhile_cons]
    split
    · exact Nat.le_trans (dropW_len p l) (Nat.le_succ _)
    · exact Nat.le_refl _
theorem trim_len (w d : List UInt8) (h : w.length + d.length ≤ 1099511627776) : (Lib.trimLeftB (w ++ d) 48).length ≤ 1099511627776 := by
  have := dropW_len (· == 48) (w ++ d)
  rw [List.length_append] at this
  unfold Lib.trimLeftB
  omega
theorem parseN_at {t : List UInt8} (h : t.length ≤ 1099511627776) : sParseN [.str t] = some (.tup [.agg (limbs (parseN t).1), .int .i64 (parseN t).2]) := if_pos h
theorem cut_at {t : List UInt8} {c : UInt8} (h : t.length ≤ 1099511627776) : sCut [.str t, .str [c]] = some (.tup [.str (cut1 t c).1, .str (cut1 t c).2.1, .bool (cut1 t c).2.2]) := if_pos h
theorem pfx_at {t : List UInt8} (h : t.length ≤ 1099511627776) : sPrefix [.str t] = some (.int .i64 (prefixF t)) := if_pos h
theorem pw_long {neg : Bool} {w d : List UInt8} (h : d.length > 18) : parseWD neg w d = (false, 0, 0, 31) := if_pos h
theorem pw_err {neg : Bool} {w d : List UInt8} (h : ¬ d.length > 18) (e : ((parseN (digX w d)).2 != 0) = true) : parseWD neg w d = (false, 0, 0, (parseN (digX w d)).2) := by
  unfold parseWD; rw [if_neg h, if_pos e]
theorem pw_ok {neg : Bool} {w d : List UInt8} (h : ¬ d.length > 18) (e : ((parseN (digX w d)).2 != 0) = false) : parseWD neg w d = ((neg, (parseN (digX w d)).1, (d.length : Int), 0) : Bool × Int × Int × Int) := by
  unfold parseWD; rw [if_neg h, if_neg (by rw [e]; decide)]
theorem parse_dec_ok : QuietOK Tryd.prog 38 fun vs _ => sParseD vs := quiet_plain ht38 fun args v h => by
  unfold sParseD at h
  split at h
  · rename_i s
    split at h
    · rename_i hs
      cases h
      refine ⟨rfl, rfl, ?_⟩
      have hS : (tbS Q tb38).OK Tryd.prog := tbS_ok quietText (by
        intro x hx
        simp only [tb38, List.mem_cons, List.not_mem_nil, or_false] at hx
        rcases hx with rfl | rfl | rfl | rfl | rfl
        · exact prefix_ok
        · exact cutPrefix_ok
        · exact cut_ok
        · exact trimLeft_ok
        · exact parse_ok)
      have c1 := trimP_len s [45]
      obtain ⟨c2, c3⟩ := cut1_len (Lib.trimPrefix s [45]) 46
      obtain ⟨u, h', rfl, hsem⟩ := sem_vc mixed (C := tbC Q tb38 (fun _ => false) kdI) hS (tbS_q _ _) (tbW_ok rfl) ht38 c38 (no_parts rfl) (v38 s fun u _ => u = X s) (by
        refine askI (fun e0 => ?_) fun e0 => ?_
        · show _ = X s
          unfold X parseD; rw [if_pos (by rw [e0]; rfl)]; rfl
        refine ⟨_, pfx_at (by omega), askI (fun e00 => ?_) fun e00 => ?_⟩
        · show _ = X s
          unfold X parseD; rw [if_pos (by rw [e00]; simp)]; rfl
        refine ⟨_, _, rfl, askI (fun eb => ?_) fun eb => ?_⟩
        · refine ⟨_, _, _, cut_at (t := Lib.trimPrefix s [45]) (by omega), ?_⟩
          have hW : (cut1 (Lib.trimPrefix s [45]) 46).1.length ≤ 1048577 := by omega
          have hD : (cut1 (Lib.trimPrefix s [45]) 46).2.1.length ≤ 1048577 := by omega
          have hp : X s = decX (parseWD true (cut1 (Lib.trimPrefix s [45]) 46).1 (cut1 (Lib.trimPrefix s [45]) 46).2.1) := by
            unfold X parseD; rw [if_neg (by rw [e0, e00]; decide), show Lib.hasPrefix s [45] = true from eb]
          clear eb
          revert hW hD hp
          generalize (cut1 (Lib.trimPrefix s [45]) 46).1 = Wh
          generalize (cut1 (Lib.trimPrefix s [45]) 46).2.1 = D
          intro hW hD hp
          refine askI (fun _ => ?_) fun _ => ?_
          · refine askI (fun e1 => ?_) fun e1 => ?_
            · simp only [decide_eq_true_eq] at e1
              rw [hp, pw_long (by omega)]; rfl
            simp only [decide_eq_false_iff_not] at e1
            have hd18 : ¬ D.length > 18 := by omega
            refine chkI (decide_eq_true (by omega)) ⟨_, rfl, askI (fun e2 => ?_) fun e2 => ?_⟩
            · have hx : digX Wh D = [48] := if_pos e2
              have h48 : parseN [48] = (0, 0) := by decide +kernel
              refine ⟨0, 0, 0, 0, 0, rfl, ?_⟩
              rw [hp, pw_ok hd18 (by rw [hx, h48]; rfl), hx, h48]; rfl
            · have hx : digX Wh D = Lib.trimLeftB (Wh ++ D) 48 := if_neg (by rw [e2]; decide)
              refine ⟨_, _, _, _, _, parseN_at (trim_len Wh D (by omega)), askI (fun e3 => ?_) fun e3 => ?_⟩
              · rw [hp, pw_err hd18 (by rw [hx]; exact e3), hx]; rfl
              · rw [hp, pw_ok hd18 (by rw [hx]; exact e3), hx]; rfl
          · refine askI (fun e1 => ?_) fun e1 => ?_
            · simp only [decide_eq_true_eq] at e1
              rw [hp, pw_long (by omega)]; rfl
            simp only [decide_eq_false_iff_not] at e1
            have hd18 : ¬ D.length > 18 := by omega
            refine chkI (decide_eq_true (by omega)) ⟨_, rfl, askI (fun e2 => ?_) fun e2 => ?_⟩
            · have hx : digX Wh D = [48] := if_pos e2
              have h48 : parseN [48] = (0, 0) := by decide +kernel
              refine ⟨0, 0, 0, 0, 0, rfl, ?_⟩
              rw [hp, pw_ok hd18 (by rw [hx, h48]; rfl), hx, h48]; rfl
            · have hx : digX Wh D = Lib.trimLeftB (Wh ++ D) 48 := if_neg (by rw [e2]; decide)
              refine ⟨_, _, _, _, _, parseN_at (trim_len Wh D (by omega)), askI (fun e3 => ?_) fun e3 => ?_⟩
              · rw [hp, pw_err hd18 (by rw [hx]; exact e3), hx]; rfl
              · rw [hp, pw_ok hd18 (by rw [hx]; exact e3), hx]; rfl
        · refine ⟨_, _, _, cut_at (t := Lib.trimPrefix s [45]) (by omega), ?_⟩
          have hW : (cut1 (Lib.trimPrefix s [45]) 46).1.length ≤ 1048577 := by omega
          have hD : (cut1 (Lib.trimPrefix s [45]) 46).2.1.length ≤ 1048577 := by omega
          have hp : X s = decX (parseWD false (cut1 (Lib.trimPrefix s [45]) 46).1 (cut1 (Lib.trimPrefix s [45]) 46).2.1) := by
            unfold X parseD; rw [if_neg (by rw [e0, e00]; decide), show Lib.hasPrefix s [45] = false from eb]
          clear eb
          revert hW hD hp
          generalize (cut1 (Lib.trimPrefix s [45]) 46).1 = Wh
          generalize (cut1 (Lib.trimPrefix s [45]) 46).2.1 = D
          intro hW hD hp
          refine askI (fun _ => ?_) fun _ => ?_
          · refine askI (fun e1 => ?_) fun e1 => ?_
            · simp only [decide_eq_true_eq] at e1
              rw [hp, pw_long (by omega)]; rfl
            simp only [decide_eq_false_iff_not] at e1
            have hd18 : ¬ D.length > 18 := by omega
            refine chkI (decide_eq_true (by omega)) ⟨_, rfl, askI (fun e2 => ?_) fun e2 => ?_⟩
            · have hx : digX Wh D = [48] := if_pos e2
              have h48 : parseN [48] = (0, 0) := by decide +kernel
              refine ⟨0, 0, 0, 0, 0, rfl, ?_⟩
              rw [hp, pw_ok hd18 (by rw [hx, h48]; rfl), hx, h48]; rfl
            · have hx : digX Wh D = Lib.trimLeftB (Wh ++ D) 48 := if_neg (by rw [e2]; decide)
              refine ⟨_, _, _, _, _, parseN_at (trim_len Wh D (by omega)), askI (fun e3 => ?_) fun e3 => ?_⟩
              · rw [hp, pw_err hd18 (by rw [hx]; exact e3), hx]; rfl
              · rw [hp, pw_ok hd18 (by rw [hx]; exact e3), hx]; rfl
          · refine askI (fun e1 => ?_) fun e1 => ?_
            · simp only [decide_eq_true_eq] at e1
              rw [hp, pw_long (by omega)]; rfl
            simp only [decide_eq_false_iff_not] at e1
            have hd18 : ¬ D.length > 18 := by omega
            refine chkI (decide_eq_true (by omega)) ⟨_, rfl, askI (fun e2 => ?_) fun e2 => ?_⟩
            · have hx : digX Wh D = [48] := if_pos e2
              have h48 : parseN [48] = (0, 0) := by decide +kernel
              refine ⟨0, 0, 0, 0, 0, rfl, ?_⟩
              rw [hp, pw_ok hd18 (by rw [hx, h48]; rfl), hx, h48]; rfl
            · have hx : digX Wh D = Lib.trimLeftB (Wh ++ D) 48 := if_neg (by rw [e2]; decide)
              refine ⟨_, _, _, _, _, parseN_at (trim_len Wh D (by omega)), askI (fun e3 => ?_) fun e3 => ?_⟩
              · rw [hp, pw_err hd18 (by rw [hx]; exact e3), hx]; rfl
              · rw [hp, pw_ok hd18 (by rw [hx]; exact e3), hx]; rfl
        )
      exact ⟨h', hsem⟩
    · cases h
  · cases h

end Go.Proofs.YtahdfjmdoljgiaaDoor
