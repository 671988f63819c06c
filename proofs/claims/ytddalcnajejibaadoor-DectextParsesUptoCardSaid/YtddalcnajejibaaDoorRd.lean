/- Dectext: Rd; written by mk03.py. -/
import Derived.Test.YtddalcnajejibaaDoorRc
namespace Go.Proofs.YtddalcnajejibaaDoor
open Go Go.Am
set_option maxRecDepth 100000
set_option maxHeartbeats 1000000
set_option linter.unusedVariables false
set_option linter.unusedSimpArgs false
def dgA (s : List UInt8) (i : Nat) : Bool := decide (i < s.length) && isD (s.getD i 0)
def sDigit : List AV → Option AV
  | [.str s, .int .i64 i] => if 0 ≤ i then some (.bool (dgA s i.toNat)) else none
  | _ => none
def runD : List UInt8 → Nat
  | [] => 0
  | c :: l => if isD c then runD l + 1 else 0
def behindL (neg : Bool) : List UInt8 → Nat → Bool → Nat → Nat
  | [], _, _, good => good
  | c :: l, i, low, good => if isD c then behindL neg l (i + 1) (low || c != 48) (if (low || c != 48) || !neg then i + 1 else good) else good
def wholeP (neg : Bool) (s : List UInt8) (i : Nat) (low : Bool) : Nat :=
  if decide (i < s.length) && s.getD i 0 == 46 then behindL neg (s.drop (i + 1)) (i + 1) low (if low || !neg then i else 0) else (if low || !neg then i else 0)
def prefixF (s : List UInt8) : Nat :=
  if dgA s (if decide (0 < s.length) && s.getD 0 0 == 45 then 1 else 0) then
    (if s.getD (if decide (0 < s.length) && s.getD 0 0 == 45 then 1 else 0) 0 == 48 then wholeP (decide (0 < s.length) && s.getD 0 0 == 45) s ((if decide (0 < s.length) && s.getD 0 0 == 45 then 1 else 0) + 1) false
    else wholeP (decide (0 < s.length) && s.getD 0 0 == 45) s ((if decide (0 < s.length) && s.getD 0 0 == 45 then 1 else 0) + runD (s.drop (if decide (0 < s.length) && s.getD 0 0 == 45 then 1 else 0))) true) else 0
def sPrefix : List AV → Option AV
  | [.str s] => if s.length ≤ 9223372036854775807 then some (.int .i64 (prefixF s)) else none
  | _ => none
def tb37 : List TbE := [⟨38, fun vs _ => sDigit vs, .of (.one .bool)⟩]
def q37 (s : List UInt8) (good : Int) (i : Nat) (low neg : Bool) : St := (envOf 69 [(0, .str s), (3, .int .i64 good), (4, .int .i64 i), (5, .bool low), (6, .bool neg)], [])
def r37 (v : Int) : St := (envOf 69 [(2, .int .i64 v), (3, .int .i64 v), (68, .int .i64 v)], [])
def C37 : Cfg := { tbC Q tb37 (fun _ => false) kdI with
  F := fun id => if id = 21 then ⟨dropT 69 [3], .all⟩ else if id = 1000002 ∨ id = 1000003 then ⟨dropT 69 [0, 3, 4, 5, 6], .all⟩ else ⟨[], .all⟩ }
def G37 (s : List UInt8) (m : Nat) (l : Nat) : Option (St → (AExit → St → Prop) → Prop) :=
  if l = 2 then some fun st K => ∃ (i : Nat) (neg : Bool), st = q37 s 0 i true neg ∧ (dgA s i = true ∧ s.length - i < m) ∧ K .ret (r37 (wholeP neg s (i + runD (s.drop i)) true))
  else if l = 3 then some fun st K => ∃ (i good : Nat) (low neg : Bool), st = q37 s good i low neg ∧ (i ≤ s.length ∧ s.length - i < m) ∧ K .ret (r37 (behindL neg (s.drop i) i low good)) else none

theorem v49 (s : List UInt8) (i : Nat) (R : AV → AHeap → Prop) : (askB (decide ((↑i : Int) < (↑(List.length s) : Int))) (chkW (decide (i < List.length s)) (askB (decide ((↑(UInt8.toNat (List.getD s i 0)) : Int) ≥ 48)) (chkW (decide (i < List.length s)) (askB (decide ((↑(UInt8.toNat (List.getD s i 0)) : Int) ≤ 57)) (R (AV.bool true) []) (R (AV.bool false) []))) (R (AV.bool false) []))) (R (AV.bool false) [])) = (wpF Tryd.prog { tbC Q [] (fun _ => false) kdI with F := fun _ => ⟨[], .all⟩ } 40 p49 [.str s, .int .i64 i] [] R) := by kernel_rfl
theorem v37_2 (s : List UInt8) (m i : Nat) (neg : Bool) (K : AExit → St → Prop) : (∃ (b : Bool), TbE.s { f := 38, s := fun (vs : List AV) (x : AHeap) => sDigit vs, r := Rs.of (Rs1.one K1.bool) } [AV.str s, AV.int .i64 (IntKind.wrap .i64 ((↑i : Int) + 1))] [] = some (AV.bool b) ∧ askB b (∃ (i_1 : Nat), ∃ (neg_1 : Bool), (envOf 69 [(0, AV.str s), (3, AV.int .i64 0), (4, AV.int .i64 (IntKind.wrap .i64 ((↑i : Int) + 1))), (5, AV.bool true), (6, AV.bool neg)], ([] : AHeap)) = (envOf 69 [(0, AV.str s), (3, AV.int .i64 0), (4, AV.int .i64 (↑i_1 : Int)), (5, AV.bool true), (6, AV.bool neg_1)], []) ∧ (dgA s i_1 = true ∧ List.length s - i_1 < m) ∧ K AExit.ret (envOf 69 [(2, AV.int .i64 (↑(wholeP neg_1 s (i_1 + runD (List.drop i_1 s)) true) : Int)), (3, AV.int .i64 (↑(wholeP neg_1 s (i_1 + runD (List.drop i_1 s)) true) : Int)), (68, AV.int .i64 (↑(wholeP neg_1 s (i_1 + runD (List.drop i_1 s)) true) : Int))], [])) (askB (decide (IntKind.wrap .i64 ((↑i : Int) + 1) ≥ (↑(List.length s) : Int))) (K AExit.ret (envOf 69 [(2, AV.int .i64 (IntKind.wrap .i64 ((↑i : Int) + 1))), (3, AV.int .i64 (IntKind.wrap .i64 ((↑i : Int) + 1))), (68, AV.int .i64 (IntKind.wrap .i64 ((↑i : Int) + 1)))], [])) (chkW (decide (0 ≤ IntKind.wrap .i64 ((↑i : Int) + 1))) (chkW (decide (Int.toNat (IntKind.wrap .i64 ((↑i : Int) + 1)) < List.length s)) (askB ((↑(UInt8.toNat (List.getD s (Int.toNat (IntKind.wrap .i64 ((↑i : Int) + 1))) 0)) : Int) != 46) (K AExit.ret (envOf 69 [(2, AV.int .i64 (IntKind.wrap .i64 ((↑i : Int) + 1))), (3, AV.int .i64 (IntKind.wrap .i64 ((↑i : Int) + 1))), (68, AV.int .i64 (IntKind.wrap .i64 ((↑i : Int) + 1)))], [])) (∃ (b : Bool), TbE.s { f := 38, s := fun (vs : List AV) (x : AHeap) => sDigit vs, r := Rs.of (Rs1.one K1.bool) } [AV.str s, AV.int .i64 (IntKind.wrap .i64 (IntKind.wrap .i64 ((↑i : Int) + 1) + 1))] [] = some (AV.bool b) ∧ askB b (∃ (i_1 : Nat), ∃ (good : Nat), ∃ (low : Bool), ∃ (neg_1 : Bool), (envOf 69 [(0, AV.str s), (3, AV.int .i64 (IntKind.wrap .i64 (IntKind.wrap .i64 (IntKind.wrap .i64 ((↑i : Int) + 1) + 1) + 1))), (4, AV.int .i64 (IntKind.wrap .i64 (IntKind.wrap .i64 (IntKind.wrap .i64 ((↑i : Int) + 1) + 1) + 1))), (5, AV.bool true), (6, AV.bool neg)], ([] : AHeap)) = (envOf 69 [(0, AV.str s), (3, AV.int .i64 (↑good : Int)), (4, AV.int .i64 (↑i_1 : Int)), (5, AV.bool low), (6, AV.bool neg_1)], []) ∧ (i_1 ≤ List.length s ∧ List.length s - i_1 < m) ∧ K AExit.ret (envOf 69 [(2, AV.int .i64 (↑(behindL neg_1 (List.drop i_1 s) i_1 low good) : Int)), (3, AV.int .i64 (↑(behindL neg_1 (List.drop i_1 s) i_1 low good) : Int)), (68, AV.int .i64 (↑(behindL neg_1 (List.drop i_1 s) i_1 low good) : Int))], [])) (K AExit.ret (envOf 69 [(2, AV.int .i64 (IntKind.wrap .i64 ((↑i : Int) + 1))), (3, AV.int .i64 (IntKind.wrap .i64 ((↑i : Int) + 1))), (68, AV.int .i64 (IntKind.wrap .i64 ((↑i : Int) + 1)))], [])))))))) = (wpP Tryd.prog { C37 with gw := G37 s m } 80 (.inr ((match p37.body with | .seq _ (.scope a) => a | _ => .skip), ((findP (match p37.body with | .seq _ (.scope a) => a | _ => .skip) 2).getD .skip))) (q37 s 0 i true neg) K) := by kernel_rfl
theorem v37_3 (s : List UInt8) (m i good : Nat) (low neg : Bool) (K : AExit → St → Prop) : (∃ (b : Bool), some (AV.bool (dgA s i)) = some (AV.bool b) ∧ askB b (askB low (∃ (i_1 : Nat), ∃ (good : Nat), ∃ (low : Bool), ∃ (neg_1 : Bool), (envOf 69 [(0, AV.str s), (3, AV.int .i64 (IntKind.wrap .i64 ((↑i : Int) + 1))), (4, AV.int .i64 (IntKind.wrap .i64 ((↑i : Int) + 1))), (5, AV.bool true), (6, AV.bool neg)], ([] : AHeap)) = (envOf 69 [(0, AV.str s), (3, AV.int .i64 (↑good : Int)), (4, AV.int .i64 (↑i_1 : Int)), (5, AV.bool low), (6, AV.bool neg_1)], []) ∧ (i_1 ≤ List.length s ∧ List.length s - i_1 < m) ∧ K AExit.ret (envOf 69 [(2, AV.int .i64 (↑(behindL neg_1 (List.drop i_1 s) i_1 low good) : Int)), (3, AV.int .i64 (↑(behindL neg_1 (List.drop i_1 s) i_1 low good) : Int)), (68, AV.int .i64 (↑(behindL neg_1 (List.drop i_1 s) i_1 low good) : Int))], [])) (chkW (decide (i < List.length s)) (askB ((↑(UInt8.toNat (List.getD s i 0)) : Int) != 48) (∃ (i_1 : Nat), ∃ (good : Nat), ∃ (low : Bool), ∃ (neg_1 : Bool), (envOf 69 [(0, AV.str s), (3, AV.int .i64 (IntKind.wrap .i64 ((↑i : Int) + 1))), (4, AV.int .i64 (IntKind.wrap .i64 ((↑i : Int) + 1))), (5, AV.bool true), (6, AV.bool neg)], ([] : AHeap)) = (envOf 69 [(0, AV.str s), (3, AV.int .i64 (↑good : Int)), (4, AV.int .i64 (↑i_1 : Int)), (5, AV.bool low), (6, AV.bool neg_1)], []) ∧ (i_1 ≤ List.length s ∧ List.length s - i_1 < m) ∧ K AExit.ret (envOf 69 [(2, AV.int .i64 (↑(behindL neg_1 (List.drop i_1 s) i_1 low good) : Int)), (3, AV.int .i64 (↑(behindL neg_1 (List.drop i_1 s) i_1 low good) : Int)), (68, AV.int .i64 (↑(behindL neg_1 (List.drop i_1 s) i_1 low good) : Int))], [])) (askB neg (∃ (i_1 : Nat), ∃ (good_1 : Nat), ∃ (low : Bool), ∃ (neg_1 : Bool), (envOf 69 [(0, AV.str s), (3, AV.int .i64 (↑good : Int)), (4, AV.int .i64 (IntKind.wrap .i64 ((↑i : Int) + 1))), (5, AV.bool false), (6, AV.bool neg)], ([] : AHeap)) = (envOf 69 [(0, AV.str s), (3, AV.int .i64 (↑good_1 : Int)), (4, AV.int .i64 (↑i_1 : Int)), (5, AV.bool low), (6, AV.bool neg_1)], []) ∧ (i_1 ≤ List.length s ∧ List.length s - i_1 < m) ∧ K AExit.ret (envOf 69 [(2, AV.int .i64 (↑(behindL neg_1 (List.drop i_1 s) i_1 low good_1) : Int)), (3, AV.int .i64 (↑(behindL neg_1 (List.drop i_1 s) i_1 low good_1) : Int)), (68, AV.int .i64 (↑(behindL neg_1 (List.drop i_1 s) i_1 low good_1) : Int))], [])) (∃ (i_1 : Nat), ∃ (good : Nat), ∃ (low : Bool), ∃ (neg_1 : Bool), (envOf 69 [(0, AV.str s), (3, AV.int .i64 (IntKind.wrap .i64 ((↑i : Int) + 1))), (4, AV.int .i64 (IntKind.wrap .i64 ((↑i : Int) + 1))), (5, AV.bool false), (6, AV.bool neg)], ([] : AHeap)) = (envOf 69 [(0, AV.str s), (3, AV.int .i64 (↑good : Int)), (4, AV.int .i64 (↑i_1 : Int)), (5, AV.bool low), (6, AV.bool neg_1)], []) ∧ (i_1 ≤ List.length s ∧ List.length s - i_1 < m) ∧ K AExit.ret (envOf 69 [(2, AV.int .i64 (↑(behindL neg_1 (List.drop i_1 s) i_1 low good) : Int)), (3, AV.int .i64 (↑(behindL neg_1 (List.drop i_1 s) i_1 low good) : Int)), (68, AV.int .i64 (↑(behindL neg_1 (List.drop i_1 s) i_1 low good) : Int))], [])))))) (K AExit.ret (envOf 69 [(2, AV.int .i64 (↑good : Int)), (3, AV.int .i64 (↑good : Int)), (68, AV.int .i64 (↑good : Int))], []))) = (wpP Tryd.prog { C37 with gw := G37 s m } 80 (.inr ((match p37.body with | .seq _ (.scope a) => a | _ => .skip), ((findP (match p37.body with | .seq _ (.scope a) => a | _ => .skip) 3).getD .skip))) (q37 s good i low neg) K) := by kernel_rfl
theorem v37 (s : List UInt8) (m : Nat) (R : AV → AHeap → Prop) : (askB (decide ((↑(List.length s) : Int) > 0)) (chkW (decide (0 < List.length s)) (askB ((↑(UInt8.toNat (List.getD s 0 0)) : Int) == 45) (∃ (b : Bool), some (AV.bool (dgA s 1)) = some (AV.bool b) ∧ askB b (chkW (decide (1 < List.length s)) (askB ((↑(UInt8.toNat (List.getD s 1 0)) : Int) == 48) (askB (decide (2 ≥ (↑(List.length s) : Int))) (R (AV.int .i64 0) []) (chkW (decide (2 < List.length s)) (askB ((↑(UInt8.toNat (List.getD s 2 0)) : Int) != 46) (R (AV.int .i64 0) []) (∃ (b : Bool), some (AV.bool (dgA s 3)) = some (AV.bool b) ∧ askB b (chkW (decide (3 < List.length s)) (askB ((↑(UInt8.toNat (List.getD s 3 0)) : Int) != 48) (∃ (i : Nat), ∃ (good : Nat), ∃ (low : Bool), ∃ (neg : Bool), (envOf 69 [(0, AV.str s), (3, AV.int .i64 4), (4, AV.int .i64 4), (5, AV.bool true), (6, AV.bool true)], ([] : AHeap)) = (envOf 69 [(0, AV.str s), (3, AV.int .i64 (↑good : Int)), (4, AV.int .i64 (↑i : Int)), (5, AV.bool low), (6, AV.bool neg)], []) ∧ (i ≤ List.length s ∧ List.length s - i < m) ∧ R (AV.int .i64 (↑(behindL neg (List.drop i s) i low good) : Int)) []) (∃ (i : Nat), ∃ (good : Nat), ∃ (low : Bool), ∃ (neg : Bool), (envOf 69 [(0, AV.str s), (3, AV.int .i64 0), (4, AV.int .i64 4), (5, AV.bool false), (6, AV.bool true)], ([] : AHeap)) = (envOf 69 [(0, AV.str s), (3, AV.int .i64 (↑good : Int)), (4, AV.int .i64 (↑i : Int)), (5, AV.bool low), (6, AV.bool neg)], []) ∧ (i ≤ List.length s ∧ List.length s - i < m) ∧ R (AV.int .i64 (↑(behindL neg (List.drop i s) i low good) : Int)) []))) (R (AV.int .i64 0) []))))) (∃ (b : Bool), some (AV.bool (dgA s 2)) = some (AV.bool b) ∧ askB b (∃ (i : Nat), ∃ (neg : Bool), (envOf 69 [(0, AV.str s), (3, AV.int .i64 0), (4, AV.int .i64 2), (5, AV.bool true), (6, AV.bool true)], ([] : AHeap)) = (envOf 69 [(0, AV.str s), (3, AV.int .i64 0), (4, AV.int .i64 (↑i : Int)), (5, AV.bool true), (6, AV.bool neg)], []) ∧ (dgA s i = true ∧ List.length s - i < m) ∧ R (AV.int .i64 (↑(wholeP neg s (i + runD (List.drop i s)) true) : Int)) []) (askB (decide (2 ≥ (↑(List.length s) : Int))) (R (AV.int .i64 2) []) (chkW (decide (2 < List.length s)) (askB ((↑(UInt8.toNat (List.getD s 2 0)) : Int) != 46) (R (AV.int .i64 2) []) (∃ (b : Bool), some (AV.bool (dgA s 3)) = some (AV.bool b) ∧ askB b (∃ (i : Nat), ∃ (good : Nat), ∃ (low : Bool), ∃ (neg : Bool), (envOf 69 [(0, AV.str s), (3, AV.int .i64 4), (4, AV.int .i64 4), (5, AV.bool true), (6, AV.bool true)], ([] : AHeap)) = (envOf 69 [(0, AV.str s), (3, AV.int .i64 (↑good : Int)), (4, AV.int .i64 (↑i : Int)), (5, AV.bool low), (6, AV.bool neg)], []) ∧ (i ≤ List.length s ∧ List.length s - i < m) ∧ R (AV.int .i64 (↑(behindL neg (List.drop i s) i low good) : Int)) []) (R (AV.int .i64 2) [])))))))) (R (AV.int .i64 0) [])) (∃ (b : Bool), some (AV.bool (dgA s 0)) = some (AV.bool b) ∧ askB b (chkW (decide (0 < List.length s)) (askB ((↑(UInt8.toNat (List.getD s 0 0)) : Int) == 48) (askB (decide (1 ≥ (↑(List.length s) : Int))) (R (AV.int .i64 1) []) (chkW (decide (1 < List.length s)) (askB ((↑(UInt8.toNat (List.getD s 1 0)) : Int) != 46) (R (AV.int .i64 1) []) (∃ (b : Bool), some (AV.bool (dgA s 2)) = some (AV.bool b) ∧ askB b (chkW (decide (2 < List.length s)) (askB ((↑(UInt8.toNat (List.getD s 2 0)) : Int) != 48) (∃ (i : Nat), ∃ (good : Nat), ∃ (low : Bool), ∃ (neg : Bool), (envOf 69 [(0, AV.str s), (3, AV.int .i64 3), (4, AV.int .i64 3), (5, AV.bool true), (6, AV.bool false)], ([] : AHeap)) = (envOf 69 [(0, AV.str s), (3, AV.int .i64 (↑good : Int)), (4, AV.int .i64 (↑i : Int)), (5, AV.bool low), (6, AV.bool neg)], []) ∧ (i ≤ List.length s ∧ List.length s - i < m) ∧ R (AV.int .i64 (↑(behindL neg (List.drop i s) i low good) : Int)) []) (∃ (i : Nat), ∃ (good : Nat), ∃ (low : Bool), ∃ (neg : Bool), (envOf 69 [(0, AV.str s), (3, AV.int .i64 3), (4, AV.int .i64 3), (5, AV.bool false), (6, AV.bool false)], ([] : AHeap)) = (envOf 69 [(0, AV.str s), (3, AV.int .i64 (↑good : Int)), (4, AV.int .i64 (↑i : Int)), (5, AV.bool low), (6, AV.bool neg)], []) ∧ (i ≤ List.length s ∧ List.length s - i < m) ∧ R (AV.int .i64 (↑(behindL neg (List.drop i s) i low good) : Int)) []))) (R (AV.int .i64 1) []))))) (∃ (b : Bool), some (AV.bool (dgA s 1)) = some (AV.bool b) ∧ askB b (∃ (i : Nat), ∃ (neg : Bool), (envOf 69 [(0, AV.str s), (3, AV.int .i64 0), (4, AV.int .i64 1), (5, AV.bool true), (6, AV.bool false)], ([] : AHeap)) = (envOf 69 [(0, AV.str s), (3, AV.int .i64 0), (4, AV.int .i64 (↑i : Int)), (5, AV.bool true), (6, AV.bool neg)], []) ∧ (dgA s i = true ∧ List.length s - i < m) ∧ R (AV.int .i64 (↑(wholeP neg s (i + runD (List.drop i s)) true) : Int)) []) (askB (decide (1 ≥ (↑(List.length s) : Int))) (R (AV.int .i64 1) []) (chkW (decide (1 < List.length s)) (askB ((↑(UInt8.toNat (List.getD s 1 0)) : Int) != 46) (R (AV.int .i64 1) []) (∃ (b : Bool), some (AV.bool (dgA s 2)) = some (AV.bool b) ∧ askB b (∃ (i : Nat), ∃ (good : Nat), ∃ (low : Bool), ∃ (neg : Bool), (envOf 69 [(0, AV.str s), (3, AV.int .i64 3), (4, AV.int .i64 3), (5, AV.bool true), (6, AV.bool false)], ([] : AHeap)) = (envOf 69 [(0, AV.str s), (3, AV.int .i64 (↑good : Int)), (4, AV.int .i64 (↑i : Int)), (5, AV.bool low), (6, AV.bool neg)], []) ∧ (i ≤ List.length s ∧ List.length s - i < m) ∧ R (AV.int .i64 (↑(behindL neg (List.drop i s) i low good) : Int)) []) (R (AV.int .i64 1) [])))))))) (R (AV.int .i64 0) [])))) (∃ (b : Bool), some (AV.bool (dgA s 0)) = some (AV.bool b) ∧ askB b (chkW (decide (0 < List.length s)) (askB ((↑(UInt8.toNat (List.getD s 0 0)) : Int) == 48) (askB (decide (1 ≥ (↑(List.length s) : Int))) (R (AV.int .i64 1) []) (chkW (decide (1 < List.length s)) (askB ((↑(UInt8.toNat (List.getD s 1 0)) : Int) != 46) (R (AV.int .i64 1) []) (∃ (b : Bool), some (AV.bool (dgA s 2)) = some (AV.bool b) ∧ askB b (chkW (decide (2 < List.length s)) (askB ((↑(UInt8.toNat (List.getD s 2 0)) : Int) != 48) (∃ (i : Nat), ∃ (good : Nat), ∃ (low : Bool), ∃ (neg : Bool), (envOf 69 [(0, AV.str s), (3, AV.int .i64 3), (4, AV.int .i64 3), (5, AV.bool true), (6, AV.bool false)], ([] : AHeap)) = (envOf 69 [(0, AV.str s), (3, AV.int .i64 (↑good : Int)), (4, AV.int .i64 (↑i : Int)), (5, AV.bool low), (6, AV.bool neg)], []) ∧ (i ≤ List.length s ∧ List.length s - i < m) ∧ R (AV.int .i64 (↑(behindL neg (List.drop i s) i low good) : Int)) []) (∃ (i : Nat), ∃ (good : Nat), ∃ (low : Bool), ∃ (neg : Bool), (envOf 69 [(0, AV.str s), (3, AV.int .i64 3), (4, AV.int .i64 3), (5, AV.bool false), (6, AV.bool false)], ([] : AHeap)) = (envOf 69 [(0, AV.str s), (3, AV.int .i64 (↑good : Int)), (4, AV.int .i64 (↑i : Int)), (5, AV.bool low), (6, AV.bool neg)], []) ∧ (i ≤ List.length s ∧ List.length s - i < m) ∧ R (AV.int .i64 (↑(behindL neg (List.drop i s) i low good) : Int)) []))) (R (AV.int .i64 1) []))))) (∃ (b : Bool), some (AV.bool (dgA s 1)) = some (AV.bool b) ∧ askB b (∃ (i : Nat), ∃ (neg : Bool), (envOf 69 [(0, AV.str s), (3, AV.int .i64 0), (4, AV.int .i64 1), (5, AV.bool true), (6, AV.bool false)], ([] : AHeap)) = (envOf 69 [(0, AV.str s), (3, AV.int .i64 0), (4, AV.int .i64 (↑i : Int)), (5, AV.bool true), (6, AV.bool neg)], []) ∧ (dgA s i = true ∧ List.length s - i < m) ∧ R (AV.int .i64 (↑(wholeP neg s (i + runD (List.drop i s)) true) : Int)) []) (askB (decide (1 ≥ (↑(List.length s) : Int))) (R (AV.int .i64 1) []) (chkW (decide (1 < List.length s)) (askB ((↑(UInt8.toNat (List.getD s 1 0)) : Int) != 46) (R (AV.int .i64 1) []) (∃ (b : Bool), some (AV.bool (dgA s 2)) = some (AV.bool b) ∧ askB b (∃ (i : Nat), ∃ (good : Nat), ∃ (low : Bool), ∃ (neg : Bool), (envOf 69 [(0, AV.str s), (3, AV.int .i64 3), (4, AV.int .i64 3), (5, AV.bool true), (6, AV.bool false)], ([] : AHeap)) = (envOf 69 [(0, AV.str s), (3, AV.int .i64 (↑good : Int)), (4, AV.int .i64 (↑i : Int)), (5, AV.bool low), (6, AV.bool neg)], []) ∧ (i ≤ List.length s ∧ List.length s - i < m) ∧ R (AV.int .i64 (↑(behindL neg (List.drop i s) i low good) : Int)) []) (R (AV.int .i64 1) [])))))))) (R (AV.int .i64 0) []))) = (wpF Tryd.prog { C37 with gw := G37 s m } 80 p37 [.str s] [] R) := by kernel_rfl

theorem dgA_lt {s : List UInt8} {i : Nat} (h : dgA s i = true) : i < s.length := by
  unfold dgA at h
  simp only [Bool.and_eq_true, decide_eq_true_eq] at h
  exact h.1
theorem dgA_eq {s : List UInt8} {i : Nat} (h : i < s.length) : dgA s i = isD (s.getD i 0) := by
  unfold dgA; rw [decide_eq_true h, Bool.true_and]
theorem digit_ok : QuietOK Tryd.prog 38 fun vs _ => sDigit vs := quiet_plain ht49 fun args v h => by
  unfold sDigit at h
  split at h
  · rename_i s z
    split at h
    · rename_i hz
      cases h
      obtain ⟨i, rfl⟩ : ∃ i : Nat, z = i := ⟨z.toNat, by omega⟩
      refine ⟨rfl, rfl, ?_⟩
      have hS : (tbS Q []).OK Tryd.prog := tbS_ok quietText (by simp)
      obtain ⟨u, h', rfl, hsem⟩ := sem_vc mixed (C := { tbC Q [] (fun _ => false) kdI with F := fun _ => ⟨[], .all⟩ }) hS (tbS_q _ _) (tbW_ok rfl) ht49 c49 (no_parts rfl) (v49 s i fun u _ => u = .bool (dgA s i)) (by
        refine askI (fun h1 => ?_) fun h1 => ?_
        · simp only [decide_eq_true_eq] at h1
          have hl : i < s.length := by omega
          rw [dgA_eq hl]
          refine chkI (decide_eq_true hl) (askI (fun h2 => chkI (decide_eq_true hl) (askI (fun h3 => ?_) fun h3 => ?_)) fun h2 => ?_)
          · simp only [decide_eq_true_eq] at h2 h3
            unfold isD; rw [decide_eq_true (by omega), decide_eq_true (p := (s.getD i 0).toNat ≤ 57) (by omega)]; rfl
          · simp only [decide_eq_false_iff_not] at h3
            unfold isD; rw [decide_eq_false (p := (s.getD i 0).toNat ≤ 57) (by omega), Bool.and_false]
          · simp only [decide_eq_false_iff_not] at h2
            unfold isD; rw [decide_eq_false (by omega)]; rfl
        · simp only [decide_eq_false_iff_not] at h1
          unfold dgA; rw [decide_eq_false (by omega)]; rfl)
      exact ⟨h', hsem⟩
    · cases h
  · cases h
theorem digit_at (s : List UInt8) (i : Nat) : sDigit [.str s, .int .i64 (i : Int)] = some (.bool (dgA s i)) := by
  show (if 0 ≤ (i : Int) then some (AV.bool (dgA s (Int.toNat (i : Int)))) else none) = _
  rw [if_pos (by omega)]; rfl
theorem runD_at {s : List UInt8} {i : Nat} (h : dgA s i = true) : runD (s.drop i) = runD (s.drop (i + 1)) + 1 := by
  have hl := dgA_lt h
  rw [drop_cons hl]
  rw [dgA_eq hl] at h
  simp only [runD, h, if_true]
theorem runD_no {s : List UInt8} {i : Nat} (h : dgA s i = false) : runD (s.drop i) = 0 := by
  rcases Nat.lt_or_ge i s.length with hl | hl
  · rw [drop_cons hl]
    rw [dgA_eq hl] at h
    simp only [runD, h, Bool.false_eq_true, if_false]
  · rw [List.drop_eq_nil_of_le hl]; rfl
theorem behind_at {neg low : Bool} {s : List UInt8} {i good : Nat} (h : dgA s i = true) : behindL neg (s.drop i) i low good = behindL neg (s.drop (i + 1)) (i + 1) (low || s.getD i 0 != 48) (if (low || s.getD i 0 != 48) || !neg then i + 1 else good) := by
  have hl := dgA_lt h
  rw [drop_cons hl]
  rw [dgA_eq hl] at h
  simp only [behindL, h, if_true]
theorem behind_no {neg low : Bool} {s : List UInt8} {i good : Nat} (h : dgA s i = false) : behindL neg (s.drop i) i low good = good := by
  rcases Nat.lt_or_ge i s.length with hl | hl
  · rw [drop_cons hl]
    rw [dgA_eq hl] at h
    simp only [behindL, h, Bool.false_eq_true, if_false]
  · rw [List.drop_eq_nil_of_le hl]; rfl
theorem ne48 (c : UInt8) : (((c.toNat : Nat) : Int) != 48) = (c != 48) := ne_u8 c 48
theorem ne46 (c : UInt8) : (((c.toNat : Nat) : Int) != 46) = (c != 46) := ne_u8 c 46
theorem wholeP_no {neg low : Bool} {s : List UInt8} {i : Nat} (h : (decide (i < s.length) && s.getD i 0 == 46) = false) : wholeP neg s i low = if low || !neg then i else 0 := by
  unfold wholeP; rw [h]; rfl
theorem wholeP_yes {neg low : Bool} {s : List UInt8} {i : Nat} (h : i < s.length) (h2 : (s.getD i 0 != 46) = false) : wholeP neg s i low = behindL neg (s.drop (i + 1)) (i + 1) low (if low || !neg then i else 0) := by
  have h3 : (s.getD i 0 == 46) = true := by rw [bne] at h2; simpa using h2
  unfold wholeP; rw [decide_eq_true h, h3]; rfl
def sc37 : PC := (match p37.body with | .seq _ (.scope a) => a | _ => .skip)
theorem gotos37 (s : List UInt8) (hs : s.length ≤ 9223372036854775807) : ∀ m, PartOK Tryd.prog { C37 with gw := G37 s m } (.scope sc37) := by
  have hcw : CwOK C37.S C37.cw := tbW_ok (Q := Q) (l := tb37) rfl
  refine part_gotos (P := Tryd.prog) (C := C37) hcw (a := sc37) (by
    have e : partsIn sc37 = [] := rfl
    rw [e]; intro x hx; cases hx) (G37 s) ?_
  intro m l T r st K hT hf ht
  unfold G37 at hT
  split at hT
  · rename_i hl
    subst hl
    cases hT
    obtain ⟨i, neg, rfl, ⟨hd, hm⟩, hk⟩ := ht
    have hlt := dgA_lt hd
    have hr : r = (findP sc37 2).getD .skip := by rw [hf]; rfl
    subst hr
    refine ⟨s.length - i, 80, hm, ?_⟩
    have hv := v37_2 s (s.length - i) i neg K
    refine Eq.subst (motive := fun p => p) hv ?_
    clear hv
    have w1 : IntKind.wrap .i64 ((i : Int) + 1) = ((i + 1 : Nat) : Int) := by rw [IntKind.wrap_i64]; omega
    have w2 : i + 1 < s.length → IntKind.wrap .i64 (((i + 1 : Nat) : Int) + 1) = ((i + 2 : Nat) : Int) := fun _ => by rw [IntKind.wrap_i64]; omega
    have w3 : i + 2 < s.length → IntKind.wrap .i64 (((i + 2 : Nat) : Int) + 1) = ((i + 3 : Nat) : Int) := fun _ => by rw [IntKind.wrap_i64]; omega
    rw [w1, Int.toNat_natCast, ne46]
    rw [runD_at hd] at hk
    refine ⟨dgA s (i + 1), digit_at s (i + 1), askI (fun g1 => ?_) fun g1 => ?_⟩
    · refine ⟨i + 1, neg, rfl, ⟨g1, by omega⟩, ?_⟩
      rw [show i + 1 + runD (s.drop (i + 1)) = i + (runD (s.drop (i + 1)) + 1) by omega]
      exact hk
    · rw [runD_no g1] at hk
      have hk2 : K .ret (r37 (wholeP neg s (i + 1) true)) := hk
      refine askI (fun g2 => ?_) fun g2 => ?_
      · simp only [decide_eq_true_eq] at g2
        rw [wholeP_no (by rw [decide_eq_false (by omega), Bool.false_and])] at hk2
        exact hk2
      · simp only [decide_eq_false_iff_not] at g2
        have h1 : i + 1 < s.length := by omega
        rw [w2 h1]
        refine chkI (decide_eq_true (by omega)) (chkI (decide_eq_true h1) (askI (fun g3 => ?_) fun g3 => ⟨dgA s (i + 2), digit_at s (i + 2), askI (fun g4 => ?_) fun g4 => ?_⟩))
        · rw [wholeP_no (by rw [bne] at g3; rw [Bool.not_eq_true'] at g3; rw [g3, Bool.and_false])] at hk2
          exact hk2
        · have hl4 := dgA_lt g4
          rw [w3 hl4]
          rw [wholeP_yes h1 g3, show i + 1 + 1 = i + 2 by omega, behind_at g4] at hk2
          exact ⟨i + 3, i + 3, true, neg, rfl, ⟨by omega, by omega⟩, hk2⟩
        · rw [wholeP_yes h1 g3, show i + 1 + 1 = i + 2 by omega, behind_no g4] at hk2
          exact hk2
  · split at hT
    · rename_i hl
      subst hl
      cases hT
      obtain ⟨i, good, low, neg, rfl, ⟨hd, hm⟩, hk⟩ := ht
      have hr : r = (findP sc37 3).getD .skip := by rw [hf]; rfl
      subst hr
      refine ⟨s.length - i, 80, hm, ?_⟩
      have hv := v37_3 s (s.length - i) i good low neg K
      refine Eq.subst (motive := fun p => p) hv ?_
      clear hv
      refine ⟨dgA s i, rfl, askI (fun g1 => ?_) fun g1 => ?_⟩
      · have hlt := dgA_lt g1
        have w1 : IntKind.wrap .i64 ((i : Int) + 1) = ((i + 1 : Nat) : Int) := by rw [IntKind.wrap_i64]; omega
        rw [w1, ne48]
        rw [behind_at g1] at hk
        refine askI (fun g2 => ?_) fun g2 => chkI (decide_eq_true hlt) (askI (fun g3 => ?_) fun g3 => askI (fun g4 => ?_) fun g4 => ?_)
        · subst g2
          exact ⟨i + 1, i + 1, true, neg, rfl, ⟨by omega, by omega⟩, hk⟩
        · subst g2
          rw [g3] at hk
          exact ⟨i + 1, i + 1, true, neg, rfl, ⟨by omega, by omega⟩, hk⟩
        · subst g2 g4
          rw [g3] at hk
          exact ⟨i + 1, good, false, true, rfl, ⟨by omega, by omega⟩, hk⟩
        · subst g2 g4
          rw [g3] at hk
          exact ⟨i + 1, i + 1, false, false, rfl, ⟨by omega, by omega⟩, hk⟩
      · rw [behind_no g1] at hk
        exact hk
    · cases hT

theorem eq45 (c : UInt8) : (((c.toNat : Nat) : Int) == 45) = (c == 45) := by
  have h := ne_u8 c 45
  rw [bne, bne] at h
  exact Bool.not_inj h
theorem pfx_neg {s : List UInt8} (h : (decide (0 < s.length) && s.getD 0 0 == 45) = true) : prefixF s = if dgA s 1 then (if s.getD 1 0 == 48 then wholeP true s 2 false else wholeP true s (1 + runD (s.drop 1)) true) else 0 := by
  unfold prefixF; rw [h]; rfl
theorem pfx_pos {s : List UInt8} (h : (decide (0 < s.length) && s.getD 0 0 == 45) = false) : prefixF s = if dgA s 0 then (if s.getD 0 0 == 48 then wholeP false s 1 false else wholeP false s (0 + runD (s.drop 0)) true) else 0 := by
  unfold prefixF; rw [h]; rfl
theorem prefix_ok : QuietOK Tryd.prog 17 fun vs _ => sPrefix vs := quiet_plain ht37 fun args v h => by
  unfold sPrefix at h
  split at h
  · rename_i s
    split at h
    · rename_i hs
      cases h
      refine ⟨rfl, rfl, ?_⟩
      have hS : (tbS Q tb37).OK Tryd.prog := tbS_ok quietText (by
        intro x hx
        simp only [tb37, List.mem_cons, List.not_mem_nil, or_false] at hx
        subst hx
        exact digit_ok)
      obtain ⟨u, h', rfl, hsem⟩ := sem_vc mixed (C := { C37 with gw := G37 s (s.length + 1) }) hS (tbS_q _ _) (tbW_ok rfl) ht37 c37 (fun x hx => by
        have e : partsIn p37.body = [.scope sc37] := rfl
        rw [e, List.mem_singleton] at hx
        subst hx
        exact gotos37 s hs (s.length + 1)) (v37 s (s.length + 1) fun u _ => u = .int .i64 (prefixF s)) (by
        refine askI (fun g1 => ?_) fun g1 => ?_
        · simp only [decide_eq_true_eq] at g1
          refine chkI (decide_eq_true (by omega)) ?_
          rw [eq45]
          refine askI (fun g2 => ?_) fun g2 => ?_
          · have hF := pfx_neg (s := s) (by rw [g2, decide_eq_true (by omega)]; rfl)
            refine ⟨dgA s 1, rfl, askI (fun f1 => ?_) fun f1 => ?_⟩
            · have l1 := dgA_lt f1
              rw [f1] at hF
              refine chkI (decide_eq_true (by omega)) ?_
              rw [eq48]
              refine askI (fun f2 => ?_) fun f2 => ⟨dgA s 2, rfl, askI (fun f3 => ?_) fun f3 => ?_⟩
              · rw [f2] at hF
                have hP : prefixF s = wholeP true s 2 false := hF
                refine askI (fun e1 => ?_) fun e1 => ?_
                · simp only [decide_eq_true_eq] at e1
                  rw [hP, wholeP_no (by rw [decide_eq_false (by omega), Bool.false_and])]; rfl
                simp only [decide_eq_false_iff_not] at e1
                refine chkI (decide_eq_true (by omega)) ?_
                rw [ne46]
                refine askI (fun e2 => ?_) fun e2 => ⟨dgA s 3, rfl, askI (fun e3 => ?_) fun e3 => ?_⟩
                · rw [hP, wholeP_no (by rw [bne] at e2; rw [Bool.not_eq_true'] at e2; rw [e2, Bool.and_false])]; rfl
                · have l3 := dgA_lt e3
                  rw [wholeP_yes (by omega) e2, behind_at e3] at hP
                  refine chkI (decide_eq_true (by omega)) ?_
                  rw [ne48]
                  refine askI (fun e4 => ?_) fun e4 => ?_
                  · rw [e4] at hP
                    exact ⟨4, 4, true, true, rfl, ⟨by omega, by omega⟩, by rw [hP]; rfl⟩
                  · rw [e4] at hP
                    exact ⟨4, 0, false, true, rfl, ⟨by omega, by omega⟩, by rw [hP]; rfl⟩
                · rw [wholeP_yes (by omega) e2, behind_no e3] at hP
                  rw [hP]; rfl
              · have hr : runD (s.drop 1) = runD (s.drop 2) + 1 := runD_at f1
                rw [f2, show 1 + runD (s.drop 1) = 2 + runD (s.drop 2) by omega] at hF
                have l3 := dgA_lt f3
                exact ⟨2, true, rfl, ⟨f3, by omega⟩, by rw [hF]; rfl⟩
              · have hr : runD (s.drop 1) = runD (s.drop 2) + 1 := runD_at f1
                rw [f2, show 1 + runD (s.drop 1) = 2 + runD (s.drop 2) by omega, runD_no f3] at hF
                have hP : prefixF s = wholeP true s 2 true := hF
                refine askI (fun e1 => ?_) fun e1 => ?_
                · simp only [decide_eq_true_eq] at e1
                  rw [hP, wholeP_no (by rw [decide_eq_false (by omega), Bool.false_and])]; rfl
                simp only [decide_eq_false_iff_not] at e1
                refine chkI (decide_eq_true (by omega)) ?_
                rw [ne46]
                refine askI (fun e2 => ?_) fun e2 => ⟨dgA s 3, rfl, askI (fun e3 => ?_) fun e3 => ?_⟩
                · rw [hP, wholeP_no (by rw [bne] at e2; rw [Bool.not_eq_true'] at e2; rw [e2, Bool.and_false])]; rfl
                · have l3 := dgA_lt e3
                  rw [wholeP_yes (by omega) e2, behind_at e3] at hP
                  exact ⟨4, 4, true, true, rfl, ⟨by omega, by omega⟩, by rw [hP]; rfl⟩
                · rw [wholeP_yes (by omega) e2, behind_no e3] at hP
                  rw [hP]; rfl
            · rw [f1] at hF
              rw [hF]; rfl
          · have hF := pfx_pos (s := s) (by rw [g2, Bool.and_false])
            refine ⟨dgA s 0, rfl, askI (fun f1 => ?_) fun f1 => ?_⟩
            · have l1 := dgA_lt f1
              rw [f1] at hF
              refine chkI (decide_eq_true (by omega)) ?_
              rw [eq48]
              refine askI (fun f2 => ?_) fun f2 => ⟨dgA s 1, rfl, askI (fun f3 => ?_) fun f3 => ?_⟩
              · rw [f2] at hF
                have hP : prefixF s = wholeP false s 1 false := hF
                refine askI (fun e1 => ?_) fun e1 => ?_
                · simp only [decide_eq_true_eq] at e1
                  rw [hP, wholeP_no (by rw [decide_eq_false (by omega), Bool.false_and])]; rfl
                simp only [decide_eq_false_iff_not] at e1
                refine chkI (decide_eq_true (by omega)) ?_
                rw [ne46]
                refine askI (fun e2 => ?_) fun e2 => ⟨dgA s 2, rfl, askI (fun e3 => ?_) fun e3 => ?_⟩
                · rw [hP, wholeP_no (by rw [bne] at e2; rw [Bool.not_eq_true'] at e2; rw [e2, Bool.and_false])]; rfl
                · have l3 := dgA_lt e3
                  rw [wholeP_yes (by omega) e2, behind_at e3] at hP
                  refine chkI (decide_eq_true (by omega)) ?_
                  rw [ne48]
                  refine askI (fun e4 => ?_) fun e4 => ?_
                  · rw [e4] at hP
                    exact ⟨3, 3, true, false, rfl, ⟨by omega, by omega⟩, by rw [hP]; rfl⟩
                  · rw [e4] at hP
                    exact ⟨3, 3, false, false, rfl, ⟨by omega, by omega⟩, by rw [hP]; rfl⟩
                · rw [wholeP_yes (by omega) e2, behind_no e3] at hP
                  rw [hP]; rfl
              · have hr : runD (s.drop 0) = runD (s.drop 1) + 1 := runD_at f1
                rw [f2, show 0 + runD (s.drop 0) = 1 + runD (s.drop 1) by omega] at hF
                have l3 := dgA_lt f3
                exact ⟨1, false, rfl, ⟨f3, by omega⟩, by rw [hF]; rfl⟩
              · have hr : runD (s.drop 0) = runD (s.drop 1) + 1 := runD_at f1
                rw [f2, show 0 + runD (s.drop 0) = 1 + runD (s.drop 1) by omega, runD_no f3] at hF
                have hP : prefixF s = wholeP false s 1 true := hF
                refine askI (fun e1 => ?_) fun e1 => ?_
                · simp only [decide_eq_true_eq] at e1
                  rw [hP, wholeP_no (by rw [decide_eq_false (by omega), Bool.false_and])]; rfl
                simp only [decide_eq_false_iff_not] at e1
                refine chkI (decide_eq_true (by omega)) ?_
                rw [ne46]
                refine askI (fun e2 => ?_) fun e2 => ⟨dgA s 2, rfl, askI (fun e3 => ?_) fun e3 => ?_⟩
                · rw [hP, wholeP_no (by rw [bne] at e2; rw [Bool.not_eq_true'] at e2; rw [e2, Bool.and_false])]; rfl
                · have l3 := dgA_lt e3
                  rw [wholeP_yes (by omega) e2, behind_at e3] at hP
                  exact ⟨3, 3, true, false, rfl, ⟨by omega, by omega⟩, by rw [hP]; rfl⟩
                · rw [wholeP_yes (by omega) e2, behind_no e3] at hP
                  rw [hP]; rfl
            · rw [f1] at hF
              rw [hF]; rfl
        · simp only [decide_eq_false_iff_not] at g1
          have hF := pfx_pos (s := s) (by rw [decide_eq_false (by omega), Bool.false_and])
          have f0 : dgA s 0 = false := by unfold dgA; rw [decide_eq_false (by omega), Bool.false_and]
          rw [f0] at hF
          refine ⟨dgA s 0, rfl, askF f0 ?_⟩
          rw [hF]; rfl)
      exact ⟨h', hsem⟩
    · cases h
  · cases h

def sIsD : List AV → Option AV
  | [.int .u8 c] => if 0 ≤ c ∧ c < 256 then some (.bool (isD c.toNat.toUInt8)) else none
  | _ => none
def pfxR (fr : Nat) (f0 : UInt8) : List UInt8 → Nat → Bool → Bool → Nat → Nat
  | [], _, _, _, best => best
  | c :: l, i, sm, pt, best =>
    if c == 46 && !pt && decide (fr < i) then pfxR fr f0 l (i + 1) sm true best
    else if !isD c || (!pt && decide (fr < i) && f0 == 48) then best
    else pfxR fr f0 l (i + 1) (sm || c != 48) pt (if (sm || c != 48) || fr == 0 then i + 1 else best)
def tb43 : List TbE := [⟨33, fun vs _ => sIsD vs, .of (.one .bool)⟩]
def q43 (s : List UInt8) (best i : Int) (sm pt : Bool) (fr : Int) : St := (envOf 76 [(0, .str s), (3, .int .i64 best), (4, .int .i64 i), (5, .bool sm), (6, .bool pt), (7, .int .i64 fr)], [])
def t43 : Tidy := ⟨dropT 76 [0, 3, 4, 5, 6, 7], .all⟩
def x43 : Tidy := ⟨dropT 76 [3], .all⟩
def r43 : Tidy := ⟨dropT 76 [2], .all⟩
def C43l : Cfg := tbC Q tb43 (fun _ => false) kdI
def C43 (s : List UInt8) : Cfg := { tbC Q tb43 (fun _ => false) kdI with
  lw := fun id => if id = 6 then some fun st K => ∃ fr : Nat, st = q43 s 0 fr false false fr ∧ fr ≤ s.length ∧ ∀ e : Bool, askB e (K (.exit 0) (envOf 76 [(3, .int .i64 (pfxR fr (s.getD fr 0) (s.drop fr) fr false false 0))], [])) (K .ret (envOf 76 [(2, .int .i64 (pfxR fr (s.getD fr 0) (s.drop fr) fr false false 0))], [])) else none
  F := fun id => if id = 6 then t43 else ⟨[], .all⟩ }

theorem v54 (c : Int) (R : AV → AHeap → Prop) : (askB (decide (c ≥ 48)) (askB (decide (c ≤ 57)) (R (AV.bool true) []) (R (AV.bool false) [])) (R (AV.bool false) [])) = (wpF Tryd.prog (tbC Q [] (fun _ => false) kdI) 40 p54 [.int .u8 c] [] R) := by kernel_rfl
theorem v43b (s : List UInt8) (best i : Nat) (sm pt : Bool) (fr : Nat) (K : AExit → St → Prop) : (askB (decide ((↑i : Int) < (↑(List.length s) : Int))) (chkW (decide (i < List.length s)) (askB ((↑(UInt8.toNat (List.getD s i 0)) : Int) == 46) (askB pt (∃ (b : Bool), TbE.s { f := 33, s := fun (vs : List AV) (x : AHeap) => sIsD vs, r := Rs.of (Rs1.one K1.bool) } [AV.int .u8 (↑(UInt8.toNat (List.getD s i 0)) : Int)] [] = some (AV.bool b) ∧ askB b (askB pt (askB sm (K AExit.normal (envOf 76 [(0, AV.str s), (3, AV.int .i64 (IntKind.wrap .i64 ((↑i : Int) + 1))), (4, AV.int .i64 (IntKind.wrap .i64 ((↑i : Int) + 1))), (5, AV.bool true), (6, AV.bool pt), (7, AV.int .i64 (↑fr : Int))], [])) (askB ((↑(UInt8.toNat (List.getD s i 0)) : Int) != 48) (K AExit.normal (envOf 76 [(0, AV.str s), (3, AV.int .i64 (IntKind.wrap .i64 ((↑i : Int) + 1))), (4, AV.int .i64 (IntKind.wrap .i64 ((↑i : Int) + 1))), (5, AV.bool true), (6, AV.bool pt), (7, AV.int .i64 (↑fr : Int))], [])) (askB ((↑fr : Int) == 0) (K AExit.normal (envOf 76 [(0, AV.str s), (3, AV.int .i64 (IntKind.wrap .i64 ((↑i : Int) + 1))), (4, AV.int .i64 (IntKind.wrap .i64 ((↑i : Int) + 1))), (5, AV.bool false), (6, AV.bool pt), (7, AV.int .i64 (↑fr : Int))], [])) (K AExit.normal (envOf 76 [(0, AV.str s), (3, AV.int .i64 (↑best : Int)), (4, AV.int .i64 (IntKind.wrap .i64 ((↑i : Int) + 1))), (5, AV.bool false), (6, AV.bool pt), (7, AV.int .i64 (↑fr : Int))], []))))) (askB (decide ((↑i : Int) > (↑fr : Int))) (chkW (decide (fr < List.length s)) (askB ((↑(UInt8.toNat (List.getD s fr 0)) : Int) == 48) (K AExit.ret (envOf 76 [(2, AV.int .i64 (↑best : Int))], [])) (askB sm (K AExit.normal (envOf 76 [(0, AV.str s), (3, AV.int .i64 (IntKind.wrap .i64 ((↑i : Int) + 1))), (4, AV.int .i64 (IntKind.wrap .i64 ((↑i : Int) + 1))), (5, AV.bool true), (6, AV.bool pt), (7, AV.int .i64 (↑fr : Int))], [])) (askB ((↑(UInt8.toNat (List.getD s i 0)) : Int) != 48) (K AExit.normal (envOf 76 [(0, AV.str s), (3, AV.int .i64 (IntKind.wrap .i64 ((↑i : Int) + 1))), (4, AV.int .i64 (IntKind.wrap .i64 ((↑i : Int) + 1))), (5, AV.bool true), (6, AV.bool pt), (7, AV.int .i64 (↑fr : Int))], [])) (askB ((↑fr : Int) == 0) (K AExit.normal (envOf 76 [(0, AV.str s), (3, AV.int .i64 (IntKind.wrap .i64 ((↑i : Int) + 1))), (4, AV.int .i64 (IntKind.wrap .i64 ((↑i : Int) + 1))), (5, AV.bool false), (6, AV.bool pt), (7, AV.int .i64 (↑fr : Int))], [])) (K AExit.normal (envOf 76 [(0, AV.str s), (3, AV.int .i64 (↑best : Int)), (4, AV.int .i64 (IntKind.wrap .i64 ((↑i : Int) + 1))), (5, AV.bool false), (6, AV.bool pt), (7, AV.int .i64 (↑fr : Int))], []))))))) (askB sm (K AExit.normal (envOf 76 [(0, AV.str s), (3, AV.int .i64 (IntKind.wrap .i64 ((↑i : Int) + 1))), (4, AV.int .i64 (IntKind.wrap .i64 ((↑i : Int) + 1))), (5, AV.bool true), (6, AV.bool pt), (7, AV.int .i64 (↑fr : Int))], [])) (askB ((↑(UInt8.toNat (List.getD s i 0)) : Int) != 48) (K AExit.normal (envOf 76 [(0, AV.str s), (3, AV.int .i64 (IntKind.wrap .i64 ((↑i : Int) + 1))), (4, AV.int .i64 (IntKind.wrap .i64 ((↑i : Int) + 1))), (5, AV.bool true), (6, AV.bool pt), (7, AV.int .i64 (↑fr : Int))], [])) (askB ((↑fr : Int) == 0) (K AExit.normal (envOf 76 [(0, AV.str s), (3, AV.int .i64 (IntKind.wrap .i64 ((↑i : Int) + 1))), (4, AV.int .i64 (IntKind.wrap .i64 ((↑i : Int) + 1))), (5, AV.bool false), (6, AV.bool pt), (7, AV.int .i64 (↑fr : Int))], [])) (K AExit.normal (envOf 76 [(0, AV.str s), (3, AV.int .i64 (↑best : Int)), (4, AV.int .i64 (IntKind.wrap .i64 ((↑i : Int) + 1))), (5, AV.bool false), (6, AV.bool pt), (7, AV.int .i64 (↑fr : Int))], []))))))) (K AExit.ret (envOf 76 [(2, AV.int .i64 (↑best : Int))], []))) (askB (decide ((↑i : Int) > (↑fr : Int))) (K AExit.normal (envOf 76 [(0, AV.str s), (3, AV.int .i64 (↑best : Int)), (4, AV.int .i64 (IntKind.wrap .i64 ((↑i : Int) + 1))), (5, AV.bool sm), (6, AV.bool true), (7, AV.int .i64 (↑fr : Int))], [])) (∃ (b : Bool), TbE.s { f := 33, s := fun (vs : List AV) (x : AHeap) => sIsD vs, r := Rs.of (Rs1.one K1.bool) } [AV.int .u8 (↑(UInt8.toNat (List.getD s i 0)) : Int)] [] = some (AV.bool b) ∧ askB b (askB pt (askB sm (K AExit.normal (envOf 76 [(0, AV.str s), (3, AV.int .i64 (IntKind.wrap .i64 ((↑i : Int) + 1))), (4, AV.int .i64 (IntKind.wrap .i64 ((↑i : Int) + 1))), (5, AV.bool true), (6, AV.bool pt), (7, AV.int .i64 (↑fr : Int))], [])) (askB ((↑(UInt8.toNat (List.getD s i 0)) : Int) != 48) (K AExit.normal (envOf 76 [(0, AV.str s), (3, AV.int .i64 (IntKind.wrap .i64 ((↑i : Int) + 1))), (4, AV.int .i64 (IntKind.wrap .i64 ((↑i : Int) + 1))), (5, AV.bool true), (6, AV.bool pt), (7, AV.int .i64 (↑fr : Int))], [])) (askB ((↑fr : Int) == 0) (K AExit.normal (envOf 76 [(0, AV.str s), (3, AV.int .i64 (IntKind.wrap .i64 ((↑i : Int) + 1))), (4, AV.int .i64 (IntKind.wrap .i64 ((↑i : Int) + 1))), (5, AV.bool false), (6, AV.bool pt), (7, AV.int .i64 (↑fr : Int))], [])) (K AExit.normal (envOf 76 [(0, AV.str s), (3, AV.int .i64 (↑best : Int)), (4, AV.int .i64 (IntKind.wrap .i64 ((↑i : Int) + 1))), (5, AV.bool false), (6, AV.bool pt), (7, AV.int .i64 (↑fr : Int))], []))))) (askB (decide ((↑i : Int) > (↑fr : Int))) (chkW (decide (fr < List.length s)) (askB ((↑(UInt8.toNat (List.getD s fr 0)) : Int) == 48) (K AExit.ret (envOf 76 [(2, AV.int .i64 (↑best : Int))], [])) (askB sm (K AExit.normal (envOf 76 [(0, AV.str s), (3, AV.int .i64 (IntKind.wrap .i64 ((↑i : Int) + 1))), (4, AV.int .i64 (IntKind.wrap .i64 ((↑i : Int) + 1))), (5, AV.bool true), (6, AV.bool pt), (7, AV.int .i64 (↑fr : Int))], [])) (askB ((↑(UInt8.toNat (List.getD s i 0)) : Int) != 48) (K AExit.normal (envOf 76 [(0, AV.str s), (3, AV.int .i64 (IntKind.wrap .i64 ((↑i : Int) + 1))), (4, AV.int .i64 (IntKind.wrap .i64 ((↑i : Int) + 1))), (5, AV.bool true), (6, AV.bool pt), (7, AV.int .i64 (↑fr : Int))], [])) (askB ((↑fr : Int) == 0) (K AExit.normal (envOf 76 [(0, AV.str s), (3, AV.int .i64 (IntKind.wrap .i64 ((↑i : Int) + 1))), (4, AV.int .i64 (IntKind.wrap .i64 ((↑i : Int) + 1))), (5, AV.bool false), (6, AV.bool pt), (7, AV.int .i64 (↑fr : Int))], [])) (K AExit.normal (envOf 76 [(0, AV.str s), (3, AV.int .i64 (↑best : Int)), (4, AV.int .i64 (IntKind.wrap .i64 ((↑i : Int) + 1))), (5, AV.bool false), (6, AV.bool pt), (7, AV.int .i64 (↑fr : Int))], []))))))) (askB sm (K AExit.normal (envOf 76 [(0, AV.str s), (3, AV.int .i64 (IntKind.wrap .i64 ((↑i : Int) + 1))), (4, AV.int .i64 (IntKind.wrap .i64 ((↑i : Int) + 1))), (5, AV.bool true), (6, AV.bool pt), (7, AV.int .i64 (↑fr : Int))], [])) (askB ((↑(UInt8.toNat (List.getD s i 0)) : Int) != 48) (K AExit.normal (envOf 76 [(0, AV.str s), (3, AV.int .i64 (IntKind.wrap .i64 ((↑i : Int) + 1))), (4, AV.int .i64 (IntKind.wrap .i64 ((↑i : Int) + 1))), (5, AV.bool true), (6, AV.bool pt), (7, AV.int .i64 (↑fr : Int))], [])) (askB ((↑fr : Int) == 0) (K AExit.normal (envOf 76 [(0, AV.str s), (3, AV.int .i64 (IntKind.wrap .i64 ((↑i : Int) + 1))), (4, AV.int .i64 (IntKind.wrap .i64 ((↑i : Int) + 1))), (5, AV.bool false), (6, AV.bool pt), (7, AV.int .i64 (↑fr : Int))], [])) (K AExit.normal (envOf 76 [(0, AV.str s), (3, AV.int .i64 (↑best : Int)), (4, AV.int .i64 (IntKind.wrap .i64 ((↑i : Int) + 1))), (5, AV.bool false), (6, AV.bool pt), (7, AV.int .i64 (↑fr : Int))], []))))))) (K AExit.ret (envOf 76 [(2, AV.int .i64 (↑best : Int))], []))))) (∃ (b : Bool), TbE.s { f := 33, s := fun (vs : List AV) (x : AHeap) => sIsD vs, r := Rs.of (Rs1.one K1.bool) } [AV.int .u8 (↑(UInt8.toNat (List.getD s i 0)) : Int)] [] = some (AV.bool b) ∧ askB b (askB pt (askB sm (K AExit.normal (envOf 76 [(0, AV.str s), (3, AV.int .i64 (IntKind.wrap .i64 ((↑i : Int) + 1))), (4, AV.int .i64 (IntKind.wrap .i64 ((↑i : Int) + 1))), (5, AV.bool true), (6, AV.bool pt), (7, AV.int .i64 (↑fr : Int))], [])) (askB ((↑(UInt8.toNat (List.getD s i 0)) : Int) != 48) (K AExit.normal (envOf 76 [(0, AV.str s), (3, AV.int .i64 (IntKind.wrap .i64 ((↑i : Int) + 1))), (4, AV.int .i64 (IntKind.wrap .i64 ((↑i : Int) + 1))), (5, AV.bool true), (6, AV.bool pt), (7, AV.int .i64 (↑fr : Int))], [])) (askB ((↑fr : Int) == 0) (K AExit.normal (envOf 76 [(0, AV.str s), (3, AV.int .i64 (IntKind.wrap .i64 ((↑i : Int) + 1))), (4, AV.int .i64 (IntKind.wrap .i64 ((↑i : Int) + 1))), (5, AV.bool false), (6, AV.bool pt), (7, AV.int .i64 (↑fr : Int))], [])) (K AExit.normal (envOf 76 [(0, AV.str s), (3, AV.int .i64 (↑best : Int)), (4, AV.int .i64 (IntKind.wrap .i64 ((↑i : Int) + 1))), (5, AV.bool false), (6, AV.bool pt), (7, AV.int .i64 (↑fr : Int))], []))))) (askB (decide ((↑i : Int) > (↑fr : Int))) (chkW (decide (fr < List.length s)) (askB ((↑(UInt8.toNat (List.getD s fr 0)) : Int) == 48) (K AExit.ret (envOf 76 [(2, AV.int .i64 (↑best : Int))], [])) (askB sm (K AExit.normal (envOf 76 [(0, AV.str s), (3, AV.int .i64 (IntKind.wrap .i64 ((↑i : Int) + 1))), (4, AV.int .i64 (IntKind.wrap .i64 ((↑i : Int) + 1))), (5, AV.bool true), (6, AV.bool pt), (7, AV.int .i64 (↑fr : Int))], [])) (askB ((↑(UInt8.toNat (List.getD s i 0)) : Int) != 48) (K AExit.normal (envOf 76 [(0, AV.str s), (3, AV.int .i64 (IntKind.wrap .i64 ((↑i : Int) + 1))), (4, AV.int .i64 (IntKind.wrap .i64 ((↑i : Int) + 1))), (5, AV.bool true), (6, AV.bool pt), (7, AV.int .i64 (↑fr : Int))], [])) (askB ((↑fr : Int) == 0) (K AExit.normal (envOf 76 [(0, AV.str s), (3, AV.int .i64 (IntKind.wrap .i64 ((↑i : Int) + 1))), (4, AV.int .i64 (IntKind.wrap .i64 ((↑i : Int) + 1))), (5, AV.bool false), (6, AV.bool pt), (7, AV.int .i64 (↑fr : Int))], [])) (K AExit.normal (envOf 76 [(0, AV.str s), (3, AV.int .i64 (↑best : Int)), (4, AV.int .i64 (IntKind.wrap .i64 ((↑i : Int) + 1))), (5, AV.bool false), (6, AV.bool pt), (7, AV.int .i64 (↑fr : Int))], []))))))) (askB sm (K AExit.normal (envOf 76 [(0, AV.str s), (3, AV.int .i64 (IntKind.wrap .i64 ((↑i : Int) + 1))), (4, AV.int .i64 (IntKind.wrap .i64 ((↑i : Int) + 1))), (5, AV.bool true), (6, AV.bool pt), (7, AV.int .i64 (↑fr : Int))], [])) (askB ((↑(UInt8.toNat (List.getD s i 0)) : Int) != 48) (K AExit.normal (envOf 76 [(0, AV.str s), (3, AV.int .i64 (IntKind.wrap .i64 ((↑i : Int) + 1))), (4, AV.int .i64 (IntKind.wrap .i64 ((↑i : Int) + 1))), (5, AV.bool true), (6, AV.bool pt), (7, AV.int .i64 (↑fr : Int))], [])) (askB ((↑fr : Int) == 0) (K AExit.normal (envOf 76 [(0, AV.str s), (3, AV.int .i64 (IntKind.wrap .i64 ((↑i : Int) + 1))), (4, AV.int .i64 (IntKind.wrap .i64 ((↑i : Int) + 1))), (5, AV.bool false), (6, AV.bool pt), (7, AV.int .i64 (↑fr : Int))], [])) (K AExit.normal (envOf 76 [(0, AV.str s), (3, AV.int .i64 (↑best : Int)), (4, AV.int .i64 (IntKind.wrap .i64 ((↑i : Int) + 1))), (5, AV.bool false), (6, AV.bool pt), (7, AV.int .i64 (↑fr : Int))], []))))))) (K AExit.ret (envOf 76 [(2, AV.int .i64 (↑best : Int))], []))))) (K (AExit.exit 0) (envOf 76 [(3, AV.int .i64 (↑best : Int))], []))) = (wpP Tryd.prog C43l 80 (.inl p43_l0) (q43 s best i sm pt fr) (postX C43l t43 x43 r43 K)) := by kernel_rfl
theorem v43 (s : List UInt8) (R : AV → AHeap → Prop) : (askB (decide (0 < (↑(List.length s) : Int))) (chkW (decide (0 < List.length s)) (askB ((↑(UInt8.toNat (List.getD s 0 0)) : Int) == 45) (∃ (fr : Nat), (envOf 76 [(0, AV.str s), (3, AV.int .i64 0), (4, AV.int .i64 1), (5, AV.bool false), (6, AV.bool false), (7, AV.int .i64 1)], ([] : AHeap)) = (envOf 76 [(0, AV.str s), (3, AV.int .i64 0), (4, AV.int .i64 (↑fr : Int)), (5, AV.bool false), (6, AV.bool false), (7, AV.int .i64 (↑fr : Int))], []) ∧ fr ≤ List.length s ∧ ∀ (e : Bool), askB e (R (AV.int .i64 (↑(pfxR fr (List.getD s fr 0) (List.drop fr s) fr false false 0) : Int)) []) (R (AV.int .i64 (↑(pfxR fr (List.getD s fr 0) (List.drop fr s) fr false false 0) : Int)) [])) (∃ (fr : Nat), (envOf 76 [(0, AV.str s), (3, AV.int .i64 0), (4, AV.int .i64 0), (5, AV.bool false), (6, AV.bool false), (7, AV.int .i64 0)], ([] : AHeap)) = (envOf 76 [(0, AV.str s), (3, AV.int .i64 0), (4, AV.int .i64 (↑fr : Int)), (5, AV.bool false), (6, AV.bool false), (7, AV.int .i64 (↑fr : Int))], []) ∧ fr ≤ List.length s ∧ ∀ (e : Bool), askB e (R (AV.int .i64 (↑(pfxR fr (List.getD s fr 0) (List.drop fr s) fr false false 0) : Int)) []) (R (AV.int .i64 (↑(pfxR fr (List.getD s fr 0) (List.drop fr s) fr false false 0) : Int)) [])))) (∃ (fr : Nat), (envOf 76 [(0, AV.str s), (3, AV.int .i64 0), (4, AV.int .i64 0), (5, AV.bool false), (6, AV.bool false), (7, AV.int .i64 0)], ([] : AHeap)) = (envOf 76 [(0, AV.str s), (3, AV.int .i64 0), (4, AV.int .i64 (↑fr : Int)), (5, AV.bool false), (6, AV.bool false), (7, AV.int .i64 (↑fr : Int))], []) ∧ fr ≤ List.length s ∧ ∀ (e : Bool), askB e (R (AV.int .i64 (↑(pfxR fr (List.getD s fr 0) (List.drop fr s) fr false false 0) : Int)) []) (R (AV.int .i64 (↑(pfxR fr (List.getD s fr 0) (List.drop fr s) fr false false 0) : Int)) []))) = (wpF Tryd.prog (C43 s) 80 p43 [.str s] [] R) := by kernel_rfl

theorem isD_ok : QuietOK Tryd.prog 33 fun vs _ => sIsD vs := quiet_plain ht54 fun args v h => by
  unfold sIsD at h
  split at h
  · rename_i z
    split at h
    · rename_i hz
      cases h
      refine ⟨rfl, rfl, ?_⟩
      have hS : (tbS Q []).OK Tryd.prog := tbS_ok quietText (by simp)
      have hn : (z.toNat.toUInt8).toNat = z.toNat := by simp; omega
      obtain ⟨u, h', rfl, hsem⟩ := sem_vc mixed (C := tbC Q [] (fun _ => false) kdI) hS (tbS_q _ _) (tbW_ok rfl) ht54 c54 (no_parts rfl) (v54 z fun u _ => u = .bool (isD z.toNat.toUInt8)) (by
        refine askI (fun h2 => askI (fun h3 => ?_) fun h3 => ?_) fun h2 => ?_
        · simp only [decide_eq_true_eq] at h2 h3
          unfold isD; rw [hn, decide_eq_true (by omega), decide_eq_true (by omega)]; rfl
        · simp only [decide_eq_false_iff_not] at h3
          unfold isD; rw [hn, decide_eq_false (p := z.toNat ≤ 57) (by omega), Bool.and_false]
        · simp only [decide_eq_false_iff_not] at h2
          unfold isD; rw [hn, decide_eq_false (by omega)]; rfl)
      exact ⟨h', hsem⟩
    · cases h
  · cases h
theorem isD_at (c : UInt8) : sIsD [.int .u8 (c.toNat : Int)] = some (.bool (isD c)) := by
  have h := c.toNat_lt
  show (if 0 ≤ ((c.toNat : Nat) : Int) ∧ ((c.toNat : Nat) : Int) < 256 then some (AV.bool (isD ((c.toNat : Nat) : Int).toNat.toUInt8)) else none) = _
  rw [if_pos (by omega), u8_back]

theorem pfx_behind (fr : Nat) (f0 : UInt8) : ∀ (l : List UInt8) (i : Nat) (sm : Bool) (best : Nat), pfxR fr f0 l i sm true best = behindL (fr != 0) l i sm best
  | [], _, _, _ => rfl
  | c :: l, i, sm, best => by
    have hn : (!(fr != 0)) = (fr == 0) := by rw [bne, Bool.not_not]
    simp only [pfxR, behindL, Bool.not_true, Bool.and_false, Bool.false_and, Bool.or_false, Bool.false_eq_true, if_false, hn]
    cases hd : isD c with
    | true => simp only [Bool.not_true, Bool.false_eq_true, if_false, if_true]; exact pfx_behind fr f0 l _ _ _
    | false => simp only [Bool.not_false, if_true, Bool.false_eq_true, if_false]
theorem isD46 : isD 46 = false := by decide
theorem pfx_whole {s : List UInt8} {fr : Nat} {f0 : UInt8} (h0 : (f0 == 48) = false) : ∀ (k i : Nat), s.length - i ≤ k → fr < i → pfxR fr f0 (s.drop i) i true false i = wholeP (fr != 0) s (i + runD (s.drop i)) true := by
  intro k
  induction k with
  | zero =>
    intro i hk hi
    have hl : s.length ≤ i := by omega
    rw [List.drop_eq_nil_of_le hl]
    show i = wholeP _ s (i + 0) true
    rw [Nat.add_zero, wholeP_no (by rw [decide_eq_false (by omega), Bool.false_and])]
    rfl
  | succ k ih =>
    intro i hk hi
    rcases Nat.lt_or_ge i s.length with hl | hl
    · have hgt : decide (fr < i) = true := decide_eq_true hi
      cases hd : isD (s.getD i 0) with
      | true =>
        have hne : (s.getD i 0 == 46) = false := by
          rw [beq_eq_false_iff_ne]; intro e; rw [e, isD46] at hd; cases hd
        rw [runD_at (by rw [dgA_eq hl]; exact hd), show i + (runD (s.drop (i + 1)) + 1) = (i + 1) + runD (s.drop (i + 1)) by omega, ← ih (i + 1) (by omega) (by omega)]
        rw [drop_cons hl]
        simp only [pfxR, hne, hd, h0, Bool.false_and, Bool.and_false, Bool.or_false, Bool.not_true, Bool.false_eq_true, if_false, Bool.true_or, if_true]
      | false =>
        rw [runD_no (by rw [dgA_eq hl]; exact hd), Nat.add_zero]
        cases hp : (s.getD i 0 == 46) with
        | true =>
          have hp2 : (s.getD i 0 != 46) = false := by rw [bne, hp]; rfl
          rw [wholeP_yes hl hp2, ← pfx_behind fr f0]
          rw [drop_cons hl]
          simp only [pfxR, hp, hgt, Bool.not_false, Bool.and_true, if_true, Bool.true_or]
        | false =>
          rw [wholeP_no (by rw [hp, Bool.and_false]), drop_cons hl]
          simp only [pfxR, hp, hd, Bool.false_and, Bool.false_eq_true, if_false, Bool.not_false, Bool.true_or, if_true]
    · exact ih i (by omega) hi
theorem pfx_start {s : List UInt8} {fr : Nat} : pfxR fr (s.getD fr 0) (s.drop fr) fr false false 0 = if dgA s fr then (if s.getD fr 0 == 48 then wholeP (fr != 0) s (fr + 1) false else wholeP (fr != 0) s (fr + runD (s.drop fr)) true) else 0 := by
  rcases Nat.lt_or_ge fr s.length with hl | hl
  · rw [dgA_eq hl]
    have hgt : decide (fr < fr) = false := decide_eq_false (by omega)
    have hgt1 : decide (fr < fr + 1) = true := decide_eq_true (by omega)
    cases hd : isD (s.getD fr 0) with
    | false =>
      rw [drop_cons hl]
      simp only [pfxR, hgt, hd, Bool.and_false, Bool.false_and, Bool.false_eq_true, if_false, Bool.not_false, Bool.true_or, if_true]
    | true =>
      simp only [if_true]
      cases hz : (s.getD fr 0 == 48) with
      | false =>
        have hz2 : (s.getD fr 0 != 48) = true := by rw [bne, hz]; rfl
        rw [runD_at (by rw [dgA_eq hl]; exact hd), show fr + (runD (s.drop (fr + 1)) + 1) = (fr + 1) + runD (s.drop (fr + 1)) by omega]
        have hw := pfx_whole (s := s) (fr := fr) hz (s.length - (fr + 1)) (fr + 1) (Nat.le_refl _) (by omega)
        simp only [Bool.false_eq_true, if_false]
        rw [← hw]
        conv => lhs; rw [drop_cons hl]
        simp only [pfxR, hgt, hd, hz2, Bool.and_false, Bool.false_and, Bool.false_eq_true, if_false, Bool.not_true, Bool.false_or, Bool.true_or, Bool.or_true, if_true]
      | true =>
        have hz2 : (s.getD fr 0 != 48) = false := by rw [bne, hz]; rfl
        have hn : (!(fr != 0)) = (fr == 0) := by rw [bne, Bool.not_not]
        have h1 : pfxR fr (s.getD fr 0) (s.drop fr) fr false false 0 = pfxR fr (s.getD fr 0) (s.drop (fr + 1)) (fr + 1) false false (if fr == 0 then fr + 1 else 0) := by
          conv => lhs; rw [drop_cons hl]
          simp only [pfxR, hgt, hd, hz2, Bool.and_false, Bool.false_and, Bool.false_eq_true, if_false, Bool.not_true, Bool.false_or, Bool.or_false]
        rw [h1]
        simp only [if_true]
        rcases Nat.lt_or_ge (fr + 1) s.length with hl1 | hl1
        · cases hp : (s.getD (fr + 1) 0 == 46) with
          | true =>
            have hp2 : (s.getD (fr + 1) 0 != 46) = false := by rw [bne, hp]; rfl
            rw [wholeP_yes hl1 hp2, ← pfx_behind fr (s.getD fr 0), drop_cons hl1, hn]
            simp only [pfxR, hp, hgt1, Bool.not_false, Bool.and_true, if_true, Bool.true_or, Bool.false_or]
          | false =>
            rw [wholeP_no (by rw [hp, Bool.and_false]), drop_cons hl1, hn]
            simp only [pfxR, hp, hz, hgt1, Bool.false_and, Bool.false_eq_true, if_false, Bool.not_false, Bool.true_and, Bool.and_true, Bool.or_true, if_true, Bool.false_or]
        · rw [List.drop_eq_nil_of_le hl1, wholeP_no (by rw [decide_eq_false (by omega), Bool.false_and]), hn]
          simp only [pfxR, Bool.false_or]
  · rw [List.drop_eq_nil_of_le hl]
    have : dgA s fr = false := by unfold dgA; rw [decide_eq_false (by omega), Bool.false_and]
    rw [this]; rfl

theorem eq46 (c : UInt8) : (((c.toNat : Nat) : Int) == 46) = (c == 46) := by
  have h := ne46 c
  rw [bne, bne] at h
  exact Bool.not_inj h
theorem gtN (i fr : Nat) : decide ((i : Int) > (fr : Int)) = decide (fr < i) := by
  by_cases h : fr < i
  · rw [decide_eq_true h, decide_eq_true (by omega)]
  · rw [decide_eq_false h, decide_eq_false (by omega)]
theorem eqN0 (fr : Nat) : ((fr : Int) == 0) = (fr == 0) := by
  by_cases h : fr = 0
  · subst h; rfl
  · have h1 : (fr == 0) = false := by simpa using h
    have h2 : ((fr : Int) == 0) = false := by rw [beq_eq_false_iff_ne]; omega
    rw [h1, h2]
def V43 (s : List UInt8) (fr : Nat) : Nat := pfxR fr (s.getD fr 0) (s.drop fr) fr false false 0
def K43 (s : List UInt8) (fr : Nat) (e : AExit) (st : St) : Prop := ∃ b : Bool, (e, st) = if b then (AExit.exit 0, (envOf 76 [(3, .int .i64 (V43 s fr))], [])) else (AExit.ret, (envOf 76 [(2, .int .i64 (V43 s fr))], []))
theorem loop43 (s : List UInt8) (hs : s.length ≤ 9223372036854775807) (fr : Nat) (hfr : fr ≤ s.length) : W Tryd.prog (tbS Q tb43) 0 (.inl (.loop p43_l0)) (q43 s 0 fr false false fr) (K43 s fr) := by
  have hcw : CwOK (tbS Q tb43) (tbW Q tb43) := tbW_ok rfl
  have main := W_roundsG (P := Tryd.prog) (S := tbS Q tb43) (b0 := 0) (a := p43_l0) (fun p : Nat × Bool × Bool × Nat => q43 s p.2.2.2 p.1 p.2.1 p.2.2.1 fr)
    (fun p => fr ≤ p.1 ∧ p.1 ≤ s.length ∧ pfxR fr (s.getD fr 0) (s.drop p.1) p.1 p.2.1 p.2.2.1 p.2.2.2 = V43 s fr) (fun p => s.length - p.1) (fun _ => K43 s fr) ?_ (fr, false, false, 0) ⟨Nat.le_refl _, hfr, rfl⟩
  · exact main
  · rintro ⟨i, sm, pt, best⟩ ⟨h1, h2, h3⟩
    simp only at h1 h2 h3
    refine W_wpX (C := C43l) hcw (by intro x hx; cases hx) (n := 80) (tn := t43) (tx := x43) (tr := r43) ((v43b s best i sm pt fr _).mp ?_)
    rcases Nat.lt_or_ge i s.length with hi | hi
    · rw [drop_cons hi] at h3
      simp only [pfxR] at h3
      have w1 : IntKind.wrap .i64 ((i : Int) + 1) = ((i + 1 : Nat) : Int) := by rw [IntKind.wrap_i64]; omega
      refine askT (decide_eq_true (by omega)) (chkI (decide_eq_true hi) ?_)
      have hd := isD_at (s.getD i 0)
      have hret : best = V43 s fr → K43 s fr .ret (envOf 76 [(2, .int .i64 (best : Int))], []) := fun h => ⟨false, by rw [h]; rfl⟩
      have hgo : ∀ (sm' pt' : Bool) (b' : Nat), pfxR fr (s.getD fr 0) (s.drop (i + 1)) (i + 1) sm' pt' b' = V43 s fr →
          ∃ s' : Nat × Bool × Bool × Nat, ((envOf 76 [(0, .str s), (3, .int .i64 (b' : Int)), (4, .int .i64 ((i + 1 : Nat) : Int)), (5, .bool sm'), (6, .bool pt'), (7, .int .i64 (fr : Int))], []) : St) = q43 s s'.2.2.2 s'.1 s'.2.1 s'.2.2.1 fr ∧ (fr ≤ s'.1 ∧ s'.1 ≤ s.length ∧ pfxR fr (s.getD fr 0) (s.drop s'.1) s'.1 s'.2.1 s'.2.2.1 s'.2.2.2 = V43 s fr) ∧ s.length - s'.1 < s.length - i ∧ ∀ e st, K43 s fr e st → K43 s fr e st :=
        fun sm' pt' b' h => ⟨(i + 1, sm', pt', b'), rfl, ⟨by show fr ≤ i + 1; omega, by show i + 1 ≤ s.length; omega, h⟩, by show s.length - (i + 1) < s.length - i; omega, fun _ _ h => h⟩
      have hlt : decide (fr < s.length) = true := decide_eq_true (by omega)
      rw [w1]
      simp only [eq46, ne48, eq48, gtN, eqN0, hlt]
      generalize hc1 : (s.getD i 0 == 46) = q1 at h3 ⊢
      generalize hc2 : (s.getD i 0 != 48) = q2 at h3 ⊢
      generalize hc3 : decide (fr < i) = q3 at h3 ⊢
      generalize hc4 : (s.getD fr 0 == 48) = q4 at h3 ⊢
      generalize hc5 : (fr == 0) = q5 at h3 ⊢
      generalize hc6 : isD (s.getD i 0) = q6 at h3 hd
      cases sm <;> cases pt <;> cases q1 <;> cases q3 <;> cases q6 <;>
        first
        | exact hgo _ _ _ h3
        | exact ⟨_, hd, hret h3⟩
        | (refine ⟨_, hd, ?_⟩
           first
           | exact hgo _ _ _ h3
           | exact hret h3
           | (cases q4 <;> first
              | exact hret h3
              | exact hgo _ _ _ h3
              | (cases q2 <;> first
                 | exact hgo _ _ _ h3
                 | (cases q5 <;> exact hgo _ _ _ h3)))
           | (cases q2 <;> first
              | exact hgo _ _ _ h3
              | (cases q5 <;> exact hgo _ _ _ h3)))
    · rw [List.drop_eq_nil_of_le hi] at h3
      refine askF (decide_eq_false (by omega)) ⟨true, ?_⟩
      have h3' : best = V43 s fr := h3
      rw [h3']; rfl
theorem V43_one (s : List UInt8) (h : (decide (0 < s.length) && s.getD 0 0 == 45) = true) : V43 s 1 = prefixF s := by
  rw [pfx_neg h]; exact pfx_start
theorem V43_zero (s : List UInt8) (h : (decide (0 < s.length) && s.getD 0 0 == 45) = false) : V43 s 0 = prefixF s := by
  rw [pfx_pos h]; exact pfx_start
theorem refPrefix_ok : QuietOK Tryd.prog 18 fun vs _ => sPrefix vs := quiet_plain ht43 fun args v h => by
  unfold sPrefix at h
  split at h
  · rename_i s
    split at h
    · rename_i hs
      cases h
      refine ⟨rfl, rfl, ?_⟩
      have hS : (tbS Q tb43).OK Tryd.prog := tbS_ok quietText (by
        intro x hx
        simp only [tb43, List.mem_cons, List.not_mem_nil, or_false] at hx
        subst hx
        exact isD_ok)
      obtain ⟨u, h', rfl, hsem⟩ := sem_vc mixed (C := C43 s) hS (tbS_q _ _) (tbW_ok rfl) ht43 c43 (one_part rfl (part_loop (id := 6) rfl rfl fun st K hT => by
        obtain ⟨fr, rfl, hfr, hk⟩ := hT
        refine W_mono (loop43 s hs fr hfr) fun e st he => ?_
        obtain ⟨b, hb⟩ := he
        have hkb := hk b
        cases b <;> cases hb <;> exact hkb)) (v43 s fun u _ => u = .int .i64 (prefixF s)) (by
          refine askI (fun g1 => ?_) fun g1 => ?_
          · simp only [decide_eq_true_eq] at g1
            have hl : 0 < s.length := by omega
            refine chkI (decide_eq_true hl) ?_
            rw [eq45]
            refine askI (fun g2 => ?_) fun g2 => ?_
            · have hv := V43_one s (by rw [decide_eq_true hl, g2]; rfl)
              rw [← hv]
              exact ⟨1, rfl, by omega, fun e => by cases e <;> rfl⟩
            · have hv := V43_zero s (by rw [g2, Bool.and_false])
              rw [← hv]
              exact ⟨0, rfl, by omega, fun e => by cases e <;> rfl⟩
          · simp only [decide_eq_false_iff_not] at g1
            have hv := V43_zero s (by rw [decide_eq_false (by omega), Bool.false_and])
            rw [← hv]
            exact ⟨0, rfl, by omega, fun e => by cases e <;> rfl⟩)
      exact ⟨h', hsem⟩
    · cases h
  · cases h

end Go.Proofs.YtddalcnajejibaaDoor
