/- Written by merging: Lsa Lsb Lsc Lsd. -/
import Derived.Test.YtahdfjmdoljgiaaDoorMf
namespace Go.Proofs.YtahdfjmdoljgiaaDoor
open Go Go.Am
set_option maxRecDepth 100000
set_option maxHeartbeats 4000000
set_option linter.unusedVariables false
set_option linter.unusedSimpArgs false
/- The document's small functions over words: what they come to; shapes of their runs. -/

def sNameAt : List AV → Option AV
  | [.str s, .int .i64 i] => if (0 ≤ i ∧ i ≤ (s.length : Int)) ∧ s.length ≤ 1099511627776 then some (.int .i64 ((i.toNat + runF (s.drop i.toNat) : Nat) : Int)) else none
  | _ => none
def closesF (s : List UInt8) (i : Nat) : Nat := qd (s.drop (i + 1)) (i + 1)
def sCloses : List AV → Option AV
  | [.str s, .int .i64 i] => if (0 ≤ i ∧ i ≤ (s.length : Int)) ∧ s.length ≤ 1099511627776 then some (.tup [.int .i64 (closesF s i.toNat), .bool (closesF s i.toNat != 0)]) else none
  | _ => none
def nzD : List UInt8 → Bool
  | [] => false
  | c :: l => if isD c then c != 48 || nzD l else false
def wRf (s : List UInt8) (fr : Nat) : Bool :=
  if runD (s.drop fr) == 0 || (s.getD fr 0 == 48 && decide (1 < runD (s.drop fr))) then false
  else if decide (fr + runD (s.drop fr) < s.length) then
    (if s.getD (fr + runD (s.drop fr)) 0 != 46 || fr + runD (s.drop fr) + 1 == s.length then false
     else if fr + runD (s.drop fr) + 1 + runD (s.drop (fr + runD (s.drop fr) + 1)) == s.length then (nzD (s.drop fr) || nzD (s.drop (fr + runD (s.drop fr) + 1))) || s.getD 0 0 != 45 else false)
  else nzD (s.drop fr) || s.getD 0 0 != 45
def wR (s : List UInt8) : Bool := wRf s (if decide (0 < s.length) && s.getD 0 0 == 45 then 1 else 0)
def sWhole : List AV → Option AV
  | [.str s] => if s.length ≤ 1099511627776 then some (.bool (wR s)) else none
  | _ => none

-- name
def tb41 : List TbE := [⟨40, fun vs _ => sLet vs, .of (.one .bool)⟩, ⟨42, fun vs _ => sIsD vs, .of (.one .bool)⟩]
def q41 (s : List UInt8) (i : Int) : St := (envOf 24 [(0, .str s), (1, .int .i64 i)], [])
def t41 : Tidy := ⟨dropT 24 [0, 1], .all⟩
def x41 : Tidy := ⟨dropT 24 [1], .all⟩
def C41l : Cfg := tbC Q tb41 (fun _ => false) kdI
def C41 (s : List UInt8) : Cfg := { C41l with
  lw := fun id => if id = 1 then some fun st K => ∃ i : Nat, st = q41 s i ∧ i ≤ s.length ∧ K (.exit 0) (envOf 24 [(1, .int .i64 ((i + runF (s.drop i) : Nat) : Int))], []) else none
  F := fun id => if id = 1 then t41 else ⟨[], .all⟩ }
-- Name
def q22 (s : List UInt8) (i : Int) : St := (envOf 35 [(0, .str s), (3, .int .i64 i)], [])
def t22 : Tidy := ⟨dropT 35 [0, 3], .all⟩
def x22 : Tidy := ⟨dropT 35 [], .all⟩
def r22 : Tidy := ⟨dropT 35 [2], .all⟩
def C22l : Cfg := tbC Q tb41 (fun _ => false) kdI
def C22 (s : List UInt8) : Cfg := { C22l with
  lw := fun id => if id = 4 then some fun st K => st = q22 s 0 ∧ askB (runF s == s.length) (K (.exit 0) (envOf 35 [], [])) (K .ret (envOf 35 [(2, .bool false)], [])) else none
  F := fun id => if id = 4 then t22 else ⟨[], .all⟩ }
-- Symbol
def symL : List (List UInt8) := [[123], [125], [40], [41], [44], [59], [58], [46], [61], [33, 61], [60], [60, 61], [62], [62, 61], [43], [45], [42]]
def symR (s : List UInt8) : Bool := symL.any (· == s)
def sSymR : List AV → Option AV
  | [.str s] => if s.length ≤ 1099511627776 then some (.bool (symR s)) else none
  | _ => none
def sy17 : AObj := .row 9 1 [.str [123], .str [125], .str [40], .str [41], .str [44], .str [59], .str [58], .str [46], .str [61], .str [33, 61], .str [60], .str [60, 61], .str [62], .str [62, 61], .str [43], .str [45], .str [42]]
def q24 (s : List UInt8) (i : Int) : St := (envOf 18 [(0, .str s), (3, .sl (some (0, 0)) 17 (.rel 0)), (4, .int .i64 i)], [sy17])
def t24 : Tidy := ⟨dropT 18 [0, 3, 4], .all⟩
def x24 : Tidy := ⟨dropT 18 [], .rows []⟩
def r24 : Tidy := ⟨dropT 18 [2], .rows []⟩
def C24l : Cfg := tbC Q [] (fun _ => false) kdI
def C24 (s : List UInt8) : Cfg := { C24l with
  lw := fun id => if id = 3 then some fun st K => st = q24 s 0 ∧ askB (symR s) (K .ret (envOf 18 [(2, .bool true)], [])) (K (.exit 0) (envOf 18 [], [])) else none
  F := fun id => if id = 3 then t24 else ⟨[], .all⟩ }
-- closes
def q45 (s : List UInt8) (i : Int) : St := (envOf 27 [(0, .str s), (6, .int .i64 i)], [])
def t45 : Tidy := ⟨dropT 27 [0, 6], .all⟩
def x45 : Tidy := ⟨dropT 27 [], .all⟩
def r45 : Tidy := ⟨dropT 27 [4, 5], .all⟩
def C45l : Cfg := tbC Q [] (fun _ => false) kdI
def C45 (s : List UInt8) : Cfg := { C45l with
  lw := fun id => if id = 2 then some fun st K => ∃ i : Nat, st = q45 s i ∧ i ≤ s.length + 2 ∧ askB (qd (s.drop i) i == 0) (K (.exit 0) (envOf 27 [], [])) (K .ret (envOf 27 [(4, .int .i64 (qd (s.drop i) i)), (5, .bool true)], [])) else none
  F := fun id => if id = 2 then t45 else ⟨[], .all⟩ }
-- Blank
def cmF : List UInt8 → Nat
  | [] => 0
  | c :: l => if c == 10 then 0 else cmF l + 1
def q20 (s : List UInt8) (i : Int) : St := (envOf 70 [(0, .str s), (1, .int .i64 i)], [])
def t20 : Tidy := ⟨dropT 70 [0, 1], .all⟩
def x20 : Tidy := ⟨dropT 70 [1], .all⟩
def r20 : Tidy := ⟨dropT 70 [4], .all⟩
def C20i : Cfg := tbC Q [] (fun _ => false) kdI
def C20l (s : List UInt8) : Cfg := { C20i with
  lw := fun id => if id = 9 then some fun st K => ∃ i : Nat, st = q20 s i ∧ i ≤ s.length ∧ K (.exit 3) (q20 s ((i + cmF (s.drop i) : Nat) : Int)) else none
  F := fun id => if id = 9 then t20 else ⟨[], .all⟩ }
def C20 (s : List UInt8) : Cfg := { C20i with
  lw := fun id => if id = 3 then some fun st K => ∃ i : Nat, st = q20 s i ∧ i ≤ s.length ∧ ∀ e : Bool, askB e (K (.exit 0) (envOf 70 [(1, .int .i64 ((i + blk (s.drop i) false : Nat) : Int))], [])) (K .ret (envOf 70 [(4, .int .i64 ((i + blk (s.drop i) false : Nat) : Int))], [])) else none
  F := fun id => if id = 3 then t20 else ⟨[], .all⟩ }
-- whole
def q55 (s : List UInt8) (sm : Bool) (i fr : Int) : St := (envOf 95 [(0, .str s), (3, .bool sm), (4, .int .i64 i), (5, .int .i64 fr)], [])
def t55 : Tidy := ⟨dropT 95 [0, 3, 4, 5], .all⟩
def q55b (s : List UInt8) (sm : Bool) (k : Int) : St := (envOf 95 [(0, .str s), (3, .bool sm), (6, .int .i64 k)], [])
def e55 (s : List UInt8) (sm : Bool) : St := (envOf 95 [(0, .str s), (3, .bool sm)], [])
def t55b : Tidy := ⟨dropT 95 [0, 3, 6], .all⟩
def x55b : Tidy := ⟨dropT 95 [0, 3], .all⟩
def r55b : Tidy := ⟨dropT 95 [2], .all⟩
def C55l : Cfg := tbC Q tb43 (fun _ => false) kdI
def C55 (s : List UInt8) : Cfg := { C55l with
  lw := fun id => if id = 6 then some fun st K => ∃ fr : Nat, st = q55 s false fr fr ∧ fr ≤ s.length ∧ K (.exit 0) (q55 s (nzD (s.drop fr)) ((fr + runD (s.drop fr) : Nat) : Int) fr)
    else if id = 15 then some fun st K => ∃ (k : Nat) (sm : Bool), st = q55b s sm k ∧ k ≤ s.length ∧ askB (k + runD (s.drop k) == s.length) (K (.exit 2) (e55 s (sm || nzD (s.drop k)))) (K .ret (envOf 95 [(2, .bool false)], [])) else none
  F := fun id => if id = 6 then t55 else if id = 15 then t55b else ⟨[], .all⟩ }

/- What the document's small functions must meet: written by vcgen.py. -/
theorem v40 (c : Int) (R : AV → AHeap → Prop) : (askB (decide (c ≥ 97)) (askB (decide (c ≤ 122)) (R (AV.bool true) []) (askB (decide (c ≥ 65)) (askB (decide (c ≤ 90)) (R (AV.bool true) []) (askB (c == 95) (R (AV.bool true) []) (R (AV.bool false) []))) (askB (c == 95) (R (AV.bool true) []) (R (AV.bool false) [])))) (askB (decide (c ≥ 65)) (askB (decide (c ≤ 90)) (R (AV.bool true) []) (askB (c == 95) (R (AV.bool true) []) (R (AV.bool false) []))) (askB (c == 95) (R (AV.bool true) []) (R (AV.bool false) [])))) = (wpF Tryd.prog (tbC Q [] (fun _ => false) kdI) 40 p40 [.int .u8 c] [] R) := by kernel_rfl
theorem v42 (c : Int) (R : AV → AHeap → Prop) : (askB (decide (c ≥ 48)) (askB (decide (c ≤ 57)) (R (AV.bool true) []) (R (AV.bool false) [])) (R (AV.bool false) [])) = (wpF Tryd.prog (tbC Q [] (fun _ => false) kdI) 40 p42 [.int .u8 c] [] R) := by kernel_rfl
theorem v41b (s : List UInt8) (i : Nat) (K : AExit → St → Prop) : (askB (decide ((↑i : Int) < (↑(List.length s) : Int))) (chkW (decide (i < List.length s)) (∃ (b : Bool), sLet [AV.int .u8 (↑(UInt8.toNat (List.getD s i 0)) : Int)] = some (AV.bool b) ∧ askB b (K AExit.normal (envOf 24 [(0, AV.str s), (1, AV.int .i64 (IntKind.wrap .i64 ((↑i : Int) + 1)))], [])) (chkW (decide (i < List.length s)) (∃ (b : Bool), sIsD [AV.int .u8 (↑(UInt8.toNat (List.getD s i 0)) : Int)] = some (AV.bool b) ∧ askB b (K AExit.normal (envOf 24 [(0, AV.str s), (1, AV.int .i64 (IntKind.wrap .i64 ((↑i : Int) + 1)))], [])) (K (AExit.exit 0) (envOf 24 [(1, AV.int .i64 (↑i : Int))], [])))))) (K (AExit.exit 0) (envOf 24 [(1, AV.int .i64 (↑i : Int))], []))) = (wpP Tryd.prog C41l 40 (.inl p41_l0) (q41 s i) (postX C41l t41 x41 x41 K)) := by kernel_rfl
theorem v41 (s : List UInt8) (i : Int) (R : AV → AHeap → Prop) : (∃ (i_1 : Nat), (envOf 24 [(0, AV.str s), (1, AV.int .i64 i)], ([] : AHeap)) = (envOf 24 [(0, AV.str s), (1, AV.int .i64 (↑i_1 : Int))], []) ∧ i_1 ≤ List.length s ∧ R (AV.int .i64 (↑(i_1 + runF (List.drop i_1 s)) : Int)) []) = (wpF Tryd.prog (C41 s) 40 p41 [.str s, .int .i64 i] [] R) := by kernel_rfl
theorem v22b (s : List UInt8) (i : Nat) (K : AExit → St → Prop) : (askB (decide ((↑i : Int) < (↑(List.length s) : Int))) (chkW (decide (i < List.length s)) (∃ (b : Bool), sLet [AV.int .u8 (↑(UInt8.toNat (List.getD s i 0)) : Int)] = some (AV.bool b) ∧ askB b (K AExit.normal (envOf 35 [(0, AV.str s), (3, AV.int .i64 (IntKind.wrap .i64 ((↑i : Int) + 1)))], [])) (chkW (decide (i < List.length s)) (∃ (b : Bool), sIsD [AV.int .u8 (↑(UInt8.toNat (List.getD s i 0)) : Int)] = some (AV.bool b) ∧ askB b (K AExit.normal (envOf 35 [(0, AV.str s), (3, AV.int .i64 (IntKind.wrap .i64 ((↑i : Int) + 1)))], [])) (K AExit.ret (envOf 35 [(2, AV.bool false)], [])))))) (K (AExit.exit 0) (envOf 35 [], []))) = (wpP Tryd.prog C22l 40 (.inl p22_l0) (q22 s i) (postX C22l t22 x22 r22 K)) := by kernel_rfl
theorem v22 (s : List UInt8) (R : AV → AHeap → Prop) : (askB (s == []) (R (AV.bool false) []) (askB (decide ((↑(List.length s) : Int) > 32)) (R (AV.bool false) []) (chkW (decide (0 < List.length s)) (∃ (b : Bool), sLet [AV.int .u8 (↑(UInt8.toNat (List.getD s 0 0)) : Int)] = some (AV.bool b) ∧ askB b ((envOf 35 [(0, AV.str s), (3, AV.int .i64 0)], ([] : AHeap)) = (envOf 35 [(0, AV.str s), (3, AV.int .i64 0)], []) ∧ askB (runF s == List.length s) (R (AV.bool true) []) (R (AV.bool false) [])) (R (AV.bool false) []))))) = (wpF Tryd.prog (C22 s) 40 p22 [.str s] [] R) := by kernel_rfl
theorem v24b0 (s : List UInt8) (K : AExit → St → Prop) : (askB ([123] == s) (K AExit.ret (envOf 18 [(2, AV.bool true)], [])) (K AExit.normal (envOf 18 [(0, AV.str s), (3, AV.sl (some (0, 0)) 17 (ACap.rel 0)), (4, AV.int .i64 1)], [AObj.row 9 1 [AV.str [123], AV.str [125], AV.str [40], AV.str [41], AV.str [44], AV.str [59], AV.str [58], AV.str [46], AV.str [61], AV.str [33, 61], AV.str [60], AV.str [60, 61], AV.str [62], AV.str [62, 61], AV.str [43], AV.str [45], AV.str [42]]]))) = (wpP Tryd.prog C24l 40 (.inl p24_l0) (q24 s 0) (postX C24l t24 x24 r24 K)) := by kernel_rfl
theorem v24b1 (s : List UInt8) (K : AExit → St → Prop) : (askB ([125] == s) (K AExit.ret (envOf 18 [(2, AV.bool true)], [])) (K AExit.normal (envOf 18 [(0, AV.str s), (3, AV.sl (some (0, 0)) 17 (ACap.rel 0)), (4, AV.int .i64 2)], [AObj.row 9 1 [AV.str [123], AV.str [125], AV.str [40], AV.str [41], AV.str [44], AV.str [59], AV.str [58], AV.str [46], AV.str [61], AV.str [33, 61], AV.str [60], AV.str [60, 61], AV.str [62], AV.str [62, 61], AV.str [43], AV.str [45], AV.str [42]]]))) = (wpP Tryd.prog C24l 40 (.inl p24_l0) (q24 s 1) (postX C24l t24 x24 r24 K)) := by kernel_rfl
theorem v24b2 (s : List UInt8) (K : AExit → St → Prop) : (askB ([40] == s) (K AExit.ret (envOf 18 [(2, AV.bool true)], [])) (K AExit.normal (envOf 18 [(0, AV.str s), (3, AV.sl (some (0, 0)) 17 (ACap.rel 0)), (4, AV.int .i64 3)], [AObj.row 9 1 [AV.str [123], AV.str [125], AV.str [40], AV.str [41], AV.str [44], AV.str [59], AV.str [58], AV.str [46], AV.str [61], AV.str [33, 61], AV.str [60], AV.str [60, 61], AV.str [62], AV.str [62, 61], AV.str [43], AV.str [45], AV.str [42]]]))) = (wpP Tryd.prog C24l 40 (.inl p24_l0) (q24 s 2) (postX C24l t24 x24 r24 K)) := by kernel_rfl
theorem v24b3 (s : List UInt8) (K : AExit → St → Prop) : (askB ([41] == s) (K AExit.ret (envOf 18 [(2, AV.bool true)], [])) (K AExit.normal (envOf 18 [(0, AV.str s), (3, AV.sl (some (0, 0)) 17 (ACap.rel 0)), (4, AV.int .i64 4)], [AObj.row 9 1 [AV.str [123], AV.str [125], AV.str [40], AV.str [41], AV.str [44], AV.str [59], AV.str [58], AV.str [46], AV.str [61], AV.str [33, 61], AV.str [60], AV.str [60, 61], AV.str [62], AV.str [62, 61], AV.str [43], AV.str [45], AV.str [42]]]))) = (wpP Tryd.prog C24l 40 (.inl p24_l0) (q24 s 3) (postX C24l t24 x24 r24 K)) := by kernel_rfl
theorem v24b4 (s : List UInt8) (K : AExit → St → Prop) : (askB ([44] == s) (K AExit.ret (envOf 18 [(2, AV.bool true)], [])) (K AExit.normal (envOf 18 [(0, AV.str s), (3, AV.sl (some (0, 0)) 17 (ACap.rel 0)), (4, AV.int .i64 5)], [AObj.row 9 1 [AV.str [123], AV.str [125], AV.str [40], AV.str [41], AV.str [44], AV.str [59], AV.str [58], AV.str [46], AV.str [61], AV.str [33, 61], AV.str [60], AV.str [60, 61], AV.str [62], AV.str [62, 61], AV.str [43], AV.str [45], AV.str [42]]]))) = (wpP Tryd.prog C24l 40 (.inl p24_l0) (q24 s 4) (postX C24l t24 x24 r24 K)) := by kernel_rfl
theorem v24b5 (s : List UInt8) (K : AExit → St → Prop) : (askB ([59] == s) (K AExit.ret (envOf 18 [(2, AV.bool true)], [])) (K AExit.normal (envOf 18 [(0, AV.str s), (3, AV.sl (some (0, 0)) 17 (ACap.rel 0)), (4, AV.int .i64 6)], [AObj.row 9 1 [AV.str [123], AV.str [125], AV.str [40], AV.str [41], AV.str [44], AV.str [59], AV.str [58], AV.str [46], AV.str [61], AV.str [33, 61], AV.str [60], AV.str [60, 61], AV.str [62], AV.str [62, 61], AV.str [43], AV.str [45], AV.str [42]]]))) = (wpP Tryd.prog C24l 40 (.inl p24_l0) (q24 s 5) (postX C24l t24 x24 r24 K)) := by kernel_rfl
theorem v24b6 (s : List UInt8) (K : AExit → St → Prop) : (askB ([58] == s) (K AExit.ret (envOf 18 [(2, AV.bool true)], [])) (K AExit.normal (envOf 18 [(0, AV.str s), (3, AV.sl (some (0, 0)) 17 (ACap.rel 0)), (4, AV.int .i64 7)], [AObj.row 9 1 [AV.str [123], AV.str [125], AV.str [40], AV.str [41], AV.str [44], AV.str [59], AV.str [58], AV.str [46], AV.str [61], AV.str [33, 61], AV.str [60], AV.str [60, 61], AV.str [62], AV.str [62, 61], AV.str [43], AV.str [45], AV.str [42]]]))) = (wpP Tryd.prog C24l 40 (.inl p24_l0) (q24 s 6) (postX C24l t24 x24 r24 K)) := by kernel_rfl
theorem v24b7 (s : List UInt8) (K : AExit → St → Prop) : (askB ([46] == s) (K AExit.ret (envOf 18 [(2, AV.bool true)], [])) (K AExit.normal (envOf 18 [(0, AV.str s), (3, AV.sl (some (0, 0)) 17 (ACap.rel 0)), (4, AV.int .i64 8)], [AObj.row 9 1 [AV.str [123], AV.str [125], AV.str [40], AV.str [41], AV.str [44], AV.str [59], AV.str [58], AV.str [46], AV.str [61], AV.str [33, 61], AV.str [60], AV.str [60, 61], AV.str [62], AV.str [62, 61], AV.str [43], AV.str [45], AV.str [42]]]))) = (wpP Tryd.prog C24l 40 (.inl p24_l0) (q24 s 7) (postX C24l t24 x24 r24 K)) := by kernel_rfl
theorem v24b8 (s : List UInt8) (K : AExit → St → Prop) : (askB ([61] == s) (K AExit.ret (envOf 18 [(2, AV.bool true)], [])) (K AExit.normal (envOf 18 [(0, AV.str s), (3, AV.sl (some (0, 0)) 17 (ACap.rel 0)), (4, AV.int .i64 9)], [AObj.row 9 1 [AV.str [123], AV.str [125], AV.str [40], AV.str [41], AV.str [44], AV.str [59], AV.str [58], AV.str [46], AV.str [61], AV.str [33, 61], AV.str [60], AV.str [60, 61], AV.str [62], AV.str [62, 61], AV.str [43], AV.str [45], AV.str [42]]]))) = (wpP Tryd.prog C24l 40 (.inl p24_l0) (q24 s 8) (postX C24l t24 x24 r24 K)) := by kernel_rfl
theorem v24b9 (s : List UInt8) (K : AExit → St → Prop) : (askB ([33, 61] == s) (K AExit.ret (envOf 18 [(2, AV.bool true)], [])) (K AExit.normal (envOf 18 [(0, AV.str s), (3, AV.sl (some (0, 0)) 17 (ACap.rel 0)), (4, AV.int .i64 10)], [AObj.row 9 1 [AV.str [123], AV.str [125], AV.str [40], AV.str [41], AV.str [44], AV.str [59], AV.str [58], AV.str [46], AV.str [61], AV.str [33, 61], AV.str [60], AV.str [60, 61], AV.str [62], AV.str [62, 61], AV.str [43], AV.str [45], AV.str [42]]]))) = (wpP Tryd.prog C24l 40 (.inl p24_l0) (q24 s 9) (postX C24l t24 x24 r24 K)) := by kernel_rfl
theorem v24b10 (s : List UInt8) (K : AExit → St → Prop) : (askB ([60] == s) (K AExit.ret (envOf 18 [(2, AV.bool true)], [])) (K AExit.normal (envOf 18 [(0, AV.str s), (3, AV.sl (some (0, 0)) 17 (ACap.rel 0)), (4, AV.int .i64 11)], [AObj.row 9 1 [AV.str [123], AV.str [125], AV.str [40], AV.str [41], AV.str [44], AV.str [59], AV.str [58], AV.str [46], AV.str [61], AV.str [33, 61], AV.str [60], AV.str [60, 61], AV.str [62], AV.str [62, 61], AV.str [43], AV.str [45], AV.str [42]]]))) = (wpP Tryd.prog C24l 40 (.inl p24_l0) (q24 s 10) (postX C24l t24 x24 r24 K)) := by kernel_rfl
theorem v24b11 (s : List UInt8) (K : AExit → St → Prop) : (askB ([60, 61] == s) (K AExit.ret (envOf 18 [(2, AV.bool true)], [])) (K AExit.normal (envOf 18 [(0, AV.str s), (3, AV.sl (some (0, 0)) 17 (ACap.rel 0)), (4, AV.int .i64 12)], [AObj.row 9 1 [AV.str [123], AV.str [125], AV.str [40], AV.str [41], AV.str [44], AV.str [59], AV.str [58], AV.str [46], AV.str [61], AV.str [33, 61], AV.str [60], AV.str [60, 61], AV.str [62], AV.str [62, 61], AV.str [43], AV.str [45], AV.str [42]]]))) = (wpP Tryd.prog C24l 40 (.inl p24_l0) (q24 s 11) (postX C24l t24 x24 r24 K)) := by kernel_rfl
theorem v24b12 (s : List UInt8) (K : AExit → St → Prop) : (askB ([62] == s) (K AExit.ret (envOf 18 [(2, AV.bool true)], [])) (K AExit.normal (envOf 18 [(0, AV.str s), (3, AV.sl (some (0, 0)) 17 (ACap.rel 0)), (4, AV.int .i64 13)], [AObj.row 9 1 [AV.str [123], AV.str [125], AV.str [40], AV.str [41], AV.str [44], AV.str [59], AV.str [58], AV.str [46], AV.str [61], AV.str [33, 61], AV.str [60], AV.str [60, 61], AV.str [62], AV.str [62, 61], AV.str [43], AV.str [45], AV.str [42]]]))) = (wpP Tryd.prog C24l 40 (.inl p24_l0) (q24 s 12) (postX C24l t24 x24 r24 K)) := by kernel_rfl
theorem v24b13 (s : List UInt8) (K : AExit → St → Prop) : (askB ([62, 61] == s) (K AExit.ret (envOf 18 [(2, AV.bool true)], [])) (K AExit.normal (envOf 18 [(0, AV.str s), (3, AV.sl (some (0, 0)) 17 (ACap.rel 0)), (4, AV.int .i64 14)], [AObj.row 9 1 [AV.str [123], AV.str [125], AV.str [40], AV.str [41], AV.str [44], AV.str [59], AV.str [58], AV.str [46], AV.str [61], AV.str [33, 61], AV.str [60], AV.str [60, 61], AV.str [62], AV.str [62, 61], AV.str [43], AV.str [45], AV.str [42]]]))) = (wpP Tryd.prog C24l 40 (.inl p24_l0) (q24 s 13) (postX C24l t24 x24 r24 K)) := by kernel_rfl
theorem v24b14 (s : List UInt8) (K : AExit → St → Prop) : (askB ([43] == s) (K AExit.ret (envOf 18 [(2, AV.bool true)], [])) (K AExit.normal (envOf 18 [(0, AV.str s), (3, AV.sl (some (0, 0)) 17 (ACap.rel 0)), (4, AV.int .i64 15)], [AObj.row 9 1 [AV.str [123], AV.str [125], AV.str [40], AV.str [41], AV.str [44], AV.str [59], AV.str [58], AV.str [46], AV.str [61], AV.str [33, 61], AV.str [60], AV.str [60, 61], AV.str [62], AV.str [62, 61], AV.str [43], AV.str [45], AV.str [42]]]))) = (wpP Tryd.prog C24l 40 (.inl p24_l0) (q24 s 14) (postX C24l t24 x24 r24 K)) := by kernel_rfl
theorem v24b15 (s : List UInt8) (K : AExit → St → Prop) : (askB ([45] == s) (K AExit.ret (envOf 18 [(2, AV.bool true)], [])) (K AExit.normal (envOf 18 [(0, AV.str s), (3, AV.sl (some (0, 0)) 17 (ACap.rel 0)), (4, AV.int .i64 16)], [AObj.row 9 1 [AV.str [123], AV.str [125], AV.str [40], AV.str [41], AV.str [44], AV.str [59], AV.str [58], AV.str [46], AV.str [61], AV.str [33, 61], AV.str [60], AV.str [60, 61], AV.str [62], AV.str [62, 61], AV.str [43], AV.str [45], AV.str [42]]]))) = (wpP Tryd.prog C24l 40 (.inl p24_l0) (q24 s 15) (postX C24l t24 x24 r24 K)) := by kernel_rfl
theorem v24b16 (s : List UInt8) (K : AExit → St → Prop) : (askB ([42] == s) (K AExit.ret (envOf 18 [(2, AV.bool true)], [])) (K AExit.normal (envOf 18 [(0, AV.str s), (3, AV.sl (some (0, 0)) 17 (ACap.rel 0)), (4, AV.int .i64 17)], [AObj.row 9 1 [AV.str [123], AV.str [125], AV.str [40], AV.str [41], AV.str [44], AV.str [59], AV.str [58], AV.str [46], AV.str [61], AV.str [33, 61], AV.str [60], AV.str [60, 61], AV.str [62], AV.str [62, 61], AV.str [43], AV.str [45], AV.str [42]]]))) = (wpP Tryd.prog C24l 40 (.inl p24_l0) (q24 s 16) (postX C24l t24 x24 r24 K)) := by kernel_rfl
theorem v24b17 (s : List UInt8) (K : AExit → St → Prop) : (K (AExit.exit 0) (envOf 18 [], [])) = (wpP Tryd.prog C24l 40 (.inl p24_l0) (q24 s 17) (postX C24l t24 x24 r24 K)) := by kernel_rfl
theorem v24 (s : List UInt8) (R : AV → AHeap → Prop) : ((envOf 18 [(0, AV.str s), (3, AV.sl (some (0, 0)) 17 (ACap.rel 0)), (4, AV.int .i64 0)], [AObj.row 9 1 [AV.str [123], AV.str [125], AV.str [40], AV.str [41], AV.str [44], AV.str [59], AV.str [58], AV.str [46], AV.str [61], AV.str [33, 61], AV.str [60], AV.str [60, 61], AV.str [62], AV.str [62, 61], AV.str [43], AV.str [45], AV.str [42]]]) = (envOf 18 [(0, AV.str s), (3, AV.sl (some (0, 0)) 17 (ACap.rel 0)), (4, AV.int .i64 0)], [AObj.row 9 1 [AV.str [123], AV.str [125], AV.str [40], AV.str [41], AV.str [44], AV.str [59], AV.str [58], AV.str [46], AV.str [61], AV.str [33, 61], AV.str [60], AV.str [60, 61], AV.str [62], AV.str [62, 61], AV.str [43], AV.str [45], AV.str [42]]]) ∧ askB (symR s) (R (AV.bool true) []) (R (AV.bool false) [])) = (wpF Tryd.prog (C24 s) 40 p24 [.str s] [] R) := by kernel_rfl
theorem v45b (s : List UInt8) (i : Nat) (K : AExit → St → Prop) : (askB (decide ((↑i : Int) < (↑(List.length s) : Int))) (chkW (decide (i < List.length s)) (askB ((↑(UInt8.toNat (List.getD s i 0)) : Int) == 92) (K AExit.normal (envOf 27 [(0, AV.str s), (6, AV.int .i64 (IntKind.wrap .i64 (IntKind.wrap .i64 ((↑i : Int) + 1) + 1)))], [])) (chkW (decide (i < List.length s)) (askB ((↑(UInt8.toNat (List.getD s i 0)) : Int) == 34) (K AExit.ret (envOf 27 [(4, AV.int .i64 (IntKind.wrap .i64 ((↑i : Int) + 1))), (5, AV.bool true)], [])) (K AExit.normal (envOf 27 [(0, AV.str s), (6, AV.int .i64 (IntKind.wrap .i64 ((↑i : Int) + 1)))], [])))))) (K (AExit.exit 0) (envOf 27 [], []))) = (wpP Tryd.prog C45l 40 (.inl p45_l0) (q45 s i) (postX C45l t45 x45 r45 K)) := by kernel_rfl
theorem v45 (s : List UInt8) (i : Int) (R : AV → AHeap → Prop) : (∃ (i_1 : Nat), (envOf 27 [(0, AV.str s), (6, AV.int .i64 (IntKind.wrap .i64 (i + 1)))], ([] : AHeap)) = (envOf 27 [(0, AV.str s), (6, AV.int .i64 (↑i_1 : Int))], []) ∧ i_1 ≤ List.length s + 2 ∧ askB (qd (List.drop i_1 s) i_1 == 0) (R (AV.tup [AV.int .i64 0, AV.bool false]) []) (R (AV.tup [AV.int .i64 (↑(qd (List.drop i_1 s) i_1) : Int), AV.bool true]) [])) = (wpF Tryd.prog (C45 s) 40 p45 [.str s, .int .i64 i] [] R) := by kernel_rfl
theorem v20i (s : List UInt8) (i : Nat) (K : AExit → St → Prop) : (askB (decide ((↑i : Int) < (↑(List.length s) : Int))) (chkW (decide (i < List.length s)) (askB ((↑(UInt8.toNat (List.getD s i 0)) : Int) != 10) (K AExit.normal (envOf 70 [(0, AV.str s), (1, AV.int .i64 (IntKind.wrap .i64 ((↑i : Int) + 1)))], [])) (K (AExit.exit 3) (envOf 70 [(0, AV.str s), (1, AV.int .i64 (↑i : Int))], [])))) (K (AExit.exit 3) (envOf 70 [(0, AV.str s), (1, AV.int .i64 (↑i : Int))], []))) = (wpP Tryd.prog C20i 40 (.inl p20_l0) (q20 s i) (postX C20i t20 t20 t20 K)) := by kernel_rfl
theorem v20b (s : List UInt8) (i : Nat) (K : AExit → St → Prop) : (askB (decide ((↑i : Int) < (↑(List.length s) : Int))) (chkW (decide (i < List.length s)) (askB ((↑(UInt8.toNat (List.getD s i 0)) : Int) == 32) (K AExit.normal (envOf 70 [(0, AV.str s), (1, AV.int .i64 (IntKind.wrap .i64 ((↑i : Int) + 1)))], [])) (askB ((↑(UInt8.toNat (List.getD s i 0)) : Int) == 9) (K AExit.normal (envOf 70 [(0, AV.str s), (1, AV.int .i64 (IntKind.wrap .i64 ((↑i : Int) + 1)))], [])) (askB ((↑(UInt8.toNat (List.getD s i 0)) : Int) == 10) (K AExit.normal (envOf 70 [(0, AV.str s), (1, AV.int .i64 (IntKind.wrap .i64 ((↑i : Int) + 1)))], [])) (askB ((↑(UInt8.toNat (List.getD s i 0)) : Int) == 13) (K AExit.normal (envOf 70 [(0, AV.str s), (1, AV.int .i64 (IntKind.wrap .i64 ((↑i : Int) + 1)))], [])) (askB ((↑(UInt8.toNat (List.getD s i 0)) : Int) == 47) (askB (decide (IntKind.wrap .i64 ((↑i : Int) + 1) < (↑(List.length s) : Int))) (chkW (decide (0 ≤ IntKind.wrap .i64 ((↑i : Int) + 1))) (chkW (decide (Int.toNat (IntKind.wrap .i64 ((↑i : Int) + 1)) < List.length s)) (askB ((↑(UInt8.toNat (List.getD s (Int.toNat (IntKind.wrap .i64 ((↑i : Int) + 1))) 0)) : Int) == 47) (∃ (i_1 : Nat), (envOf 70 [(0, AV.str s), (1, AV.int .i64 (↑i : Int))], ([] : AHeap)) = (envOf 70 [(0, AV.str s), (1, AV.int .i64 (↑i_1 : Int))], []) ∧ i_1 ≤ List.length s ∧ K AExit.normal (envOf 70 [(0, AV.str s), (1, AV.int .i64 (↑(i_1 + cmF (List.drop i_1 s)) : Int))], [])) (K AExit.ret (envOf 70 [(4, AV.int .i64 (↑i : Int))], []))))) (K AExit.ret (envOf 70 [(4, AV.int .i64 (↑i : Int))], []))) (K AExit.ret (envOf 70 [(4, AV.int .i64 (↑i : Int))], [])))))))) (K (AExit.exit 0) (envOf 70 [(1, AV.int .i64 (↑i : Int))], []))) = (wpP Tryd.prog (C20l s) 40 (.inl p20_l1) (q20 s i) (postX (C20l s) t20 x20 r20 K)) := by kernel_rfl
theorem v20 (s : List UInt8) (i : Int) (R : AV → AHeap → Prop) : (askB (decide (i < 0)) (R (AV.int .i64 i) []) (askB (decide (i > (↑(List.length s) : Int))) (R (AV.int .i64 i) []) (∃ (i_1 : Nat), (envOf 70 [(0, AV.str s), (1, AV.int .i64 i)], ([] : AHeap)) = (envOf 70 [(0, AV.str s), (1, AV.int .i64 (↑i_1 : Int))], []) ∧ i_1 ≤ List.length s ∧ ∀ (e : Bool), askB e (R (AV.int .i64 (↑(i_1 + blk (List.drop i_1 s) false) : Int)) []) (R (AV.int .i64 (↑(i_1 + blk (List.drop i_1 s) false) : Int)) [])))) = (wpF Tryd.prog (C20 s) 40 p20 [.str s, .int .i64 i] [] R) := by kernel_rfl
theorem v55a (s : List UInt8) (sm : Bool) (i fr : Nat) (K : AExit → St → Prop) : (askB (decide ((↑i : Int) < (↑(List.length s) : Int))) (chkW (decide (i < List.length s)) (∃ (b : Bool), sIsD [AV.int .u8 (↑(UInt8.toNat (List.getD s i 0)) : Int)] = some (AV.bool b) ∧ askB b (askB sm (K AExit.normal (envOf 95 [(0, AV.str s), (3, AV.bool true), (4, AV.int .i64 (IntKind.wrap .i64 ((↑i : Int) + 1))), (5, AV.int .i64 (↑fr : Int))], [])) (chkW (decide (i < List.length s)) (askB ((↑(UInt8.toNat (List.getD s i 0)) : Int) != 48) (K AExit.normal (envOf 95 [(0, AV.str s), (3, AV.bool true), (4, AV.int .i64 (IntKind.wrap .i64 ((↑i : Int) + 1))), (5, AV.int .i64 (↑fr : Int))], [])) (K AExit.normal (envOf 95 [(0, AV.str s), (3, AV.bool false), (4, AV.int .i64 (IntKind.wrap .i64 ((↑i : Int) + 1))), (5, AV.int .i64 (↑fr : Int))], []))))) (K (AExit.exit 0) (envOf 95 [(0, AV.str s), (3, AV.bool sm), (4, AV.int .i64 (↑i : Int)), (5, AV.int .i64 (↑fr : Int))], [])))) (K (AExit.exit 0) (envOf 95 [(0, AV.str s), (3, AV.bool sm), (4, AV.int .i64 (↑i : Int)), (5, AV.int .i64 (↑fr : Int))], []))) = (wpP Tryd.prog C55l 40 (.inl p55_l1) (q55 s sm i fr) (postX C55l t55 t55 t55 K)) := by kernel_rfl
theorem v55b (s : List UInt8) (sm : Bool) (k : Nat) (K : AExit → St → Prop) : (askB (decide ((↑k : Int) < (↑(List.length s) : Int))) (chkW (decide (k < List.length s)) (∃ (b : Bool), sIsD [AV.int .u8 (↑(UInt8.toNat (List.getD s k 0)) : Int)] = some (AV.bool b) ∧ askB b (askB sm (K AExit.normal (envOf 95 [(0, AV.str s), (3, AV.bool true), (6, AV.int .i64 (IntKind.wrap .i64 ((↑k : Int) + 1)))], [])) (chkW (decide (k < List.length s)) (askB ((↑(UInt8.toNat (List.getD s k 0)) : Int) != 48) (K AExit.normal (envOf 95 [(0, AV.str s), (3, AV.bool true), (6, AV.int .i64 (IntKind.wrap .i64 ((↑k : Int) + 1)))], [])) (K AExit.normal (envOf 95 [(0, AV.str s), (3, AV.bool false), (6, AV.int .i64 (IntKind.wrap .i64 ((↑k : Int) + 1)))], []))))) (K AExit.ret (envOf 95 [(2, AV.bool false)], [])))) (K (AExit.exit 2) (envOf 95 [(0, AV.str s), (3, AV.bool sm)], []))) = (wpP Tryd.prog C55l 40 (.inl p55_l0) (q55b s sm k) (postX C55l t55b x55b r55b K)) := by kernel_rfl
theorem v55 (s : List UInt8) (R : AV → AHeap → Prop) : (askB (decide (0 < (↑(List.length s) : Int))) (chkW (decide (0 < List.length s)) (askB ((↑(UInt8.toNat (List.getD s 0 0)) : Int) == 45) (∃ (fr : Nat), (envOf 95 [(0, AV.str s), (3, AV.bool false), (4, AV.int .i64 1), (5, AV.int .i64 1)], ([] : AHeap)) = (envOf 95 [(0, AV.str s), (3, AV.bool false), (4, AV.int .i64 (↑fr : Int)), (5, AV.int .i64 (↑fr : Int))], []) ∧ fr ≤ List.length s ∧ askB ((↑(fr + runD (List.drop fr s)) : Int) == (↑fr : Int)) (R (AV.bool false) []) (chkW (decide (fr < List.length s)) (askB ((↑(UInt8.toNat (List.getD s fr 0)) : Int) == 48) (askB (decide ((↑(fr + runD (List.drop fr s)) : Int) > IntKind.wrap .i64 ((↑fr : Int) + 1))) (R (AV.bool false) []) (askB (decide ((↑(fr + runD (List.drop fr s)) : Int) < (↑(List.length s) : Int))) (chkW (decide (fr + runD (List.drop fr s) < List.length s)) (askB ((↑(UInt8.toNat (List.getD s (fr + runD (List.drop fr s)) 0)) : Int) != 46) (R (AV.bool false) []) (askB (IntKind.wrap .i64 ((↑(fr + runD (List.drop fr s)) : Int) + 1) == (↑(List.length s) : Int)) (R (AV.bool false) []) (∃ (k : Nat), ∃ (sm : Bool), (envOf 95 [(0, AV.str s), (3, AV.bool (nzD (List.drop fr s))), (6, AV.int .i64 (IntKind.wrap .i64 ((↑(fr + runD (List.drop fr s)) : Int) + 1)))], ([] : AHeap)) = (envOf 95 [(0, AV.str s), (3, AV.bool sm), (6, AV.int .i64 (↑k : Int))], []) ∧ k ≤ List.length s ∧ askB (k + runD (List.drop k s) == List.length s) (askB (sm || nzD (List.drop k s)) (R (AV.bool true) []) (chkW (decide (0 < List.length s)) (askB ((↑(UInt8.toNat (List.getD s 0 0)) : Int) != 45) (R (AV.bool true) []) (R (AV.bool false) [])))) (R (AV.bool false) []))))) (askB (nzD (List.drop fr s)) (R (AV.bool true) []) (chkW (decide (0 < List.length s)) (askB ((↑(UInt8.toNat (List.getD s 0 0)) : Int) != 45) (R (AV.bool true) []) (R (AV.bool false) [])))))) (askB (decide ((↑(fr + runD (List.drop fr s)) : Int) < (↑(List.length s) : Int))) (chkW (decide (fr + runD (List.drop fr s) < List.length s)) (askB ((↑(UInt8.toNat (List.getD s (fr + runD (List.drop fr s)) 0)) : Int) != 46) (R (AV.bool false) []) (askB (IntKind.wrap .i64 ((↑(fr + runD (List.drop fr s)) : Int) + 1) == (↑(List.length s) : Int)) (R (AV.bool false) []) (∃ (k : Nat), ∃ (sm : Bool), (envOf 95 [(0, AV.str s), (3, AV.bool (nzD (List.drop fr s))), (6, AV.int .i64 (IntKind.wrap .i64 ((↑(fr + runD (List.drop fr s)) : Int) + 1)))], ([] : AHeap)) = (envOf 95 [(0, AV.str s), (3, AV.bool sm), (6, AV.int .i64 (↑k : Int))], []) ∧ k ≤ List.length s ∧ askB (k + runD (List.drop k s) == List.length s) (askB (sm || nzD (List.drop k s)) (R (AV.bool true) []) (chkW (decide (0 < List.length s)) (askB ((↑(UInt8.toNat (List.getD s 0 0)) : Int) != 45) (R (AV.bool true) []) (R (AV.bool false) [])))) (R (AV.bool false) []))))) (askB (nzD (List.drop fr s)) (R (AV.bool true) []) (chkW (decide (0 < List.length s)) (askB ((↑(UInt8.toNat (List.getD s 0 0)) : Int) != 45) (R (AV.bool true) []) (R (AV.bool false) [])))))))) (∃ (fr : Nat), (envOf 95 [(0, AV.str s), (3, AV.bool false), (4, AV.int .i64 0), (5, AV.int .i64 0)], ([] : AHeap)) = (envOf 95 [(0, AV.str s), (3, AV.bool false), (4, AV.int .i64 (↑fr : Int)), (5, AV.int .i64 (↑fr : Int))], []) ∧ fr ≤ List.length s ∧ askB ((↑(fr + runD (List.drop fr s)) : Int) == (↑fr : Int)) (R (AV.bool false) []) (chkW (decide (fr < List.length s)) (askB ((↑(UInt8.toNat (List.getD s fr 0)) : Int) == 48) (askB (decide ((↑(fr + runD (List.drop fr s)) : Int) > IntKind.wrap .i64 ((↑fr : Int) + 1))) (R (AV.bool false) []) (askB (decide ((↑(fr + runD (List.drop fr s)) : Int) < (↑(List.length s) : Int))) (chkW (decide (fr + runD (List.drop fr s) < List.length s)) (askB ((↑(UInt8.toNat (List.getD s (fr + runD (List.drop fr s)) 0)) : Int) != 46) (R (AV.bool false) []) (askB (IntKind.wrap .i64 ((↑(fr + runD (List.drop fr s)) : Int) + 1) == (↑(List.length s) : Int)) (R (AV.bool false) []) (∃ (k : Nat), ∃ (sm : Bool), (envOf 95 [(0, AV.str s), (3, AV.bool (nzD (List.drop fr s))), (6, AV.int .i64 (IntKind.wrap .i64 ((↑(fr + runD (List.drop fr s)) : Int) + 1)))], ([] : AHeap)) = (envOf 95 [(0, AV.str s), (3, AV.bool sm), (6, AV.int .i64 (↑k : Int))], []) ∧ k ≤ List.length s ∧ askB (k + runD (List.drop k s) == List.length s) (askB (sm || nzD (List.drop k s)) (R (AV.bool true) []) (chkW (decide (0 < List.length s)) (askB ((↑(UInt8.toNat (List.getD s 0 0)) : Int) != 45) (R (AV.bool true) []) (R (AV.bool false) [])))) (R (AV.bool false) []))))) (askB (nzD (List.drop fr s)) (R (AV.bool true) []) (chkW (decide (0 < List.length s)) (askB ((↑(UInt8.toNat (List.getD s 0 0)) : Int) != 45) (R (AV.bool true) []) (R (AV.bool false) [])))))) (askB (decide ((↑(fr + runD (List.drop fr s)) : Int) < (↑(List.length s) : Int))) (chkW (decide (fr + runD (List.drop fr s) < List.length s)) (askB ((↑(UInt8.toNat (List.getD s (fr + runD (List.drop fr s)) 0)) : Int) != 46) (R (AV.bool false) []) (askB (IntKind.wrap .i64 ((↑(fr + runD (List.drop fr s)) : Int) + 1) == (↑(List.length s) : Int)) (R (AV.bool false) []) (∃ (k : Nat), ∃ (sm : Bool), (envOf 95 [(0, AV.str s), (3, AV.bool (nzD (List.drop fr s))), (6, AV.int .i64 (IntKind.wrap .i64 ((↑(fr + runD (List.drop fr s)) : Int) + 1)))], ([] : AHeap)) = (envOf 95 [(0, AV.str s), (3, AV.bool sm), (6, AV.int .i64 (↑k : Int))], []) ∧ k ≤ List.length s ∧ askB (k + runD (List.drop k s) == List.length s) (askB (sm || nzD (List.drop k s)) (R (AV.bool true) []) (chkW (decide (0 < List.length s)) (askB ((↑(UInt8.toNat (List.getD s 0 0)) : Int) != 45) (R (AV.bool true) []) (R (AV.bool false) [])))) (R (AV.bool false) []))))) (askB (nzD (List.drop fr s)) (R (AV.bool true) []) (chkW (decide (0 < List.length s)) (askB ((↑(UInt8.toNat (List.getD s 0 0)) : Int) != 45) (R (AV.bool true) []) (R (AV.bool false) [])))))))))) (∃ (fr : Nat), (envOf 95 [(0, AV.str s), (3, AV.bool false), (4, AV.int .i64 0), (5, AV.int .i64 0)], ([] : AHeap)) = (envOf 95 [(0, AV.str s), (3, AV.bool false), (4, AV.int .i64 (↑fr : Int)), (5, AV.int .i64 (↑fr : Int))], []) ∧ fr ≤ List.length s ∧ askB ((↑(fr + runD (List.drop fr s)) : Int) == (↑fr : Int)) (R (AV.bool false) []) (chkW (decide (fr < List.length s)) (askB ((↑(UInt8.toNat (List.getD s fr 0)) : Int) == 48) (askB (decide ((↑(fr + runD (List.drop fr s)) : Int) > IntKind.wrap .i64 ((↑fr : Int) + 1))) (R (AV.bool false) []) (askB (decide ((↑(fr + runD (List.drop fr s)) : Int) < (↑(List.length s) : Int))) (chkW (decide (fr + runD (List.drop fr s) < List.length s)) (askB ((↑(UInt8.toNat (List.getD s (fr + runD (List.drop fr s)) 0)) : Int) != 46) (R (AV.bool false) []) (askB (IntKind.wrap .i64 ((↑(fr + runD (List.drop fr s)) : Int) + 1) == (↑(List.length s) : Int)) (R (AV.bool false) []) (∃ (k : Nat), ∃ (sm : Bool), (envOf 95 [(0, AV.str s), (3, AV.bool (nzD (List.drop fr s))), (6, AV.int .i64 (IntKind.wrap .i64 ((↑(fr + runD (List.drop fr s)) : Int) + 1)))], ([] : AHeap)) = (envOf 95 [(0, AV.str s), (3, AV.bool sm), (6, AV.int .i64 (↑k : Int))], []) ∧ k ≤ List.length s ∧ askB (k + runD (List.drop k s) == List.length s) (askB (sm || nzD (List.drop k s)) (R (AV.bool true) []) (chkW (decide (0 < List.length s)) (askB ((↑(UInt8.toNat (List.getD s 0 0)) : Int) != 45) (R (AV.bool true) []) (R (AV.bool false) [])))) (R (AV.bool false) []))))) (askB (nzD (List.drop fr s)) (R (AV.bool true) []) (chkW (decide (0 < List.length s)) (askB ((↑(UInt8.toNat (List.getD s 0 0)) : Int) != 45) (R (AV.bool true) []) (R (AV.bool false) [])))))) (askB (decide ((↑(fr + runD (List.drop fr s)) : Int) < (↑(List.length s) : Int))) (chkW (decide (fr + runD (List.drop fr s) < List.length s)) (askB ((↑(UInt8.toNat (List.getD s (fr + runD (List.drop fr s)) 0)) : Int) != 46) (R (AV.bool false) []) (askB (IntKind.wrap .i64 ((↑(fr + runD (List.drop fr s)) : Int) + 1) == (↑(List.length s) : Int)) (R (AV.bool false) []) (∃ (k : Nat), ∃ (sm : Bool), (envOf 95 [(0, AV.str s), (3, AV.bool (nzD (List.drop fr s))), (6, AV.int .i64 (IntKind.wrap .i64 ((↑(fr + runD (List.drop fr s)) : Int) + 1)))], ([] : AHeap)) = (envOf 95 [(0, AV.str s), (3, AV.bool sm), (6, AV.int .i64 (↑k : Int))], []) ∧ k ≤ List.length s ∧ askB (k + runD (List.drop k s) == List.length s) (askB (sm || nzD (List.drop k s)) (R (AV.bool true) []) (chkW (decide (0 < List.length s)) (askB ((↑(UInt8.toNat (List.getD s 0 0)) : Int) != 45) (R (AV.bool true) []) (R (AV.bool false) [])))) (R (AV.bool false) []))))) (askB (nzD (List.drop fr s)) (R (AV.bool true) []) (chkW (decide (0 < List.length s)) (askB ((↑(UInt8.toNat (List.getD s 0 0)) : Int) != 45) (R (AV.bool true) []) (R (AV.bool false) []))))))))) = (wpF Tryd.prog (C55 s) 80 p55 [.str s] [] R) := by kernel_rfl

/- The document's small functions over words: contracts. -/

theorem letter40_ok : QuietOK Tryd.prog 40 fun vs _ => sLet vs := quiet_plain ht40 fun args v h => by
  unfold sLet at h
  split at h
  · rename_i z
    split at h
    · rename_i hs
      cases h
      refine ⟨rfl, rfl, ?_⟩
      have hS : (tbS Q []).OK Tryd.prog := tbS_ok quietText (by simp)
      obtain ⟨u, h', rfl, hsem⟩ := sem_vc mixed (C := tbC Q [] (fun _ => false) kdI) hS (tbS_q _ _) (tbW_ok rfl) ht40 c40 (no_parts rfl) (v40 z fun u _ => u = .bool (letterF z.toNat.toUInt8)) (by
        have hn : (z.toNat.toUInt8).toNat = z.toNat := by simp; omega
        repeat' (refine askI (fun h => ?_) fun h => ?_)
        all_goals
          refine congrArg AV.bool ?_
          simp only [decide_eq_true_eq, decide_eq_false_iff_not, beq_iff_eq, beq_eq_false_iff_ne, ne_eq] at *
          unfold letterF
          rw [hn]
          simp
          omega)
      exact ⟨h', hsem⟩
    · cases h
  · cases h
theorem isD42_ok : QuietOK Tryd.prog 42 fun vs _ => sIsD vs := quiet_plain ht42 fun args v h => by
  unfold sIsD at h
  split at h
  · rename_i z
    split at h
    · rename_i hs
      cases h
      refine ⟨rfl, rfl, ?_⟩
      have hS : (tbS Q []).OK Tryd.prog := tbS_ok quietText (by simp)
      obtain ⟨u, h', rfl, hsem⟩ := sem_vc mixed (C := tbC Q [] (fun _ => false) kdI) hS (tbS_q _ _) (tbW_ok rfl) ht42 c42 (no_parts rfl) (v42 z fun u _ => u = .bool (isD z.toNat.toUInt8)) (by
        have hn : (z.toNat.toUInt8).toNat = z.toNat := by simp; omega
        refine askI (fun h2 => askI (fun h3 => ?_) fun h3 => ?_) fun h2 => ?_
        all_goals
          refine congrArg AV.bool ?_
          simp only [decide_eq_true_eq, decide_eq_false_iff_not] at *
          unfold isD
          rw [hn]
          simp
          omega)
      exact ⟨h', hsem⟩
    · cases h
  · cases h
theorem loop41 (s : List UInt8) (hs : s.length ≤ 1099511627776) (i0 : Nat) (hi0 : i0 ≤ s.length) : W Tryd.prog (tbS Q tb41) 0 (.inl (.loop p41_l0)) (q41 s i0) (fun e st => e = .exit 0 ∧ st = (envOf 24 [(1, .int .i64 ((i0 + runF (s.drop i0) : Nat) : Int))], [])) := by
  have hcw : CwOK (tbS Q tb41) (tbW Q tb41) := tbW_ok rfl
  have main := W_roundsG (P := Tryd.prog) (S := (tbS Q tb41)) (b0 := 0) (a := p41_l0) (fun i : Nat => q41 s i)
    (fun i => i ≤ s.length ∧ i + runF (s.drop i) = i0 + runF (s.drop i0)) (fun i => s.length - i) (fun _ => fun e st => e = .exit 0 ∧ st = (envOf 24 [(1, .int .i64 ((i0 + runF (s.drop i0) : Nat) : Int))], [])) ?_ i0 ⟨hi0, rfl⟩
  · exact main
  · rintro i ⟨h1, h2⟩
    refine W_wpX (C := C41l) hcw (by intro x hx; cases hx) (n := 40) (tn := t41) (tx := x41) (tr := x41) ((v41b s i _).mp ?_)
    have w1 : IntKind.wrap .i64 ((i : Int) + 1) = ((i + 1 : Nat) : Int) := by rw [IntKind.wrap_i64]; omega
    rw [w1]
    rcases Nat.lt_or_ge i s.length with hi | hi
    · have go : lod (s.getD i 0) = true → ∃ s' : Nat, q41 s ((i + 1 : Nat) : Int) = q41 s s' ∧ (s' ≤ s.length ∧ s' + runF (s.drop s') = i0 + runF (s.drop i0)) ∧ s.length - s' < s.length - i ∧ ∀ e st, (e = AExit.exit 0 ∧ st = ((envOf 24 [(1, .int .i64 ((i0 + runF (s.drop i0) : Nat) : Int))], []) : St)) → (e = AExit.exit 0 ∧ st = ((envOf 24 [(1, .int .i64 ((i0 + runF (s.drop i0) : Nat) : Int))], []) : St)) := fun hl => by
        rw [run_yes hi hl] at h2
        exact ⟨i + 1, rfl, ⟨hi, by omega⟩, by omega, fun _ _ h => h⟩
      refine askT (decide_eq_true (by omega)) (chkI (decide_eq_true hi) ⟨_, letter_at _, askI (fun g1 => go (by unfold lod; rw [g1]; rfl)) fun g1 => chkI (decide_eq_true hi) ⟨_, isD_at _, askI (fun g2 => go (by unfold lod; rw [g2, Bool.or_true])) fun g2 => ?_⟩⟩)
      rw [run_no hi (by unfold lod; rw [g1, g2]; rfl)] at h2
      exact ⟨rfl, by rw [← h2]; rfl⟩
    · rw [List.drop_eq_nil_of_le hi] at h2
      have h2' : i = i0 + runF (s.drop i0) := h2
      exact askF (decide_eq_false (by omega)) ⟨rfl, by rw [← h2']⟩
theorem nameAt_ok : QuietOK Tryd.prog 41 fun vs _ => sNameAt vs := quiet_plain ht41 fun args v h => by
  unfold sNameAt at h
  split at h
  · rename_i s z
    split at h
    · rename_i hs
      cases h
      refine ⟨rfl, rfl, ?_⟩
      have hS : (tbS Q tb41).OK Tryd.prog := tbS_ok quietText (by
        intro x hx
        simp only [tb41, List.mem_cons, List.not_mem_nil, or_false] at hx
        rcases hx with rfl | rfl
        · exact letter40_ok
        · exact isD42_ok)
      obtain ⟨u, h', rfl, hsem⟩ := sem_vc mixed (C := C41 s) hS (tbS_q _ _) (tbW_ok rfl) ht41 c41 (one_part rfl (part_loop (id := 1) rfl rfl fun st K hT => by
        obtain ⟨i, rfl, hi, hk⟩ := hT
        refine W_mono (loop41 s hs.2 i hi) fun e st he => ?_
        obtain ⟨rfl, rfl⟩ := he
        exact hk)) (v41 s z fun u _ => u = .int .i64 ((z.toNat + runF (s.drop z.toNat) : Nat) : Int)) (by
        obtain ⟨⟨h0, h1⟩, h2⟩ := hs
        obtain ⟨i, rfl⟩ : ∃ i : Nat, z = i := ⟨z.toNat, by omega⟩
        exact ⟨i, rfl, by omega, rfl⟩)
      exact ⟨h', hsem⟩
    · cases h
  · cases h
def K22 (s : List UInt8) (e : AExit) (st : St) : Prop := (e, st) = if runF s == s.length then (AExit.exit 0, (envOf 35 [], [])) else (AExit.ret, (envOf 35 [(2, .bool false)], []))
theorem loop22 (s : List UInt8) (hs : s.length ≤ 1099511627776) : W Tryd.prog (tbS Q tb41) 0 (.inl (.loop p22_l0)) (q22 s 0) (K22 s) := by
  have hcw : CwOK (tbS Q tb41) (tbW Q tb41) := tbW_ok rfl
  have main := W_roundsG (P := Tryd.prog) (S := (tbS Q tb41)) (b0 := 0) (a := p22_l0) (fun i : Nat => q22 s i)
    (fun i => i ≤ s.length ∧ i + runF (s.drop i) = runF s) (fun i => s.length - i) (fun _ => K22 s) ?_ 0 ⟨Nat.zero_le _, by rw [List.drop_zero]; omega⟩
  · exact main
  · rintro i ⟨h1, h2⟩
    refine W_wpX (C := C22l) hcw (by intro x hx; cases hx) (n := 40) (tn := t22) (tx := x22) (tr := r22) ((v22b s i _).mp ?_)
    have w1 : IntKind.wrap .i64 ((i : Int) + 1) = ((i + 1 : Nat) : Int) := by rw [IntKind.wrap_i64]; omega
    rw [w1]
    rcases Nat.lt_or_ge i s.length with hi | hi
    · have go : lod (s.getD i 0) = true → ∃ s' : Nat, q22 s ((i + 1 : Nat) : Int) = q22 s s' ∧ (s' ≤ s.length ∧ s' + runF (s.drop s') = runF s) ∧ s.length - s' < s.length - i ∧ ∀ e st, K22 s e st → K22 s e st := fun hl => by
        rw [run_yes hi hl] at h2
        exact ⟨i + 1, rfl, ⟨hi, by omega⟩, by omega, fun _ _ h => h⟩
      refine askT (decide_eq_true (by omega)) (chkI (decide_eq_true hi) ⟨_, letter_at _, askI (fun g1 => go (by unfold lod; rw [g1]; rfl)) fun g1 => chkI (decide_eq_true hi) ⟨_, isD_at _, askI (fun g2 => go (by unfold lod; rw [g2, Bool.or_true])) fun g2 => ?_⟩⟩)
      rw [run_no hi (by unfold lod; rw [g1, g2]; rfl)] at h2
      have e : (runF s == s.length) = false := by rw [beq_eq_false_iff_ne]; omega
      show K22 s _ _
      unfold K22; rw [e]; rfl
    · rw [List.drop_eq_nil_of_le hi] at h2
      have h2' : i = runF s := h2
      have e : (runF s == s.length) = true := by rw [beq_iff_eq]; omega
      refine askF (decide_eq_false (by omega)) ?_
      show K22 s _ _
      unfold K22; rw [e]; rfl
theorem refName_ok : QuietOK Tryd.prog 22 fun vs _ => sName vs := quiet_plain ht22 fun args v h => by
  unfold sName at h
  split at h
  · rename_i s
    split at h
    · rename_i hs
      cases h
      refine ⟨rfl, rfl, ?_⟩
      have hS : (tbS Q tb41).OK Tryd.prog := tbS_ok quietText (by
        intro x hx
        simp only [tb41, List.mem_cons, List.not_mem_nil, or_false] at hx
        rcases hx with rfl | rfl
        · exact letter40_ok
        · exact isD42_ok)
      obtain ⟨u, h', rfl, hsem⟩ := sem_vc mixed (C := C22 s) hS (tbS_q _ _) (tbW_ok rfl) ht22 c22 (one_part rfl (part_loop (id := 4) rfl rfl fun st K hT => by
        obtain ⟨rfl, hk⟩ := hT
        refine W_mono (loop22 s hs) fun e st he => ?_
        unfold K22 at he
        cases hE : (runF s == s.length) with
        | true => rw [hE] at he hk; cases he; exact hk
        | false => rw [hE] at he hk; cases he; exact hk)) (v22 s fun u _ => u = .bool (nameF s)) (by
        refine askI (fun h1 => ?_) fun h1 => ?_
        · unfold nameF; rw [h1]; rfl
        · have hp := len_pos (s := s) (by rw [h1]; rfl)
          refine askI (fun h2 => ?_) fun h2 => ?_
          · have h2' : decide (s.length ≤ 32) = false := by simp only [decide_eq_true_eq] at h2; rw [decide_eq_false_iff_not]; omega
            unfold nameF; rw [h2', Bool.and_false, Bool.false_and, Bool.false_and]
          · have h2' : decide (s.length ≤ 32) = true := by simp only [decide_eq_false_iff_not] at h2; rw [decide_eq_true_eq]; omega
            refine chkI (decide_eq_true hp) ⟨_, letter_at _, askI (fun h3 => ⟨rfl, ?_⟩) fun h3 => ?_⟩
            · have e : nameF s = (runF s == s.length) := by unfold nameF; rw [h1, h2', h3]; rfl
              rw [e]
              cases runF s == s.length <;> rfl
            · unfold nameF; rw [h3, Bool.and_false, Bool.false_and])
      exact ⟨h', hsem⟩
    · cases h
  · cases h
def K24 (s : List UInt8) (e : AExit) (st : St) : Prop := (e, st) = if symR s then (AExit.ret, (envOf 18 [(2, .bool true)], [])) else (AExit.exit 0, (envOf 18 [], []))
theorem symR_yes {s : List UInt8} (k : Nat) (hk : k < symL.length) (h : (symL.getD k [] == s) = true) : symR s = true := by
  unfold symR
  rw [List.any_eq_true]
  refine ⟨symL.getD k [], ?_, h⟩
  rw [List.getD_eq_getElem?_getD, List.getElem?_eq_getElem hk]
  exact List.getElem_mem hk
theorem symR_no {s : List UInt8} (h : ∀ j, j < 17 → (symL.getD j [] == s) = false) : symR s = false := by
  unfold symR
  rw [List.any_eq_false]
  intro x hx
  obtain ⟨j, hj, rfl⟩ := List.getElem_of_mem hx
  have := h j hj
  rw [List.getD_eq_getElem?_getD, List.getElem?_eq_getElem hj] at this
  rw [Option.getD_some] at this
  rw [this]; decide
theorem loop24 (s : List UInt8) : W Tryd.prog (tbS Q []) 0 (.inl (.loop p24_l0)) (q24 s 0) (K24 s) := by
  have hcw : CwOK (tbS Q []) (tbW Q []) := tbW_ok rfl
  have main := W_roundsG (P := Tryd.prog) (S := tbS Q []) (b0 := 0) (a := p24_l0) (fun i : Nat => q24 s i)
    (fun i => i ≤ 17 ∧ ∀ j, j < i → (symL.getD j [] == s) = false) (fun i => 17 - i) (fun _ => K24 s) ?_ 0 ⟨by omega, fun j hj => absurd hj (by omega)⟩
  · exact main
  · rintro i ⟨h1, h2⟩
    have hn : ∀ k : Nat, k < 17 → i = k → (symL.getD k [] == s) = false → ∃ s' : Nat, q24 s ((k + 1 : Nat) : Int) = q24 s s' ∧ (s' ≤ 17 ∧ ∀ j, j < s' → (symL.getD j [] == s) = false) ∧ 17 - s' < 17 - i ∧ ∀ e st, K24 s e st → K24 s e st := by
      rintro k hk rfl hp
      refine ⟨i + 1, rfl, ⟨by omega, fun j hj => ?_⟩, by omega, fun _ _ h => h⟩
      rcases Nat.lt_or_ge j i with hj' | hj'
      · exact h2 j hj'
      · have : j = i := by omega
        rw [this]; exact hp
    have hy : ∀ k : Nat, k < symL.length → (symL.getD k [] == s) = true → K24 s .ret (envOf 18 [(2, .bool true)], []) := fun k hk h => by
      unfold K24; rw [symR_yes k hk h]; rfl
    have hc : i = 0 ∨ i = 1 ∨ i = 2 ∨ i = 3 ∨ i = 4 ∨ i = 5 ∨ i = 6 ∨ i = 7 ∨ i = 8 ∨ i = 9 ∨ i = 10 ∨ i = 11 ∨ i = 12 ∨ i = 13 ∨ i = 14 ∨ i = 15 ∨ i = 16 ∨ i = 17 := by omega
    rcases hc with rfl | rfl | rfl | rfl | rfl | rfl | rfl | rfl | rfl | rfl | rfl | rfl | rfl | rfl | rfl | rfl | rfl | rfl
    · refine W_wpX (C := C24l) hcw (by intro x hx; cases hx) (n := 40) (tn := t24) (tx := x24) (tr := r24) ((v24b0 s _).mp ?_)
      exact askI (fun g => hy 0 (by decide) g) fun g => hn 0 (by omega) rfl g
    · refine W_wpX (C := C24l) hcw (by intro x hx; cases hx) (n := 40) (tn := t24) (tx := x24) (tr := r24) ((v24b1 s _).mp ?_)
      exact askI (fun g => hy 1 (by decide) g) fun g => hn 1 (by omega) rfl g
    · refine W_wpX (C := C24l) hcw (by intro x hx; cases hx) (n := 40) (tn := t24) (tx := x24) (tr := r24) ((v24b2 s _).mp ?_)
      exact askI (fun g => hy 2 (by decide) g) fun g => hn 2 (by omega) rfl g
    · refine W_wpX (C := C24l) hcw (by intro x hx; cases hx) (n := 40) (tn := t24) (tx := x24) (tr := r24) ((v24b3 s _).mp ?_)
      exact askI (fun g => hy 3 (by decide) g) fun g => hn 3 (by omega) rfl g
    · refine W_wpX (C := C24l) hcw (by intro x hx; cases hx) (n := 40) (tn := t24) (tx := x24) (tr := r24) ((v24b4 s _).mp ?_)
      exact askI (fun g => hy 4 (by decide) g) fun g => hn 4 (by omega) rfl g
    · refine W_wpX (C := C24l) hcw (by intro x hx; cases hx) (n := 40) (tn := t24) (tx := x24) (tr := r24) ((v24b5 s _).mp ?_)
      exact askI (fun g => hy 5 (by decide) g) fun g => hn 5 (by omega) rfl g
    · refine W_wpX (C := C24l) hcw (by intro x hx; cases hx) (n := 40) (tn := t24) (tx := x24) (tr := r24) ((v24b6 s _).mp ?_)
      exact askI (fun g => hy 6 (by decide) g) fun g => hn 6 (by omega) rfl g
    · refine W_wpX (C := C24l) hcw (by intro x hx; cases hx) (n := 40) (tn := t24) (tx := x24) (tr := r24) ((v24b7 s _).mp ?_)
      exact askI (fun g => hy 7 (by decide) g) fun g => hn 7 (by omega) rfl g
    · refine W_wpX (C := C24l) hcw (by intro x hx; cases hx) (n := 40) (tn := t24) (tx := x24) (tr := r24) ((v24b8 s _).mp ?_)
      exact askI (fun g => hy 8 (by decide) g) fun g => hn 8 (by omega) rfl g
    · refine W_wpX (C := C24l) hcw (by intro x hx; cases hx) (n := 40) (tn := t24) (tx := x24) (tr := r24) ((v24b9 s _).mp ?_)
      exact askI (fun g => hy 9 (by decide) g) fun g => hn 9 (by omega) rfl g
    · refine W_wpX (C := C24l) hcw (by intro x hx; cases hx) (n := 40) (tn := t24) (tx := x24) (tr := r24) ((v24b10 s _).mp ?_)
      exact askI (fun g => hy 10 (by decide) g) fun g => hn 10 (by omega) rfl g
    · refine W_wpX (C := C24l) hcw (by intro x hx; cases hx) (n := 40) (tn := t24) (tx := x24) (tr := r24) ((v24b11 s _).mp ?_)
      exact askI (fun g => hy 11 (by decide) g) fun g => hn 11 (by omega) rfl g
    · refine W_wpX (C := C24l) hcw (by intro x hx; cases hx) (n := 40) (tn := t24) (tx := x24) (tr := r24) ((v24b12 s _).mp ?_)
      exact askI (fun g => hy 12 (by decide) g) fun g => hn 12 (by omega) rfl g
    · refine W_wpX (C := C24l) hcw (by intro x hx; cases hx) (n := 40) (tn := t24) (tx := x24) (tr := r24) ((v24b13 s _).mp ?_)
      exact askI (fun g => hy 13 (by decide) g) fun g => hn 13 (by omega) rfl g
    · refine W_wpX (C := C24l) hcw (by intro x hx; cases hx) (n := 40) (tn := t24) (tx := x24) (tr := r24) ((v24b14 s _).mp ?_)
      exact askI (fun g => hy 14 (by decide) g) fun g => hn 14 (by omega) rfl g
    · refine W_wpX (C := C24l) hcw (by intro x hx; cases hx) (n := 40) (tn := t24) (tx := x24) (tr := r24) ((v24b15 s _).mp ?_)
      exact askI (fun g => hy 15 (by decide) g) fun g => hn 15 (by omega) rfl g
    · refine W_wpX (C := C24l) hcw (by intro x hx; cases hx) (n := 40) (tn := t24) (tx := x24) (tr := r24) ((v24b16 s _).mp ?_)
      exact askI (fun g => hy 16 (by decide) g) fun g => hn 16 (by omega) rfl g
    · refine W_wpX (C := C24l) hcw (by intro x hx; cases hx) (n := 40) (tn := t24) (tx := x24) (tr := r24) ((v24b17 s _).mp ?_)
      show K24 s _ _
      unfold K24; rw [symR_no h2]; rfl
theorem refSymbolR_ok : QuietOK Tryd.prog 24 fun vs _ => sSymR vs := quiet_plain ht24 fun args v h => by
  unfold sSymR at h
  split at h
  · rename_i s
    split at h
    · rename_i hs
      cases h
      refine ⟨rfl, rfl, ?_⟩
      have hS : (tbS Q []).OK Tryd.prog := tbS_ok quietText (by simp)
      obtain ⟨u, h', rfl, hsem⟩ := sem_vc mixed (C := C24 s) hS (tbS_q _ _) (tbW_ok rfl) ht24 c24 (one_part rfl (part_loop (id := 3) rfl rfl fun st K hT => by
        obtain ⟨rfl, hk⟩ := hT
        refine W_mono (loop24 s) fun e st he => ?_
        unfold K24 at he
        cases hE : symR s with
        | true => rw [hE] at he hk; cases he; exact hk
        | false => rw [hE] at he hk; cases he; exact hk)) (v24 s fun u _ => u = .bool (symR s)) (by
        refine ⟨rfl, ?_⟩
        cases symR s <;> rfl)
      exact ⟨h', hsem⟩
    · cases h
  · cases h
def K45 (v : Nat) (e : AExit) (st : St) : Prop := (e, st) = if v == 0 then (AExit.exit 0, (envOf 27 [], [])) else (AExit.ret, (envOf 27 [(4, .int .i64 v), (5, .bool true)], []))
theorem loop45 (s : List UInt8) (hs : s.length ≤ 1099511627776) (i0 : Nat) (hi0 : i0 ≤ s.length + 2) : W Tryd.prog (tbS Q []) 0 (.inl (.loop p45_l0)) (q45 s i0) (K45 (qd (s.drop i0) i0)) := by
  have hcw : CwOK (tbS Q []) (tbW Q []) := tbW_ok rfl
  have main := W_roundsG (P := Tryd.prog) (S := (tbS Q [])) (b0 := 0) (a := p45_l0) (fun i : Nat => q45 s i)
    (fun i => i ≤ s.length + 2 ∧ qd (s.drop i) i = qd (s.drop i0) i0) (fun i => s.length + 2 - i) (fun _ => K45 (qd (s.drop i0) i0)) ?_ i0 ⟨hi0, rfl⟩
  · exact main
  · rintro i ⟨h1, h2⟩
    refine W_wpX (C := C45l) hcw (by intro x hx; cases hx) (n := 40) (tn := t45) (tx := x45) (tr := r45) ((v45b s i _).mp ?_)
    have w1 : IntKind.wrap .i64 ((i : Int) + 1) = ((i + 1 : Nat) : Int) := by rw [IntKind.wrap_i64]; omega
    have w2 : IntKind.wrap .i64 (((i + 1 : Nat) : Int) + 1) = ((i + 2 : Nat) : Int) := by rw [IntKind.wrap_i64]; omega
    rw [w1, w2, eq92, eq34]
    rcases Nat.lt_or_ge i s.length with hi | hi
    · refine askT (decide_eq_true (by omega)) (chkI (decide_eq_true hi) (askI (fun g1 => ?_) fun g1 => chkI (decide_eq_true hi) (askI (fun g2 => ?_) fun g2 => ?_)))
      · have g2 : (s.getD i 0 == 34) = false := by rw [beq_iff_eq] at g1; rw [g1]; rfl
        rw [qd_b hi g2 g1] at h2
        exact ⟨i + 2, rfl, ⟨by omega, h2⟩, by show s.length + 2 - (i + 2) < s.length + 2 - i; omega, fun _ _ h => h⟩
      · rw [qd_q hi g2] at h2
        show K45 _ _ _
        unfold K45
        rw [← h2, show (i + 1 == 0) = false from rfl]; rfl
      · rw [qd_n hi g2 g1] at h2
        exact ⟨i + 1, rfl, ⟨by omega, h2⟩, by show s.length + 2 - (i + 1) < s.length + 2 - i; omega, fun _ _ h => h⟩
    · rw [qd_end hi] at h2
      refine askF (decide_eq_false (by omega)) ?_
      show K45 _ _ _
      unfold K45
      rw [← h2]; rfl
theorem closes_ok : QuietOK Tryd.prog 45 fun vs _ => sCloses vs := quiet_plain ht45 fun args v h => by
  unfold sCloses at h
  split at h
  · rename_i s z
    split at h
    · rename_i hs
      cases h
      refine ⟨rfl, rfl, ?_⟩
      have hS : (tbS Q []).OK Tryd.prog := tbS_ok quietText (by simp)
      obtain ⟨u, h', rfl, hsem⟩ := sem_vc mixed (C := C45 s) hS (tbS_q _ _) (tbW_ok rfl) ht45 c45 (one_part rfl (part_loop (id := 2) rfl rfl fun st K hT => by
        obtain ⟨i, rfl, hi, hk⟩ := hT
        refine W_mono (loop45 s hs.2 i hi) fun e st he => ?_
        unfold K45 at he
        cases hE : (qd (s.drop i) i == 0) with
        | true => rw [hE] at he hk; cases he; exact hk
        | false => rw [hE] at he hk; cases he; exact hk)) (v45 s z fun u _ => u = .tup [.int .i64 (closesF s z.toNat), .bool (closesF s z.toNat != 0)]) (by
        obtain ⟨⟨h0, h1⟩, h2⟩ := hs
        obtain ⟨i, rfl⟩ : ∃ i : Nat, z = i := ⟨z.toNat, by omega⟩
        have w1 : IntKind.wrap .i64 ((i : Int) + 1) = ((i + 1 : Nat) : Int) := by rw [IntKind.wrap_i64]; omega
        rw [w1, Int.toNat_natCast]
        refine ⟨i + 1, rfl, by omega, ?_⟩
        have hc : closesF s i = qd (s.drop (i + 1)) (i + 1) := rfl
        rw [hc]
        refine askI (fun g => ?_) fun g => ?_
        · rw [beq_iff_eq] at g; rw [g]; rfl
        · have g' : (qd (s.drop (i + 1)) (i + 1) != 0) = true := by rw [bne, g]; rfl
          rw [g'])
      exact ⟨h', hsem⟩
    · cases h
  · cases h

/- The document's Blank and whole: contracts. -/

theorem two_parts {P : Program} {C : Cfg} {c a b : PC} (h : partsIn c = [a, b]) (ha : PartOK P C a) (hb : PartOK P C b) : ∀ x ∈ partsIn c, PartOK P C x := by
  intro x hx
  rw [h] at hx
  simp only [List.mem_cons, List.not_mem_nil, or_false] at hx
  rcases hx with rfl | rfl
  · exact ha
  · exact hb
theorem part_skip {P : Program} {C : Cfg} {a : PC} {id : Nat} (h1 : headId a = some id) (h2 : C.lw id = none) : PartOK P C (.loop a) := by
  intro T' st K hT ht
  rw [h1, Option.bind_some, h2] at hT
  cases hT
theorem blk_cm : ∀ l : List UInt8, blk l true = cmF l + blk (l.drop (cmF l)) false
  | [] => rfl
  | c :: l => by
    rw [blk_t]
    unfold cmF
    split
    · rename_i h
      rw [List.drop_zero, blk_f, if_pos (isBl_of (.inr (.inr (.inl h))))]
      omega
    · rw [List.drop_succ_cons, blk_cm l]; omega
theorem cm_le : ∀ l : List UInt8, cmF l ≤ l.length
  | [] => Nat.le_refl _
  | c :: l => by
    unfold cmF
    have := cm_le l
    simp only [List.length_cons]
    split <;> omega
theorem cm_yes {s : List UInt8} {i : Nat} (h : i < s.length) (hc : (s.getD i 0 != 10) = true) : cmF (s.drop i) = cmF (s.drop (i + 1)) + 1 := by
  rw [drop_cons h]
  exact if_neg (by rw [bne] at hc; intro e; rw [e] at hc; cases hc)
theorem cm_no {s : List UInt8} {i : Nat} (h : i < s.length) (hc : (s.getD i 0 != 10) = false) : cmF (s.drop i) = 0 := by
  rw [drop_cons h]
  exact if_pos (by rw [bne, Bool.not_eq_false'] at hc; exact hc)
theorem ne10 (c : UInt8) : (((c.toNat : Nat) : Int) != 10) = (c != 10) := ne_u8 c 10
theorem eq47 (c : UInt8) : (((c.toNat : Nat) : Int) == 47) = (c == 47) := eqU8 c 47
theorem loop20i (s : List UInt8) (hs : s.length ≤ 1099511627776) (i0 : Nat) (hi0 : i0 ≤ s.length) : W Tryd.prog (tbS Q []) 0 (.inl (.loop p20_l0)) (q20 s i0) (fun e st => e = .exit 3 ∧ st = q20 s ((i0 + cmF (s.drop i0) : Nat) : Int)) := by
  have hcw : CwOK (tbS Q []) (tbW Q []) := tbW_ok rfl
  have main := W_roundsG (P := Tryd.prog) (S := (tbS Q [])) (b0 := 0) (a := p20_l0) (fun i : Nat => q20 s i)
    (fun i => i ≤ s.length ∧ i + cmF (s.drop i) = i0 + cmF (s.drop i0)) (fun i => s.length - i) (fun _ => fun e st => e = .exit 3 ∧ st = q20 s ((i0 + cmF (s.drop i0) : Nat) : Int)) ?_ i0 ⟨hi0, rfl⟩
  · exact main
  · rintro i ⟨h1, h2⟩
    refine W_wpX (C := C20i) hcw (by intro x hx; cases hx) (n := 40) (tn := t20) (tx := t20) (tr := t20) ((v20i s i _).mp ?_)
    have w1 : IntKind.wrap .i64 ((i : Int) + 1) = ((i + 1 : Nat) : Int) := by rw [IntKind.wrap_i64]; omega
    rw [w1, ne10]
    rcases Nat.lt_or_ge i s.length with hi | hi
    · refine askT (decide_eq_true (by omega)) (chkI (decide_eq_true hi) (askI (fun g1 => ?_) fun g1 => ?_))
      · rw [cm_yes hi g1] at h2
        exact ⟨i + 1, rfl, ⟨by omega, by omega⟩, by show s.length - (i + 1) < s.length - i; omega, fun _ _ h => h⟩
      · rw [cm_no hi g1] at h2
        exact ⟨rfl, by rw [← h2]; rfl⟩
    · rw [List.drop_eq_nil_of_le hi] at h2
      have h2' : i = i0 + cmF (s.drop i0) := h2
      exact askF (decide_eq_false (by omega)) ⟨rfl, by rw [← h2']; rfl⟩
def K20 (v : Nat) (e : AExit) (st : St) : Prop := ∃ b : Bool, (e, st) = if b then (AExit.exit 0, (envOf 70 [(1, .int .i64 v)], [])) else (AExit.ret, (envOf 70 [(4, .int .i64 v)], []))
theorem loop20 (s : List UInt8) (hs : s.length ≤ 1099511627776) (i0 : Nat) (hi0 : i0 ≤ s.length) : W Tryd.prog (tbS Q []) 0 (.inl (.loop p20_l1)) (q20 s i0) (K20 (i0 + blk (s.drop i0) false)) := by
  have hcw : CwOK (tbS Q []) (tbW Q []) := tbW_ok rfl
  have main := W_roundsG (P := Tryd.prog) (S := tbS Q []) (b0 := 0) (a := p20_l1) (fun i : Nat => q20 s i)
    (fun i => i ≤ s.length ∧ i + blk (s.drop i) false = i0 + blk (s.drop i0) false) (fun i => s.length - i) (fun _ => K20 (i0 + blk (s.drop i0) false)) ?_ i0 ⟨hi0, rfl⟩
  · exact main
  · rintro i ⟨h1, h2⟩
    refine W_wpX (C := C20l s) hcw (one_part rfl (part_loop (id := 9) rfl rfl fun st K hT => by
        obtain ⟨j, rfl, hj, hk⟩ := hT
        refine W_mono (loop20i s hs j hj) fun e st he => ?_
        obtain ⟨rfl, rfl⟩ := he
        exact hk)) (n := 40) (tn := t20) (tx := x20) (tr := r20) ((v20b s i _).mp ?_)
    rcases Nat.lt_or_ge i s.length with hi | hi
    · have w1 : IntKind.wrap .i64 ((i : Int) + 1) = ((i + 1 : Nat) : Int) := by rw [IntKind.wrap_i64]; omega
      rw [w1, eq32, eq9, eq10, eq13, eq47, Int.toNat_natCast, eq47]
      have go : ∀ j : Nat, i < j → j ≤ s.length → j + blk (s.drop j) false = i + blk (s.drop i) false → ∃ s' : Nat, q20 s (j : Int) = q20 s s' ∧ (s' ≤ s.length ∧ s' + blk (s.drop s') false = i0 + blk (s.drop i0) false) ∧ s.length - s' < s.length - i ∧ ∀ e st, K20 (i0 + blk (s.drop i0) false) e st → K20 (i0 + blk (s.drop i0) false) e st := fun j hj hj2 h => ⟨j, rfl, ⟨hj2, by omega⟩, by omega, fun _ _ h => h⟩
      have gb := fun h => go (i + 1) (by omega) hi (blk_cons hi h).symm
      refine askT (decide_eq_true (by omega)) (chkI (decide_eq_true hi) (askI (fun g2 => gb (isBl_of (.inl g2))) fun g2 => askI (fun g3 => gb (isBl_of (.inr (.inl g3)))) fun g3 => askI (fun g4 => gb (isBl_of (.inr (.inr (.inl g4))))) fun g4 => askI (fun g5 => gb (isBl_of (.inr (.inr (.inr g5))))) fun g5 => ?_))
      have hno := isBl_no g2 g3 g4 g5
      have stop : Lib.hasPrefix (s.drop i) [47, 47] = false → K20 (i0 + blk (s.drop i0) false) .ret (envOf 70 [(4, .int .i64 (i : Int))], []) := fun h => by
        rw [blk_no hi hno h] at h2
        exact ⟨false, by rw [← h2]; rfl⟩
      have hP := hasP2 hi
      have hl : (s.drop (i + 1)).length = s.length - (i + 1) := List.length_drop
      have hg : (s.drop (i + 1)).getD 0 0 = s.getD (i + 1) 0 := by
        rw [List.getD_eq_getElem?_getD, List.getElem?_drop, List.getD_eq_getElem?_getD]
      rw [hl, hg] at hP
      refine askI (fun g6 => askI (fun g7 => ?_) fun g7 => ?_) fun g6 => ?_
      · simp only [decide_eq_true_eq] at g7
        have hd : decide (0 < s.length - (i + 1)) = true := decide_eq_true (by omega)
        refine chkI (decide_eq_true (by omega)) (chkI (decide_eq_true (by omega)) (askI (fun g8 => ?_) fun g8 => ?_))
        · rw [g6, g8, hd] at hP
          have hne : (s.getD i 0 != 10) = true := by rw [beq_iff_eq] at g6; rw [g6]; rfl
          have hy := cm_yes hi hne
          have hle := cm_le (s.drop i)
          rw [List.length_drop] at hle
          have e1 := blk_com hi hP
          have e2 := blk_cm (s.drop i)
          rw [List.drop_drop] at e2
          refine ⟨i, rfl, by omega, go (i + cmF (s.drop i)) (by omega) (by omega) ?_⟩
          omega
        · exact stop (by rw [hP, g8, Bool.and_false])
      · simp only [decide_eq_false_iff_not] at g7
        exact stop (by rw [hP, decide_eq_false (by omega), Bool.and_false, Bool.false_and])
      · exact stop (by rw [hP, g6]; rfl)
    · rw [List.drop_eq_nil_of_le hi] at h2
      have h2' : i = i0 + blk (s.drop i0) false := h2
      exact askF (decide_eq_false (by omega)) ⟨true, by rw [← h2']; rfl⟩
theorem refBlank_ok : QuietOK Tryd.prog 20 fun vs _ => sBlank vs := quiet_plain ht20 fun args v h => by
  unfold sBlank at h
  split at h
  · rename_i s z
    split at h
    · rename_i hs
      cases h
      refine ⟨rfl, rfl, ?_⟩
      have hS : (tbS Q []).OK Tryd.prog := tbS_ok quietText (by simp)
      obtain ⟨u, h', rfl, hsem⟩ := sem_vc mixed (C := C20 s) hS (tbS_q _ _) (tbW_ok rfl) ht20 c20 (two_parts rfl (part_loop (id := 3) rfl rfl fun st K hT => by
        obtain ⟨i, rfl, hi, hk⟩ := hT
        refine W_mono (loop20 s hs i hi) fun e st he => ?_
        obtain ⟨b, hb⟩ := he
        have hkb := hk b
        cases b <;> cases hb <;> exact hkb) (part_skip (id := 9) rfl rfl)) (v20 s z fun u _ => u = .int .i64 (blankF s z)) (by
        refine askI (fun g0 => ?_) fun g0 => askI (fun g0' => ?_) fun g0' => ?_
        · simp only [decide_eq_true_eq] at g0
          rw [blank_out (.inl g0)]
        · simp only [decide_eq_true_eq] at g0'
          rw [blank_out (.inr g0')]
        simp only [decide_eq_false_iff_not] at g0 g0'
        obtain ⟨i, rfl⟩ : ∃ i : Nat, z = i := ⟨z.toNat, by omega⟩
        rw [blank_in (by omega)]
        exact ⟨i, rfl, by omega, fun e => by cases e <;> rfl⟩)
      exact ⟨h', hsem⟩
    · cases h
  · cases h
theorem tb43_ok : (tbS Q tb43).OK Tryd.prog := tbS_ok quietText (by
  intro x hx
  simp only [tb43, List.mem_cons, List.not_mem_nil, or_false] at hx
  subst hx
  exact isD_ok)
theorem rd_yes {s : List UInt8} {i : Nat} (h : i < s.length) (hd : isD (s.getD i 0) = true) : runD (s.drop i) = runD (s.drop (i + 1)) + 1 := by
  rw [drop_cons h]; exact if_pos hd
theorem rd_no {s : List UInt8} {i : Nat} (h : i < s.length) (hd : isD (s.getD i 0) = false) : runD (s.drop i) = 0 := by
  rw [drop_cons h]; exact if_neg (by rw [hd]; decide)
theorem nz_yes {s : List UInt8} {i : Nat} (h : i < s.length) (hd : isD (s.getD i 0) = true) : nzD (s.drop i) = (s.getD i 0 != 48 || nzD (s.drop (i + 1))) := by
  rw [drop_cons h]; exact if_pos hd
theorem nz_no {s : List UInt8} {i : Nat} (h : i < s.length) (hd : isD (s.getD i 0) = false) : nzD (s.drop i) = false := by
  rw [drop_cons h]; exact if_neg (by rw [hd]; decide)
theorem loop55a (s : List UInt8) (hs : s.length ≤ 1099511627776) (fr : Nat) (hfr : fr ≤ s.length) : W Tryd.prog (tbS Q tb43) 0 (.inl (.loop p55_l1)) (q55 s false fr fr) (fun e st => e = .exit 0 ∧ st = q55 s (nzD (s.drop fr)) ((fr + runD (s.drop fr) : Nat) : Int) fr) := by
  have hcw : CwOK (tbS Q tb43) (tbW Q tb43) := tbW_ok rfl
  have main := W_roundsG (P := Tryd.prog) (S := tbS Q tb43) (b0 := 0) (a := p55_l1) (fun p : Nat × Bool => q55 s p.2 p.1 fr)
    (fun p => p.1 ≤ s.length ∧ p.1 + runD (s.drop p.1) = fr + runD (s.drop fr) ∧ (p.2 || nzD (s.drop p.1)) = nzD (s.drop fr)) (fun p => s.length - p.1) (fun _ e st => e = .exit 0 ∧ st = q55 s (nzD (s.drop fr)) ((fr + runD (s.drop fr) : Nat) : Int) fr) ?_ (fr, false) ⟨hfr, rfl, rfl⟩
  · exact main
  · rintro ⟨i, sm⟩ ⟨h1, h2, h3⟩
    simp only at h1 h2 h3
    refine W_wpX (C := C55l) hcw (by intro x hx; cases hx) (n := 40) (tn := t55) (tx := t55) (tr := t55) ((v55a s sm i fr _).mp ?_)
    have w1 : IntKind.wrap .i64 ((i : Int) + 1) = ((i + 1 : Nat) : Int) := by rw [IntKind.wrap_i64]; omega
    rw [w1, ne48]
    rcases Nat.lt_or_ge i s.length with hi | hi
    · refine askT (decide_eq_true (by omega)) (chkI (decide_eq_true hi) ⟨_, isD_at _, askI (fun g1 => ?_) fun g1 => ?_⟩)
      · rw [rd_yes hi g1] at h2
        rw [nz_yes hi g1] at h3
        have go : ∀ sm' : Bool, (sm' || nzD (s.drop (i + 1))) = nzD (s.drop fr) → ∃ p : Nat × Bool, q55 s sm' ((i + 1 : Nat) : Int) fr = q55 s p.2 p.1 fr ∧ (p.1 ≤ s.length ∧ p.1 + runD (s.drop p.1) = fr + runD (s.drop fr) ∧ (p.2 || nzD (s.drop p.1)) = nzD (s.drop fr)) ∧ s.length - p.1 < s.length - i ∧ ∀ e st, (e = AExit.exit 0 ∧ st = q55 s (nzD (s.drop fr)) ((fr + runD (s.drop fr) : Nat) : Int) fr) → (e = AExit.exit 0 ∧ st = q55 s (nzD (s.drop fr)) ((fr + runD (s.drop fr) : Nat) : Int) fr) := fun sm' h => ⟨(i + 1, sm'), rfl, ⟨hi, by show i + 1 + runD (s.drop (i + 1)) = fr + runD (s.drop fr); omega, h⟩, by show s.length - (i + 1) < s.length - i; omega, fun _ _ h => h⟩
        refine askI (fun g2 => go true (by rw [← h3, g2]; rfl)) fun g2 => chkI (decide_eq_true hi) (askI (fun g3 => go true (by rw [← h3, g3]; simp)) fun g3 => go false (by rw [← h3, g2, g3]; rfl))
      · rw [rd_no hi g1] at h2
        rw [nz_no hi g1, Bool.or_false] at h3
        exact ⟨rfl, by rw [← h2, ← h3]; rfl⟩
    · rw [List.drop_eq_nil_of_le hi] at h2 h3
      have h2' : i = fr + runD (s.drop fr) := h2
      have h3' : sm = nzD (s.drop fr) := by rw [← h3]; show _ = (sm || false); rw [Bool.or_false]
      exact askF (decide_eq_false (by omega)) ⟨rfl, by rw [← h2', ← h3']; rfl⟩
def K55 (s : List UInt8) (k0 : Nat) (sm0 : Bool) (e : AExit) (st : St) : Prop := (e, st) = if k0 + runD (s.drop k0) == s.length then (AExit.exit 2, e55 s (sm0 || nzD (s.drop k0))) else (AExit.ret, (envOf 95 [(2, .bool false)], []))
theorem loop55b (s : List UInt8) (hs : s.length ≤ 1099511627776) (k0 : Nat) (sm0 : Bool) (hk0 : k0 ≤ s.length) : W Tryd.prog (tbS Q tb43) 0 (.inl (.loop p55_l0)) (q55b s sm0 k0) (K55 s k0 sm0) := by
  have hcw : CwOK (tbS Q tb43) (tbW Q tb43) := tbW_ok rfl
  have main := W_roundsG (P := Tryd.prog) (S := tbS Q tb43) (b0 := 0) (a := p55_l0) (fun p : Nat × Bool => q55b s p.2 p.1)
    (fun p => p.1 ≤ s.length ∧ p.1 + runD (s.drop p.1) = k0 + runD (s.drop k0) ∧ (p.2 || nzD (s.drop p.1)) = (sm0 || nzD (s.drop k0))) (fun p => s.length - p.1) (fun _ => K55 s k0 sm0) ?_ (k0, sm0) ⟨hk0, rfl, rfl⟩
  · exact main
  · rintro ⟨i, sm⟩ ⟨h1, h2, h3⟩
    simp only at h1 h2 h3
    refine W_wpX (C := C55l) hcw (by intro x hx; cases hx) (n := 40) (tn := t55b) (tx := x55b) (tr := r55b) ((v55b s sm i _).mp ?_)
    have w1 : IntKind.wrap .i64 ((i : Int) + 1) = ((i + 1 : Nat) : Int) := by rw [IntKind.wrap_i64]; omega
    rw [w1, ne48]
    rcases Nat.lt_or_ge i s.length with hi | hi
    · refine askT (decide_eq_true (by omega)) (chkI (decide_eq_true hi) ⟨_, isD_at _, askI (fun g1 => ?_) fun g1 => ?_⟩)
      · rw [rd_yes hi g1] at h2
        rw [nz_yes hi g1] at h3
        have go : ∀ sm' : Bool, (sm' || nzD (s.drop (i + 1))) = (sm0 || nzD (s.drop k0)) → ∃ p : Nat × Bool, q55b s sm' ((i + 1 : Nat) : Int) = q55b s p.2 p.1 ∧ (p.1 ≤ s.length ∧ p.1 + runD (s.drop p.1) = k0 + runD (s.drop k0) ∧ (p.2 || nzD (s.drop p.1)) = (sm0 || nzD (s.drop k0))) ∧ s.length - p.1 < s.length - i ∧ ∀ e st, K55 s k0 sm0 e st → K55 s k0 sm0 e st := fun sm' h => ⟨(i + 1, sm'), rfl, ⟨hi, by show i + 1 + runD (s.drop (i + 1)) = k0 + runD (s.drop k0); omega, h⟩, by show s.length - (i + 1) < s.length - i; omega, fun _ _ h => h⟩
        refine askI (fun g2 => go true (by rw [← h3, g2]; rfl)) fun g2 => chkI (decide_eq_true hi) (askI (fun g3 => go true (by rw [← h3, g3]; simp)) fun g3 => go false (by rw [← h3, g2, g3]; rfl))
      · rw [rd_no hi g1] at h2
        have e : (k0 + runD (s.drop k0) == s.length) = false := by rw [beq_eq_false_iff_ne]; omega
        show K55 _ _ _ _ _
        unfold K55; rw [e]; rfl
    · rw [List.drop_eq_nil_of_le hi] at h2 h3
      have h2' : i = k0 + runD (s.drop k0) := h2
      have h3' : sm = (sm0 || nzD (s.drop k0)) := by rw [← h3]; show _ = (sm || false); rw [Bool.or_false]
      have e : (k0 + runD (s.drop k0) == s.length) = true := by rw [beq_iff_eq]; omega
      refine askF (decide_eq_false (by omega)) ?_
      show K55 _ _ _ _ _
      unfold K55; rw [e, h3']; rfl
theorem ne45 (c : UInt8) : (((c.toNat : Nat) : Int) != 45) = (c != 45) := ne_u8 c 45
theorem tail55 (s : List UInt8) (fr k : Nat) (hl0 : 0 < s.length) (hs : s.length ≤ 1099511627776) (hR : wR s = (if decide (fr + k < s.length) then
    (if s.getD (fr + k) 0 != 46 || fr + k + 1 == s.length then false
     else if fr + k + 1 + runD (s.drop (fr + k + 1)) == s.length then (nzD (s.drop fr) || nzD (s.drop (fr + k + 1))) || s.getD 0 0 != 45 else false)
  else nzD (s.drop fr) || s.getD 0 0 != 45)) :
    askB (decide (((fr + k : Nat) : Int) < (s.length : Int)))
      (chkW (decide (fr + k < s.length)) (askB (s.getD (fr + k) 0 != 46) (AV.bool false = .bool (wR s)) (askB (((fr + k + 1 : Nat) : Int) == (s.length : Int)) (AV.bool false = .bool (wR s))
        (∃ (k_1 : Nat) (sm : Bool), ((envOf 95 [(0, .str s), (3, .bool (nzD (s.drop fr))), (6, .int .i64 ((fr + k + 1 : Nat) : Int))], []) : St) = (envOf 95 [(0, .str s), (3, .bool sm), (6, .int .i64 (k_1 : Int))], []) ∧ k_1 ≤ s.length ∧
          askB (k_1 + runD (s.drop k_1) == s.length) (askB (sm || nzD (s.drop k_1)) (AV.bool true = .bool (wR s)) (chkW (decide (0 < s.length)) (askB (s.getD 0 0 != 45) (AV.bool true = .bool (wR s)) (AV.bool false = .bool (wR s))))) (AV.bool false = .bool (wR s))))))
      (askB (nzD (s.drop fr)) (AV.bool true = .bool (wR s)) (chkW (decide (0 < s.length)) (askB (s.getD 0 0 != 45) (AV.bool true = .bool (wR s)) (AV.bool false = .bool (wR s))))) := by
  refine askI (fun g1 => ?_) fun g1 => ?_
  · simp only [decide_eq_true_eq] at g1
    have hlt : fr + k < s.length := by omega
    rw [decide_eq_true hlt, if_pos rfl] at hR
    refine chkI (decide_eq_true hlt) (askI (fun g2 => ?_) fun g2 => askI (fun g3 => ?_) fun g3 => ?_)
    · rw [hR, g2]; rfl
    · have g3' : (fr + k + 1 == s.length) = true := by rw [beq_iff_eq] at g3 ⊢; omega
      rw [hR, g3', Bool.or_true]; rfl
    · have g3' : (fr + k + 1 == s.length) = false := by rw [beq_eq_false_iff_ne] at g3 ⊢; omega
      rw [g2, g3', if_neg (by decide)] at hR
      refine ⟨fr + k + 1, nzD (s.drop fr), rfl, by omega, askI (fun g4 => ?_) fun g4 => ?_⟩
      · rw [g4, if_pos rfl] at hR
        refine askI (fun g5 => ?_) fun g5 => chkI (decide_eq_true hl0) (askI (fun g6 => ?_) fun g6 => ?_)
        · rw [hR, g5]; rfl
        · rw [hR, g5, g6]; rfl
        · rw [hR, g5, g6]; rfl
      · rw [g4, if_neg (by decide)] at hR
        rw [hR]
  · simp only [decide_eq_false_iff_not] at g1
    rw [decide_eq_false (by omega), if_neg (by decide)] at hR
    refine askI (fun g5 => ?_) fun g5 => chkI (decide_eq_true hl0) (askI (fun g6 => ?_) fun g6 => ?_)
    · rw [hR, g5]; rfl
    · rw [hR, g5, g6]; rfl
    · rw [hR, g5, g6]; rfl
theorem whole_ok : QuietOK Tryd.prog 55 fun vs _ => sWhole vs := quiet_plain ht55 fun args v h => by
  unfold sWhole at h
  split at h
  · rename_i s
    split at h
    · rename_i hs
      cases h
      refine ⟨rfl, rfl, ?_⟩
      have hS : (tbS Q tb43).OK Tryd.prog := tbS_ok quietText (by
        intro x hx
        simp only [tb43, List.mem_cons, List.not_mem_nil, or_false] at hx
        subst hx
        exact isD_ok)
      obtain ⟨u, h', rfl, hsem⟩ := sem_vc mixed (C := C55 s) hS (tbS_q _ _) (tbW_ok rfl) ht55 c55 (two_parts rfl (part_loop (id := 6) rfl rfl fun st K hT => by
        obtain ⟨fr, rfl, hfr, hk⟩ := hT
        refine W_mono (loop55a s hs fr hfr) fun e st he => ?_
        obtain ⟨rfl, rfl⟩ := he
        exact hk) (part_loop (id := 15) rfl rfl fun st K hT => by
        obtain ⟨k, sm, rfl, hk0, hk⟩ := hT
        refine W_mono (loop55b s hs k sm hk0) fun e st he => ?_
        unfold K55 at he
        cases hE : (k + runD (s.drop k) == s.length) with
        | true => rw [hE] at he hk; cases he; exact hk
        | false => rw [hE] at he hk; cases he; exact hk)) (v55 s fun u _ => u = .bool (wR s)) (by
        refine askI (fun g0 => ?_) fun g0 => ?_
        · simp only [decide_eq_true_eq] at g0
          have hl : 0 < s.length := by omega
          refine chkI (decide_eq_true hl) ?_
          rw [eq45]
          refine askI (fun gn => ?_) fun gn => ?_
          · have g01 : (decide (0 < s.length) && s.getD 0 0 == 45) = true := by rw [gn, decide_eq_true hl]; rfl
            refine ⟨1, rfl, by omega, ?_⟩
            have hr := runD_le (s.drop 1)
            rw [List.length_drop] at hr
            have hW : wR s = wRf s 1 := by unfold wR; rw [g01]; rfl
            generalize hk : runD (s.drop 1) = k at hr ⊢
            have hW' : wRf s 1 = (if k == 0 || (s.getD 1 0 == 48 && decide (1 < k)) then false
              else if decide (1 + k < s.length) then
                (if s.getD (1 + k) 0 != 46 || 1 + k + 1 == s.length then false
                 else if 1 + k + 1 + runD (s.drop (1 + k + 1)) == s.length then (nzD (s.drop 1) || nzD (s.drop (1 + k + 1))) || s.getD 0 0 != 45 else false)
              else nzD (s.drop 1) || s.getD 0 0 != 45) := by rw [← hk]; rfl
            rw [hW'] at hW
            have w1 : IntKind.wrap .i64 (((1 + k : Nat) : Int) + 1) = ((1 + k + 1 : Nat) : Int) := by rw [IntKind.wrap_i64]; omega
            have w2 : IntKind.wrap .i64 (((1 : Nat) : Int) + 1) = ((1 + 1 : Nat) : Int) := by rw [IntKind.wrap_i64]; omega
            rw [w1, w2, eq48, ne46, ne45]
            refine askI (fun g1 => ?_) fun g1 => ?_
            · rw [beq_iff_eq] at g1
              have hk0 : k = 0 := by omega
              rw [hW, hk0]; rfl
            rw [beq_eq_false_iff_ne] at g1
            have hk0 : (k == 0) = false := by rw [beq_eq_false_iff_ne]; omega
            rw [hk0, Bool.false_or] at hW
            have hfl : 1 < s.length := by omega
            have hl0 : 0 < s.length := by omega
            have rest : (s.getD 1 0 == 48 && decide (1 < k)) = false → wR s = (if decide (1 + k < s.length) then
                (if s.getD (1 + k) 0 != 46 || 1 + k + 1 == s.length then false
                 else if 1 + k + 1 + runD (s.drop (1 + k + 1)) == s.length then (nzD (s.drop 1) || nzD (s.drop (1 + k + 1))) || s.getD 0 0 != 45 else false)
              else nzD (s.drop 1) || s.getD 0 0 != 45) := fun h => by rw [hW, h]; rfl
            clear hW hW'
            refine chkI (decide_eq_true hfl) (askI (fun g2 => askI (fun g3 => ?_) fun g3 => ?_) fun g2 => ?_)
            · simp only [decide_eq_true_eq] at g3
              have : wR s = false := by
                unfold wR; rw [g01]
                show wRf s 1 = false
                unfold wRf
                rw [hk, hk0, g2, decide_eq_true (by omega)]; rfl
              rw [this]
            · simp only [decide_eq_false_iff_not] at g3
              have hR := rest (by rw [decide_eq_false (by omega), Bool.and_false])
              exact tail55 s 1 k hl0 hs hR
            · have hR := rest (by rw [g2]; rfl)
              exact tail55 s 1 k hl0 hs hR
          · have g01 : (decide (0 < s.length) && s.getD 0 0 == 45) = false := by rw [gn, Bool.and_false]
            refine ⟨0, rfl, by omega, ?_⟩
            have hr := runD_le (s.drop 0)
            rw [List.length_drop] at hr
            have hW : wR s = wRf s 0 := by unfold wR; rw [g01]; rfl
            generalize hk : runD (s.drop 0) = k at hr ⊢
            have hW' : wRf s 0 = (if k == 0 || (s.getD 0 0 == 48 && decide (1 < k)) then false
              else if decide (0 + k < s.length) then
                (if s.getD (0 + k) 0 != 46 || 0 + k + 1 == s.length then false
                 else if 0 + k + 1 + runD (s.drop (0 + k + 1)) == s.length then (nzD (s.drop 0) || nzD (s.drop (0 + k + 1))) || s.getD 0 0 != 45 else false)
              else nzD (s.drop 0) || s.getD 0 0 != 45) := by rw [← hk]; rfl
            rw [hW'] at hW
            have w1 : IntKind.wrap .i64 (((0 + k : Nat) : Int) + 1) = ((0 + k + 1 : Nat) : Int) := by rw [IntKind.wrap_i64]; omega
            have w2 : IntKind.wrap .i64 (((0 : Nat) : Int) + 1) = ((0 + 1 : Nat) : Int) := by rw [IntKind.wrap_i64]; omega
            rw [w1, w2, eq48, ne46, ne45]
            refine askI (fun g1 => ?_) fun g1 => ?_
            · rw [beq_iff_eq] at g1
              have hk0 : k = 0 := by omega
              rw [hW, hk0]; rfl
            rw [beq_eq_false_iff_ne] at g1
            have hk0 : (k == 0) = false := by rw [beq_eq_false_iff_ne]; omega
            rw [hk0, Bool.false_or] at hW
            have hfl : 0 < s.length := by omega
            have hl0 : 0 < s.length := by omega
            have rest : (s.getD 0 0 == 48 && decide (1 < k)) = false → wR s = (if decide (0 + k < s.length) then
                (if s.getD (0 + k) 0 != 46 || 0 + k + 1 == s.length then false
                 else if 0 + k + 1 + runD (s.drop (0 + k + 1)) == s.length then (nzD (s.drop 0) || nzD (s.drop (0 + k + 1))) || s.getD 0 0 != 45 else false)
              else nzD (s.drop 0) || s.getD 0 0 != 45) := fun h => by rw [hW, h]; rfl
            clear hW hW'
            refine chkI (decide_eq_true hfl) (askI (fun g2 => askI (fun g3 => ?_) fun g3 => ?_) fun g2 => ?_)
            · simp only [decide_eq_true_eq] at g3
              have : wR s = false := by
                unfold wR; rw [g01]
                show wRf s 0 = false
                unfold wRf
                rw [hk, hk0, g2, decide_eq_true (by omega)]; rfl
              rw [this]
            · simp only [decide_eq_false_iff_not] at g3
              have hR := rest (by rw [decide_eq_false (by omega), Bool.and_false])
              exact tail55 s 0 k hl0 hs hR
            · have hR := rest (by rw [g2]; rfl)
              exact tail55 s 0 k hl0 hs hR
        · simp only [decide_eq_false_iff_not] at g0
          have g01 : (decide (0 < s.length) && s.getD 0 0 == 45) = false := by rw [decide_eq_false (by omega)]; rfl
          have hnil : s = [] := List.eq_nil_of_length_eq_zero (by omega)
          subst hnil
          refine ⟨0, rfl, by omega, ?_⟩
          exact askT rfl rfl)
      exact ⟨h', hsem⟩
    · cases h
  · cases h
end Go.Proofs.YtahdfjmdoljgiaaDoor
