/- Dectext: Rb; written by mk03.py. -/
import Derived.Test.YtddalcnajejibaaDoorRa
namespace Go.Proofs.YtddalcnajejibaaDoor
open Go Go.Am
set_option maxRecDepth 100000
set_option maxHeartbeats 1000000
set_option linter.unusedVariables false
set_option linter.unusedSimpArgs false
def d32 (a0 a1 a2 a3 : Int) : Nat → Int
  | 0 => a0 % 4294967296 | 1 => a0 / 4294967296 | 2 => a1 % 4294967296 | 3 => a1 / 4294967296
  | 4 => a2 % 4294967296 | 5 => a2 / 4294967296 | 6 => a3 % 4294967296 | 7 => a3 / 4294967296 | _ => 0
def sHalfR : List AV → Option AV
  | [.agg [.int .u64 a0, .int .u64 a1, .int .u64 a2, .int .u64 a3], .int .i64 i] => if u64s a0 a1 a2 a3 && decide (0 ≤ i) && decide (i < 8) then some (.int .u64 (d32 a0 a1 a2 a3 i.toNat)) else none
  | _ => none
def tbR : List TbE := [⟨69, fun vs _ => sHalfR vs, .of i64⟩]
def uv (l : List Int) : List AV := l.map (.int .u64)
-- Add
def t71 : Tidy := ⟨dropT 41 [2, 3, 4, 5, 6, 7, 8], .rows [0, 1, 2, 3]⟩
def x71 : Tidy := ⟨dropT 41 [4, 5, 6, 7], .rows [2, 3]⟩
def s71 (a b o : List Int) (c i : Int) : St := (envOf 41 [(2, .ptr (some (0, 0))), (3, .ptr (some (1, 0))), (4, .ptr (some (2, 0))), (5, .bool false), (6, .ptr (some (3, 0))), (7, .int .u64 c), (8, .int .i64 i)], [.row 24 4 (uv a), .row 24 4 (uv b), .row 24 4 [.int .u64 0, .int .u64 0, .int .u64 0, .int .u64 0], .row 24 4 (uv o)])
def e71 (o : List Int) (c : Int) : St := (envOf 41 [(4, .ptr (some (0, 0))), (5, .bool false), (6, .ptr (some (1, 0))), (7, .int .u64 c)], [.row 24 4 [.int .u64 0, .int .u64 0, .int .u64 0, .int .u64 0], .row 24 4 (uv o)])
def C71l : Cfg := tbC Q [] (fun k => k == 0 || k == 1 || k == 3) kdU
def C71 (a0 a1 a2 a3 b0 b1 b2 b3 : Int) : Cfg := { tbC Q [] (fun _ => false) kdU with
  lw := fun id => if id = 4 then some fun st K => st = s71 [a0, a1, a2, a3] [b0, b1, b2, b3] [0, 0, 0, 0] 0 0 ∧ ∀ o0 o1 o2 o3 c : Int, (num4 a0 a1 a2 a3 + num4 b0 b1 b2 b3 = o0 + 18446744073709551616 * (o1 + 18446744073709551616 * (o2 + 18446744073709551616 * (o3 + 18446744073709551616 * c))) ∧ u64s o0 o1 o2 o3 = true ∧ 0 ≤ c ∧ c ≤ 1) → K (.exit 0) (e71 [o0, o1, o2, o3] c) else none
  F := fun id => if id = 4 then t71 else ⟨[], .all⟩ }
-- Mul
def t69 : Tidy := ⟨dropT 82 [2, 3, 4, 5, 6, 7], .rows [0, 1, 2, 3, 4]⟩
def x69 : Tidy := ⟨dropT 82 [4, 5, 6], .rows [2, 3, 4]⟩
def t69i : Tidy := ⟨dropT 82 [2, 3, 4, 5, 6, 7, 8, 9], .rows [0, 1, 2, 3, 4]⟩
def x69i : Tidy := ⟨dropT 82 [2, 3, 4, 5, 6, 7, 8], .rows [0, 1, 2, 3, 4]⟩
def z4 : AObj := .row 24 4 [.int .u64 0, .int .u64 0, .int .u64 0, .int .u64 0]
def s69 (a0 a1 a2 a3 b0 b1 b2 b3 : Int) (d : List Int) (i : Int) : St := (envOf 82 [(2, .ptr (some (0, 0))), (3, .ptr (some (1, 0))), (4, .ptr (some (2, 0))), (5, .ptr (some (3, 0))), (6, .ptr (some (4, 0))), (7, .int .i64 i)], [.row 24 4 (uv [a0, a1, a2, a3]), .row 24 4 (uv [b0, b1, b2, b3]), z4, z4, .row 92 16 (uv d)])
def s69i (a0 a1 a2 a3 b0 b1 b2 b3 : Int) (d : List Int) (c i k : Int) : St := (envOf 82 [(2, .ptr (some (0, 0))), (3, .ptr (some (1, 0))), (4, .ptr (some (2, 0))), (5, .ptr (some (3, 0))), (6, .ptr (some (4, 0))), (7, .int .i64 i), (8, .int .u64 c), (9, .int .i64 k)], [.row 24 4 (uv [a0, a1, a2, a3]), .row 24 4 (uv [b0, b1, b2, b3]), z4, z4, .row 92 16 (uv d)])
def e69i (a0 a1 a2 a3 b0 b1 b2 b3 : Int) (d : List Int) (c i : Int) : St := (envOf 82 [(2, .ptr (some (0, 0))), (3, .ptr (some (1, 0))), (4, .ptr (some (2, 0))), (5, .ptr (some (3, 0))), (6, .ptr (some (4, 0))), (7, .int .i64 i), (8, .int .u64 c)], [.row 24 4 (uv [a0, a1, a2, a3]), .row 24 4 (uv [b0, b1, b2, b3]), z4, z4, .row 92 16 (uv d)])
def e69 (d : List Int) : St := (envOf 82 [(4, .ptr (some (0, 0))), (5, .ptr (some (1, 0))), (6, .ptr (some (2, 0)))], [z4, z4, .row 92 16 (uv d)])
def C69i : Cfg := tbC Q tbR (fun k => k == 4) kdU
/-- Digits to the base 2^32. -/
def val : List Int → Int
  | [] => 0
  | x :: l => x + 4294967296 * val l
def dig (d : List Int) : Prop := ∀ x ∈ d, 0 ≤ x ∧ x < 4294967296
/-- The sum of the first so many digits of b, each at its place. -/
def pd (f : Nat → Int) : Nat → Int
  | 0 => 0
  | k + 1 => pd f k + f k * 4294967296 ^ k
def row69 (a0 a1 a2 a3 b0 b1 b2 b3 : Int) (i : Nat) (d : List Int) (d' : List Int) (c : Int) : Prop :=
  d'.length = 16 ∧ dig d' ∧ 0 ≤ c ∧ c < 4294967296 ∧ (∀ j, i + 8 ≤ j → d'[j]? = d[j]?) ∧ val d' + c * 4294967296 ^ (i + 8) = val d + d32 a0 a1 a2 a3 i * num4 b0 b1 b2 b3 * 4294967296 ^ i
def C69l (a0 a1 a2 a3 b0 b1 b2 b3 : Int) : Cfg := { tbC Q tbR (fun k => k == 4) kdU with
  lw := fun id => if id = 7 then some fun st K => ∃ (i : Nat) (d : List Int), st = s69i a0 a1 a2 a3 b0 b1 b2 b3 d 0 i 0 ∧ (i < 8 ∧ d.length = 16 ∧ dig d) ∧ ∀ (d' : List Int) (c : Int), row69 a0 a1 a2 a3 b0 b1 b2 b3 i d d' c → K (.exit 2) (e69i a0 a1 a2 a3 b0 b1 b2 b3 d' c i) else none
  F := fun id => if id = 7 then t69i else ⟨[], .all⟩ }
def C69 (a0 a1 a2 a3 b0 b1 b2 b3 : Int) : Cfg := { tbC Q tbR (fun _ => false) kdU with
  lw := fun id => if id = 3 then some fun st K => st = s69 a0 a1 a2 a3 b0 b1 b2 b3 [0, 0, 0, 0, 0, 0, 0, 0, 0, 0, 0, 0, 0, 0, 0, 0] 0 ∧ ∀ d0 d1 d2 d3 d4 d5 d6 d7 d8 d9 d10 d11 d12 d13 d14 d15 : Int, (dig [d0, d1, d2, d3, d4, d5, d6, d7, d8, d9, d10, d11, d12, d13, d14, d15] ∧ val [d0, d1, d2, d3, d4, d5, d6, d7, d8, d9, d10, d11, d12, d13, d14, d15] = num4 a0 a1 a2 a3 * num4 b0 b1 b2 b3) → K (.exit 0) (e69 [d0, d1, d2, d3, d4, d5, d6, d7, d8, d9, d10, d11, d12, d13, d14, d15]) else none
  F := fun id => if id = 3 then t69 else ⟨[], .all⟩ }

theorem v79_0 (a0 a1 a2 a3 : Int) (R : AV → AHeap → Prop) : (R (AV.int .u64 (Int.tmod (Int.fdiv a0 (2 ^ min 0 (IntKind.bits .u64))) 4294967296)) [AObj.row 24 4 [AV.int .u64 a0, AV.int .u64 a1, AV.int .u64 a2, AV.int .u64 a3]]) = (wpF Tryd.prog CL0 60 p79 [(.agg [.int .u64 a0, .int .u64 a1, .int .u64 a2, .int .u64 a3]), .int .i64 0] [] R) := by kernel_rfl
theorem v79_1 (a0 a1 a2 a3 : Int) (R : AV → AHeap → Prop) : (R (AV.int .u64 (Int.tmod (Int.fdiv a0 (2 ^ min 32 (IntKind.bits .u64))) 4294967296)) [AObj.row 24 4 [AV.int .u64 a0, AV.int .u64 a1, AV.int .u64 a2, AV.int .u64 a3]]) = (wpF Tryd.prog CL0 60 p79 [(.agg [.int .u64 a0, .int .u64 a1, .int .u64 a2, .int .u64 a3]), .int .i64 1] [] R) := by kernel_rfl
theorem v79_2 (a0 a1 a2 a3 : Int) (R : AV → AHeap → Prop) : (R (AV.int .u64 (Int.tmod (Int.fdiv a1 (2 ^ min 0 (IntKind.bits .u64))) 4294967296)) [AObj.row 24 4 [AV.int .u64 a0, AV.int .u64 a1, AV.int .u64 a2, AV.int .u64 a3]]) = (wpF Tryd.prog CL0 60 p79 [(.agg [.int .u64 a0, .int .u64 a1, .int .u64 a2, .int .u64 a3]), .int .i64 2] [] R) := by kernel_rfl
theorem v79_3 (a0 a1 a2 a3 : Int) (R : AV → AHeap → Prop) : (R (AV.int .u64 (Int.tmod (Int.fdiv a1 (2 ^ min 32 (IntKind.bits .u64))) 4294967296)) [AObj.row 24 4 [AV.int .u64 a0, AV.int .u64 a1, AV.int .u64 a2, AV.int .u64 a3]]) = (wpF Tryd.prog CL0 60 p79 [(.agg [.int .u64 a0, .int .u64 a1, .int .u64 a2, .int .u64 a3]), .int .i64 3] [] R) := by kernel_rfl
theorem v79_4 (a0 a1 a2 a3 : Int) (R : AV → AHeap → Prop) : (R (AV.int .u64 (Int.tmod (Int.fdiv a2 (2 ^ min 0 (IntKind.bits .u64))) 4294967296)) [AObj.row 24 4 [AV.int .u64 a0, AV.int .u64 a1, AV.int .u64 a2, AV.int .u64 a3]]) = (wpF Tryd.prog CL0 60 p79 [(.agg [.int .u64 a0, .int .u64 a1, .int .u64 a2, .int .u64 a3]), .int .i64 4] [] R) := by kernel_rfl
theorem v79_5 (a0 a1 a2 a3 : Int) (R : AV → AHeap → Prop) : (R (AV.int .u64 (Int.tmod (Int.fdiv a2 (2 ^ min 32 (IntKind.bits .u64))) 4294967296)) [AObj.row 24 4 [AV.int .u64 a0, AV.int .u64 a1, AV.int .u64 a2, AV.int .u64 a3]]) = (wpF Tryd.prog CL0 60 p79 [(.agg [.int .u64 a0, .int .u64 a1, .int .u64 a2, .int .u64 a3]), .int .i64 5] [] R) := by kernel_rfl
theorem v79_6 (a0 a1 a2 a3 : Int) (R : AV → AHeap → Prop) : (R (AV.int .u64 (Int.tmod (Int.fdiv a3 (2 ^ min 0 (IntKind.bits .u64))) 4294967296)) [AObj.row 24 4 [AV.int .u64 a0, AV.int .u64 a1, AV.int .u64 a2, AV.int .u64 a3]]) = (wpF Tryd.prog CL0 60 p79 [(.agg [.int .u64 a0, .int .u64 a1, .int .u64 a2, .int .u64 a3]), .int .i64 6] [] R) := by kernel_rfl
theorem v79_7 (a0 a1 a2 a3 : Int) (R : AV → AHeap → Prop) : (R (AV.int .u64 (Int.tmod (Int.fdiv a3 (2 ^ min 32 (IntKind.bits .u64))) 4294967296)) [AObj.row 24 4 [AV.int .u64 a0, AV.int .u64 a1, AV.int .u64 a2, AV.int .u64 a3]]) = (wpF Tryd.prog CL0 60 p79 [(.agg [.int .u64 a0, .int .u64 a1, .int .u64 a2, .int .u64 a3]), .int .i64 7] [] R) := by kernel_rfl
theorem v70 (a : Int) (R : AV → AHeap → Prop) : (R (AV.agg [AV.int .u64 a, AV.int .u64 0, AV.int .u64 0, AV.int .u64 0]) [AObj.row 24 4 [AV.int .u64 a, AV.int .u64 0, AV.int .u64 0, AV.int .u64 0]]) = (wpF Tryd.prog CL0 60 p70 [.int .u64 a] [] R) := by kernel_rfl
theorem v71b (a b o : List Int) (c : Int) (i : Nat) (K : AExit → St → Prop) : (askB (decide ((↑i : Int) < 4)) (chkW (decide ((↑i : Int) < 4)) (∃ (n : Int), (Option.bind (cellsAt [AObj.row 24 4 (uv a), AObj.row 24 4 (uv b), AObj.row 24 4 [AV.int .u64 0, AV.int .u64 0, AV.int .u64 0, AV.int .u64 0], AObj.row 24 4 (uv o)] 0) fun (x : List AV) => partR none x (0 + i * 1)) = some (AV.int .u64 n) ∧ chkW (decide ((↑i : Int) < 4)) (∃ (n_1 : Int), (Option.bind (cellsAt [AObj.row 24 4 (uv a), AObj.row 24 4 (uv b), AObj.row 24 4 [AV.int .u64 0, AV.int .u64 0, AV.int .u64 0, AV.int .u64 0], AObj.row 24 4 (uv o)] 1) fun (x : List AV) => partR none x (0 + i * 1)) = some (AV.int .u64 n_1) ∧ chkW (decide ((↑i : Int) < 4)) (∃ (n_2 : Int), (Option.bind (cellsAt [AObj.row 24 4 (uv a), AObj.row 24 4 (uv b), AObj.row 24 4 [AV.int .u64 0, AV.int .u64 0, AV.int .u64 0, AV.int .u64 0], AObj.row 24 4 (uv o)] 0) fun (x : List AV) => partR none x (0 + i * 1)) = some (AV.int .u64 n_2) ∧ askB (decide (IntKind.wrap .u64 (n + n_1) < n_2)) (chkW (decide ((↑i : Int) < 4)) (∃ (t : TypeId), ∃ (s : Nat), ∃ (cs : List AV), some (AObj.row 24 4 (uv o)) = some (AObj.row t s cs) ∧ chkW (decide (0 + i * 1 + 1 ≤ List.length cs)) (chkW (decide ((↑i : Int) < 4)) (∃ (n_3 : Int), (Option.bind (cellsAt [AObj.row 24 4 (uv a), AObj.row 24 4 (uv b), AObj.row 24 4 [AV.int .u64 0, AV.int .u64 0, AV.int .u64 0, AV.int .u64 0], AObj.row t s (spliceA cs (0 + i * 1) (AV.cells (AV.int .u64 (IntKind.wrap .u64 (IntKind.wrap .u64 (n + n_1) + c)))))] 3) fun (x : List AV) => partR none x (0 + i * 1)) = some (AV.int .u64 n_3) ∧ askB (decide (n_3 < IntKind.wrap .u64 (n + n_1))) (chkW (objClosed (AObj.row 24 4 (uv a))) (chkW (objClosed (AObj.row 24 4 (uv b))) (chkW (objClosed (AObj.row t s (spliceA cs (0 + i * 1) (AV.cells (AV.int .u64 (IntKind.wrap .u64 (IntKind.wrap .u64 (n + n_1) + c))))))) (K AExit.normal (envOf 41 [(2, AV.ptr (some (0, 0))), (3, AV.ptr (some (1, 0))), (4, AV.ptr (some (2, 0))), (5, AV.bool false), (6, AV.ptr (some (3, 0))), (7, AV.int .u64 1), (8, AV.int .i64 (IntKind.wrap .i64 ((↑i : Int) + 1)))], [AObj.row 24 4 (uv a), AObj.row 24 4 (uv b), AObj.row 24 4 [AV.int .u64 0, AV.int .u64 0, AV.int .u64 0, AV.int .u64 0], AObj.row t s (spliceA cs (0 + i * 1) (AV.cells (AV.int .u64 (IntKind.wrap .u64 (IntKind.wrap .u64 (n + n_1) + c)))))]))))) (chkW (objClosed (AObj.row 24 4 (uv a))) (chkW (objClosed (AObj.row 24 4 (uv b))) (chkW (objClosed (AObj.row t s (spliceA cs (0 + i * 1) (AV.cells (AV.int .u64 (IntKind.wrap .u64 (IntKind.wrap .u64 (n + n_1) + c))))))) (K AExit.normal (envOf 41 [(2, AV.ptr (some (0, 0))), (3, AV.ptr (some (1, 0))), (4, AV.ptr (some (2, 0))), (5, AV.bool false), (6, AV.ptr (some (3, 0))), (7, AV.int .u64 1), (8, AV.int .i64 (IntKind.wrap .i64 ((↑i : Int) + 1)))], [AObj.row 24 4 (uv a), AObj.row 24 4 (uv b), AObj.row 24 4 [AV.int .u64 0, AV.int .u64 0, AV.int .u64 0, AV.int .u64 0], AObj.row t s (spliceA cs (0 + i * 1) (AV.cells (AV.int .u64 (IntKind.wrap .u64 (IntKind.wrap .u64 (n + n_1) + c)))))]))))))))) (chkW (decide ((↑i : Int) < 4)) (∃ (t : TypeId), ∃ (s : Nat), ∃ (cs : List AV), some (AObj.row 24 4 (uv o)) = some (AObj.row t s cs) ∧ chkW (decide (0 + i * 1 + 1 ≤ List.length cs)) (chkW (decide ((↑i : Int) < 4)) (∃ (n_3 : Int), (Option.bind (cellsAt [AObj.row 24 4 (uv a), AObj.row 24 4 (uv b), AObj.row 24 4 [AV.int .u64 0, AV.int .u64 0, AV.int .u64 0, AV.int .u64 0], AObj.row t s (spliceA cs (0 + i * 1) (AV.cells (AV.int .u64 (IntKind.wrap .u64 (IntKind.wrap .u64 (n + n_1) + c)))))] 3) fun (x : List AV) => partR none x (0 + i * 1)) = some (AV.int .u64 n_3) ∧ askB (decide (n_3 < IntKind.wrap .u64 (n + n_1))) (chkW (objClosed (AObj.row 24 4 (uv a))) (chkW (objClosed (AObj.row 24 4 (uv b))) (chkW (objClosed (AObj.row t s (spliceA cs (0 + i * 1) (AV.cells (AV.int .u64 (IntKind.wrap .u64 (IntKind.wrap .u64 (n + n_1) + c))))))) (K AExit.normal (envOf 41 [(2, AV.ptr (some (0, 0))), (3, AV.ptr (some (1, 0))), (4, AV.ptr (some (2, 0))), (5, AV.bool false), (6, AV.ptr (some (3, 0))), (7, AV.int .u64 1), (8, AV.int .i64 (IntKind.wrap .i64 ((↑i : Int) + 1)))], [AObj.row 24 4 (uv a), AObj.row 24 4 (uv b), AObj.row 24 4 [AV.int .u64 0, AV.int .u64 0, AV.int .u64 0, AV.int .u64 0], AObj.row t s (spliceA cs (0 + i * 1) (AV.cells (AV.int .u64 (IntKind.wrap .u64 (IntKind.wrap .u64 (n + n_1) + c)))))]))))) (chkW (objClosed (AObj.row 24 4 (uv a))) (chkW (objClosed (AObj.row 24 4 (uv b))) (chkW (objClosed (AObj.row t s (spliceA cs (0 + i * 1) (AV.cells (AV.int .u64 (IntKind.wrap .u64 (IntKind.wrap .u64 (n + n_1) + c))))))) (K AExit.normal (envOf 41 [(2, AV.ptr (some (0, 0))), (3, AV.ptr (some (1, 0))), (4, AV.ptr (some (2, 0))), (5, AV.bool false), (6, AV.ptr (some (3, 0))), (7, AV.int .u64 0), (8, AV.int .i64 (IntKind.wrap .i64 ((↑i : Int) + 1)))], [AObj.row 24 4 (uv a), AObj.row 24 4 (uv b), AObj.row 24 4 [AV.int .u64 0, AV.int .u64 0, AV.int .u64 0, AV.int .u64 0], AObj.row t s (spliceA cs (0 + i * 1) (AV.cells (AV.int .u64 (IntKind.wrap .u64 (IntKind.wrap .u64 (n + n_1) + c)))))]))))))))))))) (chkW (objClosed (AObj.row 24 4 (uv a))) (chkW (objClosed (AObj.row 24 4 (uv b))) (chkW (objClosed (AObj.row 24 4 (uv o))) (K (AExit.exit 0) (envOf 41 [(4, AV.ptr (some (0, 0))), (5, AV.bool false), (6, AV.ptr (some (1, 0))), (7, AV.int .u64 c)], [AObj.row 24 4 [AV.int .u64 0, AV.int .u64 0, AV.int .u64 0, AV.int .u64 0], AObj.row 24 4 (uv o)])))))) = (wpP Tryd.prog C71l 60 (.inl p71_l0) (s71 a b o c i) (postX C71l t71 x71 x71 K)) := by kernel_rfl
theorem v71 (a0 a1 a2 a3 b0 b1 b2 b3 : Int) (R : AV → AHeap → Prop) : ((envOf 41 [(2, AV.ptr (some (0, 0))), (3, AV.ptr (some (1, 0))), (4, AV.ptr (some (2, 0))), (5, AV.bool false), (6, AV.ptr (some (3, 0))), (7, AV.int .u64 0), (8, AV.int .i64 0)], [AObj.row 24 4 [AV.int .u64 a0, AV.int .u64 a1, AV.int .u64 a2, AV.int .u64 a3], AObj.row 24 4 [AV.int .u64 b0, AV.int .u64 b1, AV.int .u64 b2, AV.int .u64 b3], AObj.row 24 4 [AV.int .u64 0, AV.int .u64 0, AV.int .u64 0, AV.int .u64 0], AObj.row 24 4 [AV.int .u64 0, AV.int .u64 0, AV.int .u64 0, AV.int .u64 0]]) = (envOf 41 [(2, AV.ptr (some (0, 0))), (3, AV.ptr (some (1, 0))), (4, AV.ptr (some (2, 0))), (5, AV.bool false), (6, AV.ptr (some (3, 0))), (7, AV.int .u64 0), (8, AV.int .i64 0)], [AObj.row 24 4 [AV.int .u64 a0, AV.int .u64 a1, AV.int .u64 a2, AV.int .u64 a3], AObj.row 24 4 [AV.int .u64 b0, AV.int .u64 b1, AV.int .u64 b2, AV.int .u64 b3], AObj.row 24 4 [AV.int .u64 0, AV.int .u64 0, AV.int .u64 0, AV.int .u64 0], AObj.row 24 4 [AV.int .u64 0, AV.int .u64 0, AV.int .u64 0, AV.int .u64 0]]) ∧ ∀ (o0 o1 o2 o3 c : Int), num4 a0 a1 a2 a3 + num4 b0 b1 b2 b3 = o0 + 18446744073709551616 * (o1 + 18446744073709551616 * (o2 + 18446744073709551616 * (o3 + 18446744073709551616 * c))) ∧ u64s o0 o1 o2 o3 = true ∧ 0 ≤ c ∧ c ≤ 1 → askB (c == 1) (R (AV.tup [AV.agg [AV.int .u64 o0, AV.int .u64 o1, AV.int .u64 o2, AV.int .u64 o3], AV.bool true]) [AObj.row 24 4 [AV.int .u64 o0, AV.int .u64 o1, AV.int .u64 o2, AV.int .u64 o3], AObj.row 24 4 [AV.int .u64 o0, AV.int .u64 o1, AV.int .u64 o2, AV.int .u64 o3]]) (R (AV.tup [AV.agg [AV.int .u64 o0, AV.int .u64 o1, AV.int .u64 o2, AV.int .u64 o3], AV.bool false]) [AObj.row 24 4 [AV.int .u64 o0, AV.int .u64 o1, AV.int .u64 o2, AV.int .u64 o3], AObj.row 24 4 [AV.int .u64 o0, AV.int .u64 o1, AV.int .u64 o2, AV.int .u64 o3]])) = (wpF Tryd.prog (C71 a0 a1 a2 a3 b0 b1 b2 b3) 100 p71 [(.agg [.int .u64 a0, .int .u64 a1, .int .u64 a2, .int .u64 a3]), (.agg [.int .u64 b0, .int .u64 b1, .int .u64 b2, .int .u64 b3])] [] R) := by kernel_rfl
theorem v69i (a0 a1 a2 a3 b0 b1 b2 b3 : Int) (d : List Int) (c : Int) (i k : Nat) (K : AExit → St → Prop) : (askB (decide ((↑k : Int) < 8)) (chkW (decide (0 ≤ IntKind.wrap .i64 ((↑i : Int) + (↑k : Int)))) (chkW (decide (IntKind.wrap .i64 ((↑i : Int) + (↑k : Int)) < 16)) (∃ (n : Int), (Option.bind (cellsAt [AObj.row 24 4 [AV.int .u64 a0, AV.int .u64 a1, AV.int .u64 a2, AV.int .u64 a3], AObj.row 24 4 [AV.int .u64 b0, AV.int .u64 b1, AV.int .u64 b2, AV.int .u64 b3], AObj.row 24 4 [AV.int .u64 0, AV.int .u64 0, AV.int .u64 0, AV.int .u64 0], AObj.row 24 4 [AV.int .u64 0, AV.int .u64 0, AV.int .u64 0, AV.int .u64 0], AObj.row 92 16 (uv d)] 4) fun (x : List AV) => partR none x (0 + Int.toNat (IntKind.wrap .i64 ((↑i : Int) + (↑k : Int))) * 1)) = some (AV.int .u64 n) ∧ ∃ (n_1 : Int), TbE.s { f := 69, s := fun (vs : List AV) (x : AHeap) => sHalfR vs, r := Rs.of i64 } [AV.agg [AV.int .u64 a0, AV.int .u64 a1, AV.int .u64 a2, AV.int .u64 a3], AV.int .i64 (↑i : Int)] [AObj.row 24 4 [AV.int .u64 a0, AV.int .u64 a1, AV.int .u64 a2, AV.int .u64 a3], AObj.row 24 4 [AV.int .u64 b0, AV.int .u64 b1, AV.int .u64 b2, AV.int .u64 b3], AObj.row 24 4 [AV.int .u64 0, AV.int .u64 0, AV.int .u64 0, AV.int .u64 0], AObj.row 24 4 [AV.int .u64 0, AV.int .u64 0, AV.int .u64 0, AV.int .u64 0], AObj.row 92 16 (uv d)] = some (AV.int .u64 n_1) ∧ ∃ (n_2 : Int), TbE.s { f := 69, s := fun (vs : List AV) (x : AHeap) => sHalfR vs, r := Rs.of i64 } [AV.agg [AV.int .u64 b0, AV.int .u64 b1, AV.int .u64 b2, AV.int .u64 b3], AV.int .i64 (↑k : Int)] [AObj.row 24 4 [AV.int .u64 a0, AV.int .u64 a1, AV.int .u64 a2, AV.int .u64 a3], AObj.row 24 4 [AV.int .u64 b0, AV.int .u64 b1, AV.int .u64 b2, AV.int .u64 b3], AObj.row 24 4 [AV.int .u64 0, AV.int .u64 0, AV.int .u64 0, AV.int .u64 0], AObj.row 24 4 [AV.int .u64 0, AV.int .u64 0, AV.int .u64 0, AV.int .u64 0], AObj.row 92 16 (uv d)] = some (AV.int .u64 n_2) ∧ chkW (decide (0 ≤ IntKind.wrap .i64 ((↑i : Int) + (↑k : Int)))) (chkW (decide (IntKind.wrap .i64 ((↑i : Int) + (↑k : Int)) < 16)) (∃ (t : TypeId), ∃ (s : Nat), ∃ (cs : List AV), some (AObj.row 92 16 (uv d)) = some (AObj.row t s cs) ∧ chkW (decide (0 + Int.toNat (IntKind.wrap .i64 ((↑i : Int) + (↑k : Int))) * 1 + 1 ≤ List.length cs)) (chkW (objClosed (AObj.row t s (spliceA cs (0 + Int.toNat (IntKind.wrap .i64 ((↑i : Int) + (↑k : Int))) * 1) (AV.cells (AV.int .u64 (Int.tmod (IntKind.wrap .u64 (IntKind.wrap .u64 (n + IntKind.wrap .u64 (n_1 * n_2)) + c)) 4294967296)))))) (K AExit.normal (envOf 82 [(2, AV.ptr (some (0, 0))), (3, AV.ptr (some (1, 0))), (4, AV.ptr (some (2, 0))), (5, AV.ptr (some (3, 0))), (6, AV.ptr (some (4, 0))), (7, AV.int .i64 (↑i : Int)), (8, AV.int .u64 (Int.fdiv (IntKind.wrap .u64 (IntKind.wrap .u64 (n + IntKind.wrap .u64 (n_1 * n_2)) + c)) (2 ^ min 32 (IntKind.bits .u64)))), (9, AV.int .i64 (IntKind.wrap .i64 ((↑k : Int) + 1)))], [AObj.row 24 4 [AV.int .u64 a0, AV.int .u64 a1, AV.int .u64 a2, AV.int .u64 a3], AObj.row 24 4 [AV.int .u64 b0, AV.int .u64 b1, AV.int .u64 b2, AV.int .u64 b3], AObj.row 24 4 [AV.int .u64 0, AV.int .u64 0, AV.int .u64 0, AV.int .u64 0], AObj.row 24 4 [AV.int .u64 0, AV.int .u64 0, AV.int .u64 0, AV.int .u64 0], AObj.row t s (spliceA cs (0 + Int.toNat (IntKind.wrap .i64 ((↑i : Int) + (↑k : Int))) * 1) (AV.cells (AV.int .u64 (Int.tmod (IntKind.wrap .u64 (IntKind.wrap .u64 (n + IntKind.wrap .u64 (n_1 * n_2)) + c)) 4294967296))))])))))))) (chkW (objClosed (AObj.row 92 16 (uv d))) (K (AExit.exit 2) (envOf 82 [(2, AV.ptr (some (0, 0))), (3, AV.ptr (some (1, 0))), (4, AV.ptr (some (2, 0))), (5, AV.ptr (some (3, 0))), (6, AV.ptr (some (4, 0))), (7, AV.int .i64 (↑i : Int)), (8, AV.int .u64 c)], [AObj.row 24 4 [AV.int .u64 a0, AV.int .u64 a1, AV.int .u64 a2, AV.int .u64 a3], AObj.row 24 4 [AV.int .u64 b0, AV.int .u64 b1, AV.int .u64 b2, AV.int .u64 b3], AObj.row 24 4 [AV.int .u64 0, AV.int .u64 0, AV.int .u64 0, AV.int .u64 0], AObj.row 24 4 [AV.int .u64 0, AV.int .u64 0, AV.int .u64 0, AV.int .u64 0], AObj.row 92 16 (uv d)])))) = (wpP Tryd.prog C69i 60 (.inl p69_l1) (s69i a0 a1 a2 a3 b0 b1 b2 b3 d c i k) (postX C69i t69i x69i x69i K)) := by kernel_rfl
theorem v69b (a0 a1 a2 a3 b0 b1 b2 b3 : Int) (d : List Int) (i : Nat) (K : AExit → St → Prop) : (askB (decide ((↑i : Int) < 8)) (chkW (objClosed (AObj.row 92 16 (uv d))) (∃ (i_1 : Nat), ∃ (d_1 : List Int), (envOf 82 [(2, AV.ptr (some (0, 0))), (3, AV.ptr (some (1, 0))), (4, AV.ptr (some (2, 0))), (5, AV.ptr (some (3, 0))), (6, AV.ptr (some (4, 0))), (7, AV.int .i64 (↑i : Int)), (8, AV.int .u64 0), (9, AV.int .i64 0)], [AObj.row 24 4 [AV.int .u64 a0, AV.int .u64 a1, AV.int .u64 a2, AV.int .u64 a3], AObj.row 24 4 [AV.int .u64 b0, AV.int .u64 b1, AV.int .u64 b2, AV.int .u64 b3], AObj.row 24 4 [AV.int .u64 0, AV.int .u64 0, AV.int .u64 0, AV.int .u64 0], AObj.row 24 4 [AV.int .u64 0, AV.int .u64 0, AV.int .u64 0, AV.int .u64 0], AObj.row 92 16 (uv d)]) = (envOf 82 [(2, AV.ptr (some (0, 0))), (3, AV.ptr (some (1, 0))), (4, AV.ptr (some (2, 0))), (5, AV.ptr (some (3, 0))), (6, AV.ptr (some (4, 0))), (7, AV.int .i64 (↑i_1 : Int)), (8, AV.int .u64 0), (9, AV.int .i64 0)], [AObj.row 24 4 [AV.int .u64 a0, AV.int .u64 a1, AV.int .u64 a2, AV.int .u64 a3], AObj.row 24 4 [AV.int .u64 b0, AV.int .u64 b1, AV.int .u64 b2, AV.int .u64 b3], AObj.row 24 4 [AV.int .u64 0, AV.int .u64 0, AV.int .u64 0, AV.int .u64 0], AObj.row 24 4 [AV.int .u64 0, AV.int .u64 0, AV.int .u64 0, AV.int .u64 0], AObj.row 92 16 (uv d_1)]) ∧ (i_1 < 8 ∧ List.length d_1 = 16 ∧ dig d_1) ∧ ∀ (d' : List Int) (c : Int), row69 a0 a1 a2 a3 b0 b1 b2 b3 i_1 d_1 d' c → chkW (decide (0 ≤ IntKind.wrap .i64 ((↑i_1 : Int) + 8))) (chkW (decide (IntKind.wrap .i64 ((↑i_1 : Int) + 8) < 16)) (∃ (t : TypeId), ∃ (s : Nat), ∃ (cs : List AV), some (AObj.row 92 16 (uv d')) = some (AObj.row t s cs) ∧ chkW (decide (0 + Int.toNat (IntKind.wrap .i64 ((↑i_1 : Int) + 8)) * 1 + 1 ≤ List.length cs)) (chkW (objClosed (AObj.row t s (spliceA cs (0 + Int.toNat (IntKind.wrap .i64 ((↑i_1 : Int) + 8)) * 1) (AV.cells (AV.int .u64 c))))) (K AExit.normal (envOf 82 [(2, AV.ptr (some (0, 0))), (3, AV.ptr (some (1, 0))), (4, AV.ptr (some (2, 0))), (5, AV.ptr (some (3, 0))), (6, AV.ptr (some (4, 0))), (7, AV.int .i64 (IntKind.wrap .i64 ((↑i_1 : Int) + 1)))], [AObj.row 24 4 [AV.int .u64 a0, AV.int .u64 a1, AV.int .u64 a2, AV.int .u64 a3], AObj.row 24 4 [AV.int .u64 b0, AV.int .u64 b1, AV.int .u64 b2, AV.int .u64 b3], AObj.row 24 4 [AV.int .u64 0, AV.int .u64 0, AV.int .u64 0, AV.int .u64 0], AObj.row 24 4 [AV.int .u64 0, AV.int .u64 0, AV.int .u64 0, AV.int .u64 0], AObj.row t s (spliceA cs (0 + Int.toNat (IntKind.wrap .i64 ((↑i_1 : Int) + 8)) * 1) (AV.cells (AV.int .u64 c)))]))))))) (chkW (objClosed (AObj.row 92 16 (uv d))) (K (AExit.exit 0) (envOf 82 [(4, AV.ptr (some (0, 0))), (5, AV.ptr (some (1, 0))), (6, AV.ptr (some (2, 0)))], [AObj.row 24 4 [AV.int .u64 0, AV.int .u64 0, AV.int .u64 0, AV.int .u64 0], AObj.row 24 4 [AV.int .u64 0, AV.int .u64 0, AV.int .u64 0, AV.int .u64 0], AObj.row 92 16 (uv d)])))) = (wpP Tryd.prog (C69l a0 a1 a2 a3 b0 b1 b2 b3) 60 (.inl p69_l2) (s69 a0 a1 a2 a3 b0 b1 b2 b3 d i) (postX (C69l a0 a1 a2 a3 b0 b1 b2 b3) t69 x69 x69 K)) := by kernel_rfl
theorem v69 (a0 a1 a2 a3 b0 b1 b2 b3 : Int) (R : AV → AHeap → Prop) : ((envOf 82 [(2, AV.ptr (some (0, 0))), (3, AV.ptr (some (1, 0))), (4, AV.ptr (some (2, 0))), (5, AV.ptr (some (3, 0))), (6, AV.ptr (some (4, 0))), (7, AV.int .i64 0)], [AObj.row 24 4 [AV.int .u64 a0, AV.int .u64 a1, AV.int .u64 a2, AV.int .u64 a3], AObj.row 24 4 [AV.int .u64 b0, AV.int .u64 b1, AV.int .u64 b2, AV.int .u64 b3], AObj.row 24 4 [AV.int .u64 0, AV.int .u64 0, AV.int .u64 0, AV.int .u64 0], AObj.row 24 4 [AV.int .u64 0, AV.int .u64 0, AV.int .u64 0, AV.int .u64 0], AObj.row 92 16 [AV.int .u64 0, AV.int .u64 0, AV.int .u64 0, AV.int .u64 0, AV.int .u64 0, AV.int .u64 0, AV.int .u64 0, AV.int .u64 0, AV.int .u64 0, AV.int .u64 0, AV.int .u64 0, AV.int .u64 0, AV.int .u64 0, AV.int .u64 0, AV.int .u64 0, AV.int .u64 0]]) = (envOf 82 [(2, AV.ptr (some (0, 0))), (3, AV.ptr (some (1, 0))), (4, AV.ptr (some (2, 0))), (5, AV.ptr (some (3, 0))), (6, AV.ptr (some (4, 0))), (7, AV.int .i64 0)], [AObj.row 24 4 [AV.int .u64 a0, AV.int .u64 a1, AV.int .u64 a2, AV.int .u64 a3], AObj.row 24 4 [AV.int .u64 b0, AV.int .u64 b1, AV.int .u64 b2, AV.int .u64 b3], AObj.row 24 4 [AV.int .u64 0, AV.int .u64 0, AV.int .u64 0, AV.int .u64 0], AObj.row 24 4 [AV.int .u64 0, AV.int .u64 0, AV.int .u64 0, AV.int .u64 0], AObj.row 92 16 [AV.int .u64 0, AV.int .u64 0, AV.int .u64 0, AV.int .u64 0, AV.int .u64 0, AV.int .u64 0, AV.int .u64 0, AV.int .u64 0, AV.int .u64 0, AV.int .u64 0, AV.int .u64 0, AV.int .u64 0, AV.int .u64 0, AV.int .u64 0, AV.int .u64 0, AV.int .u64 0]]) ∧ ∀ (d0 d1 d2 d3 d4 d5 d6 d7 d8 d9 d10 d11 d12 d13 d14 d15 : Int), dig [d0, d1, d2, d3, d4, d5, d6, d7, d8, d9, d10, d11, d12, d13, d14, d15] ∧ val [d0, d1, d2, d3, d4, d5, d6, d7, d8, d9, d10, d11, d12, d13, d14, d15] = num4 a0 a1 a2 a3 * num4 b0 b1 b2 b3 → R (AV.tup [AV.agg [AV.int .u64 (IntKind.wrap .u64 (d8 + IntKind.wrap .u64 (d9 * 2 ^ min 32 (IntKind.bits .u64)))), AV.int .u64 (IntKind.wrap .u64 (d10 + IntKind.wrap .u64 (d11 * 2 ^ min 32 (IntKind.bits .u64)))), AV.int .u64 (IntKind.wrap .u64 (d12 + IntKind.wrap .u64 (d13 * 2 ^ min 32 (IntKind.bits .u64)))), AV.int .u64 (IntKind.wrap .u64 (d14 + IntKind.wrap .u64 (d15 * 2 ^ min 32 (IntKind.bits .u64))))], AV.agg [AV.int .u64 (IntKind.wrap .u64 (d0 + IntKind.wrap .u64 (d1 * 2 ^ min 32 (IntKind.bits .u64)))), AV.int .u64 (IntKind.wrap .u64 (d2 + IntKind.wrap .u64 (d3 * 2 ^ min 32 (IntKind.bits .u64)))), AV.int .u64 (IntKind.wrap .u64 (d4 + IntKind.wrap .u64 (d5 * 2 ^ min 32 (IntKind.bits .u64)))), AV.int .u64 (IntKind.wrap .u64 (d6 + IntKind.wrap .u64 (d7 * 2 ^ min 32 (IntKind.bits .u64))))]]) [AObj.row 24 4 [AV.int .u64 (IntKind.wrap .u64 (d8 + IntKind.wrap .u64 (d9 * 2 ^ min 32 (IntKind.bits .u64)))), AV.int .u64 (IntKind.wrap .u64 (d10 + IntKind.wrap .u64 (d11 * 2 ^ min 32 (IntKind.bits .u64)))), AV.int .u64 (IntKind.wrap .u64 (d12 + IntKind.wrap .u64 (d13 * 2 ^ min 32 (IntKind.bits .u64)))), AV.int .u64 (IntKind.wrap .u64 (d14 + IntKind.wrap .u64 (d15 * 2 ^ min 32 (IntKind.bits .u64))))], AObj.row 24 4 [AV.int .u64 (IntKind.wrap .u64 (d0 + IntKind.wrap .u64 (d1 * 2 ^ min 32 (IntKind.bits .u64)))), AV.int .u64 (IntKind.wrap .u64 (d2 + IntKind.wrap .u64 (d3 * 2 ^ min 32 (IntKind.bits .u64)))), AV.int .u64 (IntKind.wrap .u64 (d4 + IntKind.wrap .u64 (d5 * 2 ^ min 32 (IntKind.bits .u64)))), AV.int .u64 (IntKind.wrap .u64 (d6 + IntKind.wrap .u64 (d7 * 2 ^ min 32 (IntKind.bits .u64))))], AObj.row 92 16 [AV.int .u64 d0, AV.int .u64 d1, AV.int .u64 d2, AV.int .u64 d3, AV.int .u64 d4, AV.int .u64 d5, AV.int .u64 d6, AV.int .u64 d7, AV.int .u64 d8, AV.int .u64 d9, AV.int .u64 d10, AV.int .u64 d11, AV.int .u64 d12, AV.int .u64 d13, AV.int .u64 d14, AV.int .u64 d15], AObj.row 24 4 [AV.int .u64 (IntKind.wrap .u64 (d8 + IntKind.wrap .u64 (d9 * 2 ^ min 32 (IntKind.bits .u64)))), AV.int .u64 (IntKind.wrap .u64 (d10 + IntKind.wrap .u64 (d11 * 2 ^ min 32 (IntKind.bits .u64)))), AV.int .u64 (IntKind.wrap .u64 (d12 + IntKind.wrap .u64 (d13 * 2 ^ min 32 (IntKind.bits .u64)))), AV.int .u64 (IntKind.wrap .u64 (d14 + IntKind.wrap .u64 (d15 * 2 ^ min 32 (IntKind.bits .u64))))], AObj.row 24 4 [AV.int .u64 (IntKind.wrap .u64 (d0 + IntKind.wrap .u64 (d1 * 2 ^ min 32 (IntKind.bits .u64)))), AV.int .u64 (IntKind.wrap .u64 (d2 + IntKind.wrap .u64 (d3 * 2 ^ min 32 (IntKind.bits .u64)))), AV.int .u64 (IntKind.wrap .u64 (d4 + IntKind.wrap .u64 (d5 * 2 ^ min 32 (IntKind.bits .u64)))), AV.int .u64 (IntKind.wrap .u64 (d6 + IntKind.wrap .u64 (d7 * 2 ^ min 32 (IntKind.bits .u64))))]]) = (wpF Tryd.prog (C69 a0 a1 a2 a3 b0 b1 b2 b3) 200 p69 [(.agg [.int .u64 a0, .int .u64 a1, .int .u64 a2, .int .u64 a3]), (.agg [.int .u64 b0, .int .u64 b1, .int .u64 b2, .int .u64 b3])] [] R) := by kernel_rfl

theorem uv_len (l : List Int) : (uv l).length = l.length := by simp [uv]
theorem uv_at {l : List Int} {j : Nat} {n : Int} (h : l[j]? = some n) : (uv l)[j]? = some (.int .u64 n) := by simp [uv, h]
theorem uv_splice {l : List Int} {j : Nat} (x : Int) (h : j < l.length) : spliceA (uv l) j (AV.cells (.int .u64 x)) = uv (l.set j x) := by
  have e : AV.cells (.int .u64 x) = [.int .u64 x] := rfl
  rw [e]
  unfold spliceA uv
  rw [List.set_eq_take_append_cons_drop, if_pos h]
  simp
theorem uv_ocl (t : TypeId) (s : Nat) (l : List Int) : objClosed (.row t s (uv l)) = true := by
  show AV.refsL _ _ _ = true
  rw [refsL_eq, List.all_eq_true]
  intro x hx
  simp only [uv, List.mem_map] at hx
  obtain ⟨c, _, rfl⟩ := hx
  rfl
theorem fdiv0 (x : Int) : Int.fdiv x (2 ^ min 0 (IntKind.bits .u64)) = x := by
  show Int.fdiv x 1 = x
  exact Int.fdiv_one x
theorem halfR_ok : QuietOK Tryd.prog 69 fun vs _ => sHalfR vs := quiet_plain ht79 fun args v h => by
  unfold sHalfR at h
  split at h
  · rename_i a0 a1 a2 a3 i
    split at h
    · rename_i hc
      cases h
      simp only [u64s, u64B, Bool.and_eq_true, decide_eq_true_eq] at hc
      obtain ⟨⟨⟨⟨⟨⟨p0, q0⟩, p1, q1⟩, p2, q2⟩, p3, q3⟩, hi⟩, hi2⟩ := hc
      refine ⟨rfl, rfl, ?_⟩
      have hS : (tbS Q []).OK Tryd.prog := tbS_ok quietText (by simp)
      have h8 : i = 0 ∨ i = 1 ∨ i = 2 ∨ i = 3 ∨ i = 4 ∨ i = 5 ∨ i = 6 ∨ i = 7 := by omega
      rcases h8 with rfl | rfl | rfl | rfl | rfl | rfl | rfl | rfl
      · obtain ⟨u, h', rfl, hsem⟩ := sem_vc mixed (C := CL0) hS (tbS_q _ _) (tbW_ok rfl) ht79 c79 (no_parts rfl) (v79_0 a0 a1 a2 a3 fun u _ => u = .int .u64 (d32 a0 a1 a2 a3 0)) (by
          simp only [fdiv0, fdiv32]
          rw [Int.tmod_eq_emod_of_nonneg (by omega)]
          have e : a0 % 4294967296 = a0 % 4294967296 := by omega
          rw [e]
          rfl)
        exact ⟨h', hsem⟩
      · obtain ⟨u, h', rfl, hsem⟩ := sem_vc mixed (C := CL0) hS (tbS_q _ _) (tbW_ok rfl) ht79 c79 (no_parts rfl) (v79_1 a0 a1 a2 a3 fun u _ => u = .int .u64 (d32 a0 a1 a2 a3 1)) (by
          simp only [fdiv0, fdiv32]
          rw [Int.tmod_eq_emod_of_nonneg (by omega)]
          have e : (a0 / 4294967296) % 4294967296 = a0 / 4294967296 := by omega
          rw [e]
          rfl)
        exact ⟨h', hsem⟩
      · obtain ⟨u, h', rfl, hsem⟩ := sem_vc mixed (C := CL0) hS (tbS_q _ _) (tbW_ok rfl) ht79 c79 (no_parts rfl) (v79_2 a0 a1 a2 a3 fun u _ => u = .int .u64 (d32 a0 a1 a2 a3 2)) (by
          simp only [fdiv0, fdiv32]
          rw [Int.tmod_eq_emod_of_nonneg (by omega)]
          have e : a1 % 4294967296 = a1 % 4294967296 := by omega
          rw [e]
          rfl)
        exact ⟨h', hsem⟩
      · obtain ⟨u, h', rfl, hsem⟩ := sem_vc mixed (C := CL0) hS (tbS_q _ _) (tbW_ok rfl) ht79 c79 (no_parts rfl) (v79_3 a0 a1 a2 a3 fun u _ => u = .int .u64 (d32 a0 a1 a2 a3 3)) (by
          simp only [fdiv0, fdiv32]
          rw [Int.tmod_eq_emod_of_nonneg (by omega)]
          have e : (a1 / 4294967296) % 4294967296 = a1 / 4294967296 := by omega
          rw [e]
          rfl)
        exact ⟨h', hsem⟩
      · obtain ⟨u, h', rfl, hsem⟩ := sem_vc mixed (C := CL0) hS (tbS_q _ _) (tbW_ok rfl) ht79 c79 (no_parts rfl) (v79_4 a0 a1 a2 a3 fun u _ => u = .int .u64 (d32 a0 a1 a2 a3 4)) (by
          simp only [fdiv0, fdiv32]
          rw [Int.tmod_eq_emod_of_nonneg (by omega)]
          have e : a2 % 4294967296 = a2 % 4294967296 := by omega
          rw [e]
          rfl)
        exact ⟨h', hsem⟩
      · obtain ⟨u, h', rfl, hsem⟩ := sem_vc mixed (C := CL0) hS (tbS_q _ _) (tbW_ok rfl) ht79 c79 (no_parts rfl) (v79_5 a0 a1 a2 a3 fun u _ => u = .int .u64 (d32 a0 a1 a2 a3 5)) (by
          simp only [fdiv0, fdiv32]
          rw [Int.tmod_eq_emod_of_nonneg (by omega)]
          have e : (a2 / 4294967296) % 4294967296 = a2 / 4294967296 := by omega
          rw [e]
          rfl)
        exact ⟨h', hsem⟩
      · obtain ⟨u, h', rfl, hsem⟩ := sem_vc mixed (C := CL0) hS (tbS_q _ _) (tbW_ok rfl) ht79 c79 (no_parts rfl) (v79_6 a0 a1 a2 a3 fun u _ => u = .int .u64 (d32 a0 a1 a2 a3 6)) (by
          simp only [fdiv0, fdiv32]
          rw [Int.tmod_eq_emod_of_nonneg (by omega)]
          have e : a3 % 4294967296 = a3 % 4294967296 := by omega
          rw [e]
          rfl)
        exact ⟨h', hsem⟩
      · obtain ⟨u, h', rfl, hsem⟩ := sem_vc mixed (C := CL0) hS (tbS_q _ _) (tbW_ok rfl) ht79 c79 (no_parts rfl) (v79_7 a0 a1 a2 a3 fun u _ => u = .int .u64 (d32 a0 a1 a2 a3 7)) (by
          simp only [fdiv0, fdiv32]
          rw [Int.tmod_eq_emod_of_nonneg (by omega)]
          have e : (a3 / 4294967296) % 4294967296 = a3 / 4294967296 := by omega
          rw [e]
          rfl)
        exact ⟨h', hsem⟩
    · cases h
  · cases h
theorem fromR_ok : QuietOK Tryd.prog 65 fun vs _ => sFrom vs := quiet_plain ht70 fun args v h => by
  unfold sFrom at h
  split at h <;> cases h
  rename_i a
  refine ⟨rfl, rfl, ?_⟩
  have hS : (tbS Q []).OK Tryd.prog := tbS_ok quietText (by simp)
  obtain ⟨u, h', rfl, hsem⟩ := sem_vc mixed (C := CL0) hS (tbS_q _ _) (tbW_ok rfl) ht70 c70 (no_parts rfl) (v70 a fun u _ => u = .agg [.int .u64 a, .int .u64 0, .int .u64 0, .int .u64 0]) rfl
  exact ⟨h', hsem⟩

theorem val_set : ∀ (d : List Int) (j : Nat) (n x : Int), d[j]? = some n → val (d.set j x) = val d + (x - n) * 4294967296 ^ j
  | [], j, n, x, h => by simp at h
  | y :: d, 0, n, x, h => by
    simp only [List.getElem?_cons_zero, Option.some.injEq] at h
    subst h
    simp only [List.set_cons_zero, val, Int.pow_zero]
    omega
  | y :: d, j + 1, n, x, h => by
    simp only [List.getElem?_cons_succ] at h
    simp only [List.set_cons_succ, val, val_set d j n x h, Int.pow_succ]
    grind
theorem dig_set {d : List Int} {j : Nat} {x : Int} (h : dig d) (h0 : 0 ≤ x) (h1 : x < 4294967296) : dig (d.set j x) := by
  intro y hy
  rcases List.mem_or_eq_of_mem_set hy with h2 | rfl
  · exact h y h2
  · exact ⟨h0, h1⟩
theorem d32_bd {a0 a1 a2 a3 : Int} (p0 : 0 ≤ a0) (q0 : a0 < 18446744073709551616) (p1 : 0 ≤ a1) (q1 : a1 < 18446744073709551616) (p2 : 0 ≤ a2) (q2 : a2 < 18446744073709551616) (p3 : 0 ≤ a3) (q3 : a3 < 18446744073709551616) (j : Nat) : 0 ≤ d32 a0 a1 a2 a3 j ∧ d32 a0 a1 a2 a3 j < 4294967296 := by
  unfold d32
  split <;> omega
theorem pd8 (a0 a1 a2 a3 : Int) : pd (d32 a0 a1 a2 a3) 8 = num4 a0 a1 a2 a3 := by
  simp only [pd, d32, num4]
  have e1 : a0 % 4294967296 + a0 / 4294967296 * 4294967296 = a0 := by omega
  have e2 : a1 % 4294967296 + a1 / 4294967296 * 4294967296 = a1 := by omega
  have e3 : a2 % 4294967296 + a2 / 4294967296 * 4294967296 = a2 := by omega
  have e4 : a3 % 4294967296 + a3 / 4294967296 * 4294967296 = a3 := by omega
  omega
theorem halfR_at {a0 a1 a2 a3 : Int} (p0 : 0 ≤ a0) (q0 : a0 < 18446744073709551616) (p1 : 0 ≤ a1) (q1 : a1 < 18446744073709551616) (p2 : 0 ≤ a2) (q2 : a2 < 18446744073709551616) (p3 : 0 ≤ a3) (q3 : a3 < 18446744073709551616) {i : Nat} (hi : i < 8) : sHalfR [.agg [.int .u64 a0, .int .u64 a1, .int .u64 a2, .int .u64 a3], .int .i64 (i : Int)] = some (.int .u64 (d32 a0 a1 a2 a3 i)) := by
  show (if (u64s a0 a1 a2 a3 && decide (0 ≤ (i : Int)) && decide ((i : Int) < 8)) = true then _ else _) = _
  rw [if_pos (by simp only [u64s, u64B, Bool.and_eq_true, decide_eq_true_eq]; omega)]
  rfl
theorem tbR_ok : (tbS Q tbR).OK Tryd.prog := tbS_ok quietText (by
  intro x hx
  simp only [tbR, List.mem_cons, List.not_mem_nil, or_false] at hx
  subst hx
  exact halfR_ok)

theorem loop69i {a0 a1 a2 a3 b0 b1 b2 b3 : Int} (p0 : 0 ≤ a0) (q0 : a0 < 18446744073709551616) (p1 : 0 ≤ a1) (q1 : a1 < 18446744073709551616) (p2 : 0 ≤ a2) (q2 : a2 < 18446744073709551616) (p3 : 0 ≤ a3) (q3 : a3 < 18446744073709551616) (r0 : 0 ≤ b0) (s0 : b0 < 18446744073709551616) (r1 : 0 ≤ b1) (s1 : b1 < 18446744073709551616) (r2 : 0 ≤ b2) (s2 : b2 < 18446744073709551616) (r3 : 0 ≤ b3) (s3 : b3 < 18446744073709551616) (i : Nat) (hi : i < 8) (d0 : List Int) (hl0 : d0.length = 16) (hd0 : dig d0) :
    W Tryd.prog (tbS Q tbR) 0 (.inl (.loop p69_l1)) (s69i a0 a1 a2 a3 b0 b1 b2 b3 d0 0 i 0) (fun e st => ∃ d' c, e = .exit 2 ∧ st = e69i a0 a1 a2 a3 b0 b1 b2 b3 d' c i ∧ row69 a0 a1 a2 a3 b0 b1 b2 b3 i d0 d' c) := by
  have hcw : CwOK (tbS Q tbR) (tbW Q tbR) := tbW_ok rfl
  obtain ⟨Ad, hA⟩ : ∃ x, x = d32 a0 a1 a2 a3 i := ⟨_, rfl⟩
  have hAb := d32_bd p0 q0 p1 q1 p2 q2 p3 q3 i
  rw [← hA] at hAb
  have main := W_roundsG (P := Tryd.prog) (S := tbS Q tbR) (b0 := 0) (a := p69_l1) (fun p : Nat × List Int × Int => s69i a0 a1 a2 a3 b0 b1 b2 b3 p.2.1 p.2.2 i p.1)
    (fun p => p.1 ≤ 8 ∧ p.2.1.length = 16 ∧ dig p.2.1 ∧ 0 ≤ p.2.2 ∧ p.2.2 < 4294967296 ∧ (∀ j, i + 8 ≤ j → p.2.1[j]? = d0[j]?) ∧ val p.2.1 + p.2.2 * 4294967296 ^ (i + p.1) = val d0 + Ad * pd (d32 b0 b1 b2 b3) p.1 * 4294967296 ^ i) (fun p => 8 - p.1)
    (fun p e st => ∃ d' c, e = .exit 2 ∧ st = e69i a0 a1 a2 a3 b0 b1 b2 b3 d' c i ∧ row69 a0 a1 a2 a3 b0 b1 b2 b3 i d0 d' c) ?_ (0, d0, 0) ?_
  · exact main
  · rintro ⟨k, d, c⟩ ⟨h1, h2, h3, h4, h5, h6, h7⟩
    simp only at h1 h2 h3 h4 h5 h6 h7
    refine W_wpX (C := C69i) hcw (by intro x hx; cases hx) (n := 60) (tn := t69i) (tx := x69i) (tr := x69i) ((v69i a0 a1 a2 a3 b0 b1 b2 b3 d c i k _).mp ?_)
    have hw : IntKind.wrap .i64 ((i : Int) + (k : Int)) = ((i + k : Nat) : Int) ∨ 8 ≤ k := by
      rcases Nat.lt_or_ge k 8 with q | q
      · left; rw [IntKind.wrap_i64]; omega
      · exact .inr q
    rcases Nat.lt_or_ge k 8 with hk | hk
    · have hw : IntKind.wrap .i64 ((i : Int) + (k : Int)) = ((i + k : Nat) : Int) := by rw [IntKind.wrap_i64]; omega
      obtain ⟨n, hn⟩ : ∃ n, d[i + k]? = some n := ⟨d[i + k]'(by omega), List.getElem?_eq_getElem _⟩
      have hnb := h3 n (List.mem_of_getElem? hn)
      have hBb := d32_bd r0 s0 r1 s1 r2 s2 r3 s3 k
      have hAB := mul_bd hAb.1 hAb.2 hBb.1 hBb.2
      simp only [hw, Int.toNat_natCast, Nat.zero_add, Nat.mul_one]
      refine askT (decide_eq_true (by omega)) (chkI (decide_eq_true (by omega)) (chkI (decide_eq_true (by omega)) ⟨n, uv_at hn, Ad, by rw [hA]; exact halfR_at p0 q0 p1 q1 p2 q2 p3 q3 hi, d32 b0 b1 b2 b3 k, halfR_at r0 s0 r1 s1 r2 s2 r3 s3 hk, chkI (decide_eq_true (by omega)) (chkI (decide_eq_true (by omega)) ⟨92, 16, uv d, rfl, chkI (decide_eq_true (by rw [uv_len]; omega)) ?_⟩)⟩))
      obtain ⟨Bd, hB⟩ : ∃ x, x = d32 b0 b1 b2 b3 k := ⟨_, rfl⟩
      rw [← hB] at hAB ⊢
      generalize hX : Ad * Bd = X at hAB ⊢
      rw [wrap64 (x := X) (by omega) (by omega), wrap64 (x := n + X) (by omega) (by omega), wrap64 (x := n + X + c) (by omega) (by omega), fdiv32, Int.tmod_eq_emod_of_nonneg (by omega), uv_splice _ (by omega)]
      refine chkI (uv_ocl _ _ _) ?_
      have hk1 : IntKind.wrap .i64 ((k : Int) + 1) = ((k + 1 : Nat) : Int) := by rw [IntKind.wrap_i64]; omega
      rw [hk1]
      refine ⟨(k + 1, d.set (i + k) ((n + X + c) % 4294967296), (n + X + c) / 4294967296), rfl, ⟨by show k + 1 ≤ 8; omega, by show (d.set _ _).length = 16; rw [List.length_set]; exact h2, dig_set h3 (by omega) (by omega), by show 0 ≤ (n + X + c) / 4294967296; omega, by show (n + X + c) / 4294967296 < 4294967296; omega, fun j hj => ?_, ?_⟩, by show 8 - (k + 1) < 8 - k; omega, fun e st h => h⟩
      · show (d.set _ _)[j]? = _
        rw [List.getElem?_set_ne (by omega)]; exact h6 j hj
      · show val (d.set (i + k) ((n + X + c) % 4294967296)) + (n + X + c) / 4294967296 * 4294967296 ^ (i + (k + 1)) = val d0 + Ad * pd (d32 b0 b1 b2 b3) (k + 1) * 4294967296 ^ i
        have hs : (n + X + c) = (n + X + c) % 4294967296 + 4294967296 * ((n + X + c) / 4294967296) := by omega
        rw [val_set d _ n _ hn]
        generalize (n + X + c) % 4294967296 = x at hs ⊢
        generalize (n + X + c) / 4294967296 = c' at hs ⊢
        simp only [pd, ← hB]
        have hp : (4294967296 : Int) ^ (i + k) = 4294967296 ^ i * 4294967296 ^ k := Int.pow_add _ _ _
        have hp2 : (4294967296 : Int) ^ (i + (k + 1)) = 4294967296 ^ (i + k) * 4294967296 := by rw [← Nat.add_assoc, Int.pow_succ]
        rw [hp2]
        generalize (4294967296 : Int) ^ (i + k) = p at hp h7 ⊢
        generalize (4294967296 : Int) ^ i = pi at hp h7 ⊢
        generalize (4294967296 : Int) ^ k = pk at hp h7 ⊢
        grind
    · obtain rfl : k = 8 := by omega
      refine askF (decide_eq_false (by omega)) (chkI (uv_ocl _ _ _) ⟨d, c, rfl, rfl, h2, h3, h4, h5, h6, ?_⟩)
      rw [h7, pd8, hA]
  · refine ⟨by show 0 ≤ 8; omega, hl0, hd0, by show (0 : Int) ≤ 0; omega, by show (0 : Int) < 4294967296; omega, fun j _ => rfl, ?_⟩
    show val d0 + 0 * _ = val d0 + Ad * pd _ 0 * _
    simp [pd]

theorem loop69 {a0 a1 a2 a3 b0 b1 b2 b3 : Int} (p0 : 0 ≤ a0) (q0 : a0 < 18446744073709551616) (p1 : 0 ≤ a1) (q1 : a1 < 18446744073709551616) (p2 : 0 ≤ a2) (q2 : a2 < 18446744073709551616) (p3 : 0 ≤ a3) (q3 : a3 < 18446744073709551616) (r0 : 0 ≤ b0) (s0 : b0 < 18446744073709551616) (r1 : 0 ≤ b1) (s1 : b1 < 18446744073709551616) (r2 : 0 ≤ b2) (s2 : b2 < 18446744073709551616) (r3 : 0 ≤ b3) (s3 : b3 < 18446744073709551616) :
    W Tryd.prog (tbS Q tbR) 0 (.inl (.loop p69_l2)) (s69 a0 a1 a2 a3 b0 b1 b2 b3 [0, 0, 0, 0, 0, 0, 0, 0, 0, 0, 0, 0, 0, 0, 0, 0] 0) (fun e st => ∃ d, e = .exit 0 ∧ st = e69 d ∧ d.length = 16 ∧ dig d ∧ val d = num4 a0 a1 a2 a3 * num4 b0 b1 b2 b3) := by
  have hcw : CwOK (tbS Q tbR) (tbW Q tbR) := tbW_ok rfl
  have main := W_roundsG (P := Tryd.prog) (S := tbS Q tbR) (b0 := 0) (a := p69_l2) (fun p : Nat × List Int => s69 a0 a1 a2 a3 b0 b1 b2 b3 p.2 p.1)
    (fun p => p.1 ≤ 8 ∧ p.2.length = 16 ∧ dig p.2 ∧ (∀ j, p.1 + 8 ≤ j → j < 16 → p.2[j]? = some 0) ∧ val p.2 = pd (d32 a0 a1 a2 a3) p.1 * num4 b0 b1 b2 b3) (fun p => 8 - p.1)
    (fun p e st => ∃ d, e = .exit 0 ∧ st = e69 d ∧ d.length = 16 ∧ dig d ∧ val d = num4 a0 a1 a2 a3 * num4 b0 b1 b2 b3) ?_ (0, [0, 0, 0, 0, 0, 0, 0, 0, 0, 0, 0, 0, 0, 0, 0, 0]) ?_
  · exact main
  · rintro ⟨i, d⟩ ⟨h1, h2, h3, h4, h5⟩
    simp only at h1 h2 h3 h4 h5
    refine W_wpX (C := C69l a0 a1 a2 a3 b0 b1 b2 b3) hcw (one_part rfl (part_loop (id := 7) rfl rfl fun st K hT => by
      obtain ⟨i, d, rfl, ⟨g1, g2, g3⟩, hk⟩ := hT
      refine W_mono (loop69i p0 q0 p1 q1 p2 q2 p3 q3 r0 s0 r1 s1 r2 s2 r3 s3 i g1 d g2 g3) fun e st he => ?_
      obtain ⟨d', c, rfl, rfl, hr⟩ := he
      exact hk d' c hr)) (n := 60) (tn := t69) (tx := x69) (tr := x69) ((v69b a0 a1 a2 a3 b0 b1 b2 b3 d i _).mp ?_)
    rcases Nat.lt_or_ge i 8 with hi | hi
    · refine askT (decide_eq_true (by omega)) (chkI (uv_ocl _ _ _) ⟨i, d, rfl, ⟨hi, h2, h3⟩, fun d' c hr => ?_⟩)
      obtain ⟨g1, g2, g3, g4, g5, g6⟩ := hr
      have hw : IntKind.wrap .i64 ((i : Int) + 8) = ((i + 8 : Nat) : Int) := by rw [IntKind.wrap_i64]; omega
      have hw1 : IntKind.wrap .i64 ((i : Int) + 1) = ((i + 1 : Nat) : Int) := by rw [IntKind.wrap_i64]; omega
      simp only [hw, hw1, Int.toNat_natCast, Nat.zero_add, Nat.mul_one]
      refine chkI (decide_eq_true (by omega)) (chkI (decide_eq_true (by omega)) ⟨92, 16, uv d', rfl, chkI (decide_eq_true (by rw [uv_len]; omega)) ?_⟩)
      rw [uv_splice _ (by omega)]
      have hz : d'[i + 8]? = some 0 := by rw [g5 _ (by omega)]; exact h4 _ (by omega) (by omega)
      refine chkI (uv_ocl _ _ _) ⟨(i + 1, d'.set (i + 8) c), rfl, ⟨by show i + 1 ≤ 8; omega, by show (d'.set _ _).length = 16; rw [List.length_set]; exact g1, dig_set g2 g3 g4, fun j hj hj2 => ?_, ?_⟩, by show 8 - (i + 1) < 8 - i; omega, fun e st h => h⟩
      · show (d'.set _ _)[j]? = _
        have hj' : i + 9 ≤ j := by simpa using hj
        rw [List.getElem?_set_ne (by omega), g5 j (by omega)]; exact h4 j (by omega) hj2
      · show val (d'.set (i + 8) c) = pd (d32 a0 a1 a2 a3) (i + 1) * num4 b0 b1 b2 b3
        rw [val_set _ _ _ _ hz]
        simp only [pd]
        rw [h5] at g6
        generalize num4 b0 b1 b2 b3 = Y at g6 ⊢
        generalize (4294967296 : Int) ^ (i + 8) = p8 at g6 ⊢
        generalize (4294967296 : Int) ^ i = pi at g6 ⊢
        grind
    · obtain rfl : i = 8 := by omega
      refine askF (decide_eq_false (by omega)) (chkI (uv_ocl _ _ _) ⟨d, rfl, rfl, h2, h3, ?_⟩)
      rw [h5, pd8]
  · refine ⟨by show 0 ≤ 8; omega, rfl, ?_, fun j h1 h2 => ?_, ?_⟩
    · intro x hx
      simp only [List.mem_cons, List.not_mem_nil, or_false, or_self] at hx
      subst hx; omega
    · have : ∀ j : Fin 16, ([0, 0, 0, 0, 0, 0, 0, 0, 0, 0, 0, 0, 0, 0, 0, 0] : List Int)[j.1]? = some 0 := by decide
      exact this ⟨j, h2⟩
    · simp [val, pd]

theorem wsh {x y : Int} (hx : 0 ≤ x) (hx2 : x < 4294967296) (hy : 0 ≤ y) (hy2 : y < 4294967296) : IntKind.wrap .u64 (x + IntKind.wrap .u64 (y * 2 ^ min 32 (IntKind.bits .u64))) = x + 4294967296 * y := by
  have e : (2 : Int) ^ min 32 (IntKind.bits .u64) = 4294967296 := rfl
  rw [e, IntKind.wrap_u64, IntKind.wrap_u64]; omega
theorem sixteen {α : Type} {d : List α} (h : d.length = 16) : ∃ d0 d1 d2 d3 d4 d5 d6 d7 d8 d9 d10 d11 d12 d13 d14 d15, d = [d0, d1, d2, d3, d4, d5, d6, d7, d8, d9, d10, d11, d12, d13, d14, d15] := by
  match d, h with
  | [d0, d1, d2, d3, d4, d5, d6, d7, d8, d9, d10, d11, d12, d13, d14, d15], _ => exact ⟨_, _, _, _, _, _, _, _, _, _, _, _, _, _, _, _, rfl⟩
theorem mulR_ok : QuietOK Tryd.prog 37 fun vs _ => sMul vs := quiet_plain ht69 fun args v h => by
  unfold sMul at h
  split at h
  · rename_i a0 a1 a2 a3 b0 b1 b2 b3
    split at h
    · rename_i hc
      cases h
      simp only [u64s, u64B, Bool.and_eq_true, decide_eq_true_eq] at hc
      obtain ⟨⟨⟨⟨⟨p0, q0⟩, p1, q1⟩, p2, q2⟩, p3, q3⟩, ⟨⟨⟨r0, s0⟩, r1, s1⟩, r2, s2⟩, r3, s3⟩ := hc
      refine ⟨rfl, rfl, ?_⟩
      obtain ⟨u, h', rfl, hsem⟩ := sem_vc mixed (C := C69 a0 a1 a2 a3 b0 b1 b2 b3) tbR_ok (tbS_q _ _) (tbW_ok rfl) ht69 c69 (fun x hx => by
        have hx2 : x = .loop p69_l2 ∨ x = .loop p69_l1 ∨ x = .loop p69_l0 := by
          have e : partsIn p69.body = [.loop p69_l2, .loop p69_l1, .loop p69_l0] := rfl
          rw [e] at hx
          simpa using hx
        rcases hx2 with rfl | rfl | rfl
        · exact part_loop (id := 3) rfl rfl fun st K hT => by
            obtain ⟨rfl, hk⟩ := hT
            refine W_mono (loop69 p0 q0 p1 q1 p2 q2 p3 q3 r0 s0 r1 s1 r2 s2 r3 s3) fun e st he => ?_
            obtain ⟨d, rfl, rfl, g1, g2, g3⟩ := he
            obtain ⟨d0, d1, d2, d3, d4, d5, d6, d7, d8, d9, d10, d11, d12, d13, d14, d15, rfl⟩ := sixteen g1
            exact hk d0 d1 d2 d3 d4 d5 d6 d7 d8 d9 d10 d11 d12 d13 d14 d15 ⟨g2, g3⟩
        · intro T st K hT; cases hT
        · intro T st K hT; cases hT) (v69 a0 a1 a2 a3 b0 b1 b2 b3 fun u _ => u = .tup [.agg (limbs (num4 a0 a1 a2 a3 * num4 b0 b1 b2 b3 / 115792089237316195423570985008687907853269984665640564039457584007913129639936)), .agg (limbs (num4 a0 a1 a2 a3 * num4 b0 b1 b2 b3))]) (by
          refine ⟨rfl, fun d0 d1 d2 d3 d4 d5 d6 d7 d8 d9 d10 d11 d12 d13 d14 d15 hd => ?_⟩
          obtain ⟨hd, hv⟩ := hd
          have g0 := hd d0 (by simp)
          have g1 := hd d1 (by simp)
          have g2 := hd d2 (by simp)
          have g3 := hd d3 (by simp)
          have g4 := hd d4 (by simp)
          have g5 := hd d5 (by simp)
          have g6 := hd d6 (by simp)
          have g7 := hd d7 (by simp)
          have g8 := hd d8 (by simp)
          have g9 := hd d9 (by simp)
          have g10 := hd d10 (by simp)
          have g11 := hd d11 (by simp)
          have g12 := hd d12 (by simp)
          have g13 := hd d13 (by simp)
          have g14 := hd d14 (by simp)
          have g15 := hd d15 (by simp)
          clear hd
          rw [wsh g8.1 g8.2 g9.1 g9.2, wsh g10.1 g10.2 g11.1 g11.2, wsh g12.1 g12.2 g13.1 g13.2, wsh g14.1 g14.2 g15.1 g15.2, wsh g0.1 g0.2 g1.1 g1.2, wsh g2.1 g2.2 g3.1 g3.2, wsh g4.1 g4.2 g5.1 g5.2, wsh g6.1 g6.2 g7.1 g7.2]
          have hP : num4 a0 a1 a2 a3 * num4 b0 b1 b2 b3 = (d0 + 4294967296 * d1) + 18446744073709551616 * ((d2 + 4294967296 * d3) + 18446744073709551616 * ((d4 + 4294967296 * d5) + 18446744073709551616 * ((d6 + 4294967296 * d7) + 18446744073709551616 * ((d8 + 4294967296 * d9) + 18446744073709551616 * ((d10 + 4294967296 * d11) + 18446744073709551616 * ((d12 + 4294967296 * d13) + 18446744073709551616 * ((d14 + 4294967296 * d15) + 18446744073709551616 * 0))))))) := by
            rw [← hv]; simp only [val]; omega
          have hD : num4 a0 a1 a2 a3 * num4 b0 b1 b2 b3 / 115792089237316195423570985008687907853269984665640564039457584007913129639936 = (d8 + 4294967296 * d9) + 18446744073709551616 * ((d10 + 4294967296 * d11) + 18446744073709551616 * ((d12 + 4294967296 * d13) + 18446744073709551616 * ((d14 + 4294967296 * d15) + 18446744073709551616 * 0))) := by
            rw [hP]; omega
          rw [hD, limbs_of (by omega) (by omega) (by omega) (by omega) (by omega) (by omega) (by omega) (by omega), hP, limbs_of (by omega) (by omega) (by omega) (by omega) (by omega) (by omega) (by omega) (by omega)])
      exact ⟨h', hsem⟩
    · cases h
  · cases h

def valQ : List Int → Int
  | [] => 0
  | x :: l => x + 18446744073709551616 * valQ l
def big (d : List Int) : Prop := ∀ x ∈ d, 0 ≤ x ∧ x < 18446744073709551616
theorem valQ_set : ∀ (d : List Int) (j : Nat) (n x : Int), d[j]? = some n → valQ (d.set j x) = valQ d + (x - n) * 18446744073709551616 ^ j
  | [], j, n, x, h => by simp at h
  | y :: d, 0, n, x, h => by
    simp only [List.getElem?_cons_zero, Option.some.injEq] at h
    subst h
    simp only [List.set_cons_zero, valQ, Int.pow_zero]
    omega
  | y :: d, j + 1, n, x, h => by
    simp only [List.getElem?_cons_succ] at h
    simp only [List.set_cons_succ, valQ, valQ_set d j n x h, Int.pow_succ]
    grind
theorem big_set {d : List Int} {j : Nat} {x : Int} (h : big d) (h0 : 0 ≤ x) (h1 : x < 18446744073709551616) : big (d.set j x) := by
  intro y hy
  rcases List.mem_or_eq_of_mem_set hy with h2 | rfl
  · exact h y h2
  · exact ⟨h0, h1⟩
/-- The sum of the first so many limbs, each at its place. -/
def pq (l : List Int) : Nat → Int
  | 0 => 0
  | k + 1 => pq l k + l.getD k 0 * 18446744073709551616 ^ k
theorem pq4 (a0 a1 a2 a3 : Int) : pq [a0, a1, a2, a3] 4 = num4 a0 a1 a2 a3 := by
  simp only [pq, num4, List.getD_cons_zero, List.getD_cons_succ]
  omega
theorem loop71 (a b : List Int) (ha : a.length = 4) (hb : b.length = 4) (hba : big a) (hbb : big b) :
    W Tryd.prog (tbS Q []) 0 (.inl (.loop p71_l0)) (s71 a b [0, 0, 0, 0] 0 0) (fun e st => ∃ o c, e = .exit 0 ∧ st = e71 o c ∧ o.length = 4 ∧ big o ∧ 0 ≤ c ∧ c ≤ 1 ∧ valQ o + c * 18446744073709551616 ^ 4 = pq a 4 + pq b 4) := by
  have hcw : CwOK (tbS Q []) (tbW Q []) := tbW_ok rfl
  have main := W_roundsG (P := Tryd.prog) (S := tbS Q []) (b0 := 0) (a := p71_l0) (fun p : Nat × List Int × Int => s71 a b p.2.1 p.2.2 p.1)
    (fun p => p.1 ≤ 4 ∧ p.2.1.length = 4 ∧ big p.2.1 ∧ 0 ≤ p.2.2 ∧ p.2.2 ≤ 1 ∧ (∀ j, p.1 ≤ j → j < 4 → p.2.1[j]? = some 0) ∧ valQ p.2.1 + p.2.2 * 18446744073709551616 ^ p.1 = pq a p.1 + pq b p.1) (fun p => 4 - p.1)
    (fun p e st => ∃ o c, e = .exit 0 ∧ st = e71 o c ∧ o.length = 4 ∧ big o ∧ 0 ≤ c ∧ c ≤ 1 ∧ valQ o + c * 18446744073709551616 ^ 4 = pq a 4 + pq b 4) ?_ (0, [0, 0, 0, 0], 0) ?_
  · exact main
  · rintro ⟨i, o, c⟩ ⟨h1, h2, h3, h4, h5, h6, h7⟩
    simp only at h1 h2 h3 h4 h5 h6 h7
    refine W_wpX (C := C71l) hcw (by intro x hx; cases hx) (n := 60) (tn := t71) (tx := x71) (tr := x71) ((v71b a b o c i _).mp ?_)
    rcases Nat.lt_or_ge i 4 with hi | hi
    · obtain ⟨n, hn⟩ : ∃ n, a[i]? = some n := ⟨a[i]'(by omega), List.getElem?_eq_getElem _⟩
      obtain ⟨m, hm⟩ : ∃ n, b[i]? = some n := ⟨b[i]'(by omega), List.getElem?_eq_getElem _⟩
      obtain ⟨n0, n1⟩ := hba n (List.mem_of_getElem? hn)
      obtain ⟨m0, m1⟩ := hbb m (List.mem_of_getElem? hm)
      have hz := h6 i (Nat.le_refl _) hi
      obtain ⟨x, hx⟩ : ∃ x, x = IntKind.wrap .u64 (IntKind.wrap .u64 (n + m) + c) := ⟨_, rfl⟩
      have hxv : x = ((n + m) % 18446744073709551616 + c) % 18446744073709551616 := by rw [hx, IntKind.wrap_u64, IntKind.wrap_u64]
      have hi1 : IntKind.wrap .i64 ((i : Int) + 1) = ((i + 1 : Nat) : Int) := by rw [IntKind.wrap_i64]; omega
      have hsv : IntKind.wrap .u64 (n + m) = (n + m) % 18446744073709551616 := IntKind.wrap_u64 _
      simp only [Nat.zero_add, Nat.mul_one, ← hx]
      have go : ∀ cy : Int, 0 ≤ cy → cy ≤ 1 → n + m + c = x + 18446744073709551616 * cy →
          ∃ s', ((envOf 41 [(2, .ptr (some (0, 0))), (3, .ptr (some (1, 0))), (4, .ptr (some (2, 0))), (5, .bool false), (6, .ptr (some (3, 0))), (7, .int .u64 cy), (8, .int .i64 (IntKind.wrap .i64 ((i : Int) + 1)))], [.row 24 4 (uv a), .row 24 4 (uv b), .row 24 4 [.int .u64 0, .int .u64 0, .int .u64 0, .int .u64 0], .row 24 4 (spliceA (uv o) i (AV.cells (.int .u64 x)))]) : St) = (fun p : Nat × List Int × Int => s71 a b p.2.1 p.2.2 p.1) s' ∧
            (s'.1 ≤ 4 ∧ s'.2.1.length = 4 ∧ big s'.2.1 ∧ 0 ≤ s'.2.2 ∧ s'.2.2 ≤ 1 ∧ (∀ j, s'.1 ≤ j → j < 4 → s'.2.1[j]? = some 0) ∧ valQ s'.2.1 + s'.2.2 * 18446744073709551616 ^ s'.1 = pq a s'.1 + pq b s'.1) ∧ 4 - s'.1 < 4 - i ∧
            ∀ e st, (∃ o c, e = AExit.exit 0 ∧ st = e71 o c ∧ o.length = 4 ∧ big o ∧ 0 ≤ c ∧ c ≤ 1 ∧ valQ o + c * 18446744073709551616 ^ 4 = pq a 4 + pq b 4) → (∃ o c, e = AExit.exit 0 ∧ st = e71 o c ∧ o.length = 4 ∧ big o ∧ 0 ≤ c ∧ c ≤ 1 ∧ valQ o + c * 18446744073709551616 ^ 4 = pq a 4 + pq b 4) := fun cy hc0 hc1 hcy => by
        refine ⟨(i + 1, o.set i x, cy), ?_, ⟨by show i + 1 ≤ 4; omega, by show (o.set i x).length = 4; rw [List.length_set]; exact h2, big_set h3 (by omega) (by omega), hc0, hc1, fun j hj hj2 => ?_, ?_⟩, by show 4 - (i + 1) < 4 - i; omega, fun e st h => h⟩
        · rw [uv_splice _ (by omega), hi1]; rfl
        · show (o.set i x)[j]? = _
          have hj' : i + 1 ≤ j := hj
          rw [List.getElem?_set_ne (by omega)]; exact h6 j (by omega) hj2
        · show valQ (o.set i x) + cy * 18446744073709551616 ^ (i + 1) = pq a (i + 1) + pq b (i + 1)
          rw [valQ_set _ _ _ _ hz]
          have ga : a.getD i 0 = n := by rw [List.getD_eq_getElem?_getD, hn]; rfl
          have gb : b.getD i 0 = m := by rw [List.getD_eq_getElem?_getD, hm]; rfl
          simp only [pq, ga, gb]
          have hp : (18446744073709551616 : Int) ^ (i + 1) = 18446744073709551616 ^ i * 18446744073709551616 := Int.pow_succ _ _
          rw [hp]
          generalize (18446744073709551616 : Int) ^ i = p at h7 ⊢
          generalize pq a i = X at h7 ⊢
          generalize pq b i = Y at h7 ⊢
          clear hx hxv hsv
          grind
      refine askT (decide_eq_true (by omega)) (chkI (decide_eq_true (by omega)) ⟨n, uv_at hn, chkI (decide_eq_true (by omega)) ⟨m, uv_at hm, chkI (decide_eq_true (by omega)) ⟨n, uv_at hn, askI (fun f1 => ?_) fun f1 => ?_⟩⟩⟩)
      all_goals
        simp only [← hx]
        refine (chkI (decide_eq_true (by omega)) ⟨24, 4, uv o, rfl, chkI (decide_eq_true (by rw [uv_len]; omega)) (chkI (decide_eq_true (by omega)) ⟨x, by rw [uv_splice _ (show i < o.length by omega)]; exact uv_at (l := o.set i x) (List.getElem?_set_self (show i < o.length by omega)), ?_⟩)⟩)
        simp only [hsv, decide_eq_true_eq, decide_eq_false_iff_not] at f1
        refine askI (fun f2 => ?_) fun f2 => ?_
        all_goals
          simp only [hsv, decide_eq_true_eq, decide_eq_false_iff_not] at f2
          refine chkI (uv_ocl _ _ _) (chkI (uv_ocl _ _ _) (chkI (by rw [uv_splice _ (show i < o.length by omega)]; exact uv_ocl _ _ _) ?_))
      · exact go 1 (by omega) (by omega) (by omega)
      · exact go 1 (by omega) (by omega) (by omega)
      · exact go 1 (by omega) (by omega) (by omega)
      · exact go 0 (by omega) (by omega) (by omega)
    · obtain rfl : i = 4 := by omega
      refine askF (decide_eq_false (by omega)) (chkI (uv_ocl _ _ _) (chkI (uv_ocl _ _ _) (chkI (uv_ocl _ _ _) ⟨o, c, rfl, rfl, h2, h3, h4, h5, h7⟩)))
  · refine ⟨by show 0 ≤ 4; omega, rfl, ?_, by show (0 : Int) ≤ 0; omega, by show (0 : Int) ≤ 1; omega, fun j h1 h2 => ?_, ?_⟩
    · intro x hx
      simp only [List.mem_cons, List.not_mem_nil, or_false, or_self] at hx
      subst hx; omega
    · have : ∀ j : Fin 4, ([0, 0, 0, 0] : List Int)[j.1]? = some 0 := by decide
      exact this ⟨j, h2⟩
    · simp [valQ, pq]
theorem addR_ok : QuietOK Tryd.prog 66 fun vs _ => sAdd vs := quiet_plain ht71 fun args v h => by
  unfold sAdd at h
  split at h
  · rename_i a0 a1 a2 a3 b0 b1 b2 b3
    split at h
    · rename_i hc
      cases h
      simp only [u64s, u64B, Bool.and_eq_true, decide_eq_true_eq] at hc
      obtain ⟨⟨⟨⟨⟨p0, q0⟩, p1, q1⟩, p2, q2⟩, p3, q3⟩, ⟨⟨⟨r0, s0⟩, r1, s1⟩, r2, s2⟩, r3, s3⟩ := hc
      refine ⟨rfl, rfl, ?_⟩
      have hS : (tbS Q []).OK Tryd.prog := tbS_ok quietText (by simp)
      have hA : big [a0, a1, a2, a3] := by
        intro x hx
        simp only [List.mem_cons, List.not_mem_nil, or_false] at hx
        rcases hx with rfl | rfl | rfl | rfl <;> omega
      have hB : big [b0, b1, b2, b3] := by
        intro x hx
        simp only [List.mem_cons, List.not_mem_nil, or_false] at hx
        rcases hx with rfl | rfl | rfl | rfl <;> omega
      obtain ⟨u, h', rfl, hsem⟩ := sem_vc mixed (C := C71 a0 a1 a2 a3 b0 b1 b2 b3) hS (tbS_q _ _) (tbW_ok rfl) ht71 c71 (one_part rfl (part_loop (id := 4) rfl rfl fun st K hT => by
        obtain ⟨rfl, hk⟩ := hT
        refine W_mono (loop71 [a0, a1, a2, a3] [b0, b1, b2, b3] rfl rfl hA hB) fun e st he => ?_
        obtain ⟨o, c, rfl, rfl, g1, g2, g3, g4, g5⟩ := he
        obtain ⟨o0, o1, o2, o3, rfl⟩ : ∃ o0 o1 o2 o3, o = [o0, o1, o2, o3] := by
          match o, g1 with
          | [o0, o1, o2, o3], _ => exact ⟨_, _, _, _, rfl⟩
        rw [pq4, pq4] at g5
        refine hk o0 o1 o2 o3 c ⟨?_, ?_, g3, g4⟩
        · simp only [valQ] at g5; omega
        · have t0 := g2 o0 (by simp)
          have t1 := g2 o1 (by simp)
          have t2 := g2 o2 (by simp)
          have t3 := g2 o3 (by simp)
          simp only [u64s, u64B, Bool.and_eq_true, decide_eq_true_eq]
          omega)) (v71 a0 a1 a2 a3 b0 b1 b2 b3 fun u _ => u = .tup [.agg (limbs (num4 a0 a1 a2 a3 + num4 b0 b1 b2 b3)), .bool (decide (num4 a0 a1 a2 a3 + num4 b0 b1 b2 b3 ≥ 115792089237316195423570985008687907853269984665640564039457584007913129639936))]) (by
          refine ⟨rfl, fun o0 o1 o2 o3 c hd => ?_⟩
          obtain ⟨hS, ho, hc0, hc1⟩ := hd
          simp only [u64s, u64B, Bool.and_eq_true, decide_eq_true_eq] at ho
          obtain ⟨⟨⟨⟨x0, y0⟩, x1, y1⟩, x2, y2⟩, x3, y3⟩ := ho
          refine askI (fun h => ?_) fun h => ?_
          · rw [hS, limbs_of x0 y0 x1 y1 x2 y2 x3 y3, decide_eq_true (by simp only [beq_iff_eq] at h; omega)]
          · rw [hS, limbs_of x0 y0 x1 y1 x2 y2 x3 y3, decide_eq_false (by simp only [beq_eq_false_iff_ne, ne_eq] at h; omega)])
      exact ⟨h', hsem⟩
    · cases h
  · cases h

end Go.Proofs.YtddalcnajejibaaDoor
