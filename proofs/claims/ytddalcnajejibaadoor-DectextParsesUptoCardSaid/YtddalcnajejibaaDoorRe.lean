/- Dectext: Re; written by mk03.py. -/
import Derived.Test.YtddalcnajejibaaDoorRd
namespace Go.Proofs.YtddalcnajejibaaDoor
open Go Go.Am
set_option maxRecDepth 100000
set_option maxHeartbeats 1000000
set_option linter.unusedVariables false
set_option linter.unusedSimpArgs false
def cut1 (s : List UInt8) (c : UInt8) : List UInt8 × List UInt8 × Bool :=
  if Lib.indexByte s c ≥ 0 then (s.take (Lib.indexByte s c).toNat, s.drop ((Lib.indexByte s c).toNat + 1), true) else (s, [], false)
def digX (w d : List UInt8) : List UInt8 := if (Lib.trimLeftB (w ++ d) 48 == []) = true then [48] else Lib.trimLeftB (w ++ d) 48
def parseWD (neg : Bool) (w d : List UInt8) : Bool × Int × Int × Int :=
  if d.length > 18 then (false, 0, 0, 31)
  else if ((parseN (digX w d)).2 != 0) = true then (false, 0, 0, (parseN (digX w d)).2)
  else (neg, (parseN (digX w d)).1, d.length, 0)
def parseD (s : List UInt8) : Bool × Int × Int × Int :=
  if ((s == []) || ((prefixF s : Int) != (s.length : Int))) = true then (false, 0, 0, 30)
  else parseWD (Lib.hasPrefix s [45]) (cut1 (Lib.trimPrefix s [45]) 46).1 (cut1 (Lib.trimPrefix s [45]) 46).2.1
def decV (neg : Bool) (v sc : Int) : AV := .agg (.bool neg :: (limbs v ++ [.int .i64 sc]))
def sParseD : List AV → Option AV
  | [.str s] => if s.length ≤ 1048577 then some (.tup [decV (parseD s).1 (parseD s).2.1 (parseD s).2.2.1, .int .i64 (parseD s).2.2.2]) else none
  | _ => none
def decX (p : Bool × Int × Int × Int) : AV := .tup [decV p.1 p.2.1 p.2.2.1, .int .i64 p.2.2.2]
def X (s : List UInt8) : AV := decX (parseD s)
theorem parseN_at {t : List UInt8} (h : t.length ≤ 1099511627776) : sParseN [.str t] = some (.tup [.agg (limbs (parseN t).1), .int .i64 (parseN t).2]) := if_pos h
theorem eqU8 (c k : UInt8) : (((c.toNat : Nat) : Int) == ((k.toNat : Nat) : Int)) = (c == k) := by
  have h := ne_u8 c k
  rw [bne, bne] at h
  exact Bool.not_inj h
theorem runD_le : ∀ l : List UInt8, runD l ≤ l.length
  | [] => Nat.le_refl _
  | c :: l => by
    unfold runD
    split
    · have := runD_le l; simp only [List.length_cons]; omega
    · omega
theorem behind_le (neg : Bool) : ∀ (l : List UInt8) (i : Nat) (low : Bool) (good : Nat), good ≤ i + l.length → behindL neg l i low good ≤ i + l.length
  | [], _, _, _, h => h
  | c :: l, i, low, good, h => by
    simp only [List.length_cons] at h ⊢
    unfold behindL
    split
    · have := behind_le neg l (i + 1) (low || c != 48) (if (low || c != 48) || !neg then i + 1 else good) (by split <;> omega)
      omega
    · omega
theorem wholeP_le (neg : Bool) (s : List UInt8) (i : Nat) (low : Bool) (h : i ≤ s.length) : wholeP neg s i low ≤ s.length := by
  unfold wholeP
  split
  · rename_i g
    simp only [Bool.and_eq_true, decide_eq_true_eq] at g
    have := behind_le neg (s.drop (i + 1)) (i + 1) low (if low || !neg then i else 0) (by split <;> omega)
    rw [List.length_drop] at this
    omega
  · split <;> omega
theorem prefix_le (s : List UInt8) : prefixF s ≤ s.length := by
  unfold prefixF
  generalize (if (decide (0 < s.length) && s.getD 0 0 == 45) = true then 1 else 0) = fr
  generalize (decide (0 < s.length) && s.getD 0 0 == 45) = neg
  split
  · rename_i g
    have hl := dgA_lt g
    split
    · exact wholeP_le _ _ _ _ (by omega)
    · have := runD_le (s.drop fr)
      rw [List.length_drop] at this
      exact wholeP_le _ _ _ _ (by omega)
  · omega
def nzD : List UInt8 → Bool
  | [] => false
  | c :: l => if isD c then c != 48 || nzD l else false
def wRf (s : List UInt8) (fr : Nat) : Bool :=
  if runD (s.drop fr) == 0 || (s.getD fr 0 == 48 && decide (1 < runD (s.drop fr))) then false
  else if decide (fr + runD (s.drop fr) < s.length) then
    (if s.getD (fr + runD (s.drop fr)) 0 != 46 || fr + runD (s.drop fr) + 1 == s.length then false
     else if fr + runD (s.drop fr) + 1 + runD (s.drop (fr + runD (s.drop fr) + 1)) == s.length then (nzD (s.drop fr) || nzD (s.drop (fr + runD (s.drop fr) + 1))) || s.getD 0 0 != 45 else false)
  else nzD (s.drop fr) || s.getD 0 0 != 45
def wR (s : List UInt8) : Bool := wRf s (if decide (0 < s.length) && s.getD 0 0 == 45 then 1 else 0)
def sWhole : List AV → Option AV
  | [.str s] => if s.length ≤ 1099511627776 then some (.bool (wR s)) else none
  | _ => none

-- name
def q55 (s : List UInt8) (sm : Bool) (i fr : Int) : St := (envOf 95 [(0, .str s), (3, .bool sm), (4, .int .i64 i), (5, .int .i64 fr)], [])
def t55 : Tidy := ⟨dropT 95 [0, 3, 4, 5], .all⟩
def q55b (s : List UInt8) (sm : Bool) (k : Int) : St := (envOf 95 [(0, .str s), (3, .bool sm), (6, .int .i64 k)], [])
def e55 (s : List UInt8) (sm : Bool) : St := (envOf 95 [(0, .str s), (3, .bool sm)], [])
def t55b : Tidy := ⟨dropT 95 [0, 3, 6], .all⟩
def x55b : Tidy := ⟨dropT 95 [0, 3], .all⟩
def r55b : Tidy := ⟨dropT 95 [2], .all⟩
def C55l : Cfg := tbC Q tb43 (fun _ => false) kdI
def C55 (s : List UInt8) : Cfg := { C55l with
  lw := fun id => if id = 6 then some fun st K => ∃ fr : Nat, st = q55 s false fr fr ∧ fr ≤ s.length ∧ K (.exit 0) (q55 s (nzD (s.drop fr)) ((fr + runD (s.drop fr) : Nat) : Int) fr)
    else if id = 15 then some fun st K => ∃ (k : Nat) (sm : Bool), st = q55b s sm k ∧ k ≤ s.length ∧ askB (k + runD (s.drop k) == s.length) (K (.exit 2) (e55 s (sm || nzD (s.drop k)))) (K .ret (envOf 95 [(2, .bool false)], [])) else none
  F := fun id => if id = 6 then t55 else if id = 15 then t55b else ⟨[], .all⟩ }

theorem v55a (s : List UInt8) (sm : Bool) (i fr : Nat) (K : AExit → St → Prop) : (askB (decide ((↑i : Int) < (↑(List.length s) : Int))) (chkW (decide (i < List.length s)) (∃ (b : Bool), TbE.s { f := 33, s := fun (vs : List AV) (x : AHeap) => sIsD vs, r := Rs.of (Rs1.one K1.bool) } [AV.int .u8 (↑(UInt8.toNat (List.getD s i 0)) : Int)] [] = some (AV.bool b) ∧ askB b (askB sm (K AExit.normal (envOf 95 [(0, AV.str s), (3, AV.bool true), (4, AV.int .i64 (IntKind.wrap .i64 ((↑i : Int) + 1))), (5, AV.int .i64 (↑fr : Int))], [])) (chkW (decide (i < List.length s)) (askB ((↑(UInt8.toNat (List.getD s i 0)) : Int) != 48) (K AExit.normal (envOf 95 [(0, AV.str s), (3, AV.bool true), (4, AV.int .i64 (IntKind.wrap .i64 ((↑i : Int) + 1))), (5, AV.int .i64 (↑fr : Int))], [])) (K AExit.normal (envOf 95 [(0, AV.str s), (3, AV.bool false), (4, AV.int .i64 (IntKind.wrap .i64 ((↑i : Int) + 1))), (5, AV.int .i64 (↑fr : Int))], []))))) (K (AExit.exit 0) (envOf 95 [(0, AV.str s), (3, AV.bool sm), (4, AV.int .i64 (↑i : Int)), (5, AV.int .i64 (↑fr : Int))], [])))) (K (AExit.exit 0) (envOf 95 [(0, AV.str s), (3, AV.bool sm), (4, AV.int .i64 (↑i : Int)), (5, AV.int .i64 (↑fr : Int))], []))) = (wpP Tryd.prog C55l 40 (.inl p55_l1) (q55 s sm i fr) (postX C55l t55 t55 t55 K)) := by kernel_rfl
theorem v55b (s : List UInt8) (sm : Bool) (k : Nat) (K : AExit → St → Prop) : (askB (decide ((↑k : Int) < (↑(List.length s) : Int))) (chkW (decide (k < List.length s)) (∃ (b : Bool), TbE.s { f := 33, s := fun (vs : List AV) (x : AHeap) => sIsD vs, r := Rs.of (Rs1.one K1.bool) } [AV.int .u8 (↑(UInt8.toNat (List.getD s k 0)) : Int)] [] = some (AV.bool b) ∧ askB b (askB sm (K AExit.normal (envOf 95 [(0, AV.str s), (3, AV.bool true), (6, AV.int .i64 (IntKind.wrap .i64 ((↑k : Int) + 1)))], [])) (chkW (decide (k < List.length s)) (askB ((↑(UInt8.toNat (List.getD s k 0)) : Int) != 48) (K AExit.normal (envOf 95 [(0, AV.str s), (3, AV.bool true), (6, AV.int .i64 (IntKind.wrap .i64 ((↑k : Int) + 1)))], [])) (K AExit.normal (envOf 95 [(0, AV.str s), (3, AV.bool false), (6, AV.int .i64 (IntKind.wrap .i64 ((↑k : Int) + 1)))], []))))) (K AExit.ret (envOf 95 [(2, AV.bool false)], [])))) (K (AExit.exit 2) (envOf 95 [(0, AV.str s), (3, AV.bool sm)], []))) = (wpP Tryd.prog C55l 40 (.inl p55_l0) (q55b s sm k) (postX C55l t55b x55b r55b K)) := by kernel_rfl
theorem v55 (s : List UInt8) (R : AV → AHeap → Prop) : (askB (decide (0 < (↑(List.length s) : Int))) (chkW (decide (0 < List.length s)) (askB ((↑(UInt8.toNat (List.getD s 0 0)) : Int) == 45) (∃ (fr : Nat), (envOf 95 [(0, AV.str s), (3, AV.bool false), (4, AV.int .i64 1), (5, AV.int .i64 1)], ([] : AHeap)) = (envOf 95 [(0, AV.str s), (3, AV.bool false), (4, AV.int .i64 (↑fr : Int)), (5, AV.int .i64 (↑fr : Int))], []) ∧ fr ≤ List.length s ∧ askB ((↑(fr + runD (List.drop fr s)) : Int) == (↑fr : Int)) (R (AV.bool false) []) (chkW (decide (fr < List.length s)) (askB ((↑(UInt8.toNat (List.getD s fr 0)) : Int) == 48) (askB (decide ((↑(fr + runD (List.drop fr s)) : Int) > IntKind.wrap .i64 ((↑fr : Int) + 1))) (R (AV.bool false) []) (askB (decide ((↑(fr + runD (List.drop fr s)) : Int) < (↑(List.length s) : Int))) (chkW (decide (fr + runD (List.drop fr s) < List.length s)) (askB ((↑(UInt8.toNat (List.getD s (fr + runD (List.drop fr s)) 0)) : Int) != 46) (R (AV.bool false) []) (askB (IntKind.wrap .i64 ((↑(fr + runD (List.drop fr s)) : Int) + 1) == (↑(List.length s) : Int)) (R (AV.bool false) []) (∃ (k : Nat), ∃ (sm : Bool), (envOf 95 [(0, AV.str s), (3, AV.bool (nzD (List.drop fr s))), (6, AV.int .i64 (IntKind.wrap .i64 ((↑(fr + runD (List.drop fr s)) : Int) + 1)))], ([] : AHeap)) = (envOf 95 [(0, AV.str s), (3, AV.bool sm), (6, AV.int .i64 (↑k : Int))], []) ∧ k ≤ List.length s ∧ askB (k + runD (List.drop k s) == List.length s) (askB (sm || nzD (List.drop k s)) (R (AV.bool true) []) (chkW (decide (0 < List.length s)) (askB ((↑(UInt8.toNat (List.getD s 0 0)) : Int) != 45) (R (AV.bool true) []) (R (AV.bool false) [])))) (R (AV.bool false) []))))) (askB (nzD (List.drop fr s)) (R (AV.bool true) []) (chkW (decide (0 < List.length s)) (askB ((↑(UInt8.toNat (List.getD s 0 0)) : Int) != 45) (R (AV.bool true) []) (R (AV.bool false) [])))))) (askB (decide ((↑(fr + runD (List.drop fr s)) : Int) < (↑(List.length s) : Int))) (chkW (decide (fr + runD (List.drop fr s) < List.length s)) (askB ((↑(UInt8.toNat (List.getD s (fr + runD (List.drop fr s)) 0)) : Int) != 46) (R (AV.bool false) []) (askB (IntKind.wrap .i64 ((↑(fr + runD (List.drop fr s)) : Int) + 1) == (↑(List.length s) : Int)) (R (AV.bool false) []) (∃ (k : Nat), ∃ (sm : Bool), (envOf 95 [(0, AV.str s), (3, AV.bool (nzD (List.drop fr s))), (6, AV.int .i64 (IntKind.wrap .i64 ((↑(fr + runD (List.drop fr s)) : Int) + 1)))], ([] : AHeap)) = (envOf 95 [(0, AV.str s), (3, AV.bool sm), (6, AV.int .i64 (↑k : Int))], []) ∧ k ≤ List.length s ∧ askB (k + runD (List.drop k s) == List.length s) (askB (sm || nzD (List.drop k s)) (R (AV.bool true) []) (chkW (decide (0 < List.length s)) (askB ((↑(UInt8.toNat (List.getD s 0 0)) : Int) != 45) (R (AV.bool true) []) (R (AV.bool false) [])))) (R (AV.bool false) []))))) (askB (nzD (List.drop fr s)) (R (AV.bool true) []) (chkW (decide (0 < List.length s)) (askB ((↑(UInt8.toNat (List.getD s 0 0)) : Int) != 45) (R (AV.bool true) []) (R (AV.bool false) [])))))))) (∃ (fr : Nat), (envOf 95 [(0, AV.str s), (3, AV.bool false), (4, AV.int .i64 0), (5, AV.int .i64 0)], ([] : AHeap)) = (envOf 95 [(0, AV.str s), (3, AV.bool false), (4, AV.int .i64 (↑fr : Int)), (5, AV.int .i64 (↑fr : Int))], []) ∧ fr ≤ List.length s ∧ askB ((↑(fr + runD (List.drop fr s)) : Int) == (↑fr : Int)) (R (AV.bool false) []) (chkW (decide (fr < List.length s)) (askB ((↑(UInt8.toNat (List.getD s fr 0)) : Int) == 48) (askB (decide ((↑(fr + runD (List.drop fr s)) : Int) > IntKind.wrap .i64 ((↑fr : Int) + 1))) (R (AV.bool false) []) (askB (decide ((↑(fr + runD (List.drop fr s)) : Int) < (↑(List.length s) : Int))) (chkW (decide (fr + runD (List.drop fr s) < List.length s)) (askB ((↑(UInt8.toNat (List.getD s (fr + runD (List.drop fr s)) 0)) : Int) != 46) (R (AV.bool false) []) (askB (IntKind.wrap .i64 ((↑(fr + runD (List.drop fr s)) : Int) + 1) == (↑(List.length s) : Int)) (R (AV.bool false) []) (∃ (k : Nat), ∃ (sm : Bool), (envOf 95 [(0, AV.str s), (3, AV.bool (nzD (List.drop fr s))), (6, AV.int .i64 (IntKind.wrap .i64 ((↑(fr + runD (List.drop fr s)) : Int) + 1)))], ([] : AHeap)) = (envOf 95 [(0, AV.str s), (3, AV.bool sm), (6, AV.int .i64 (↑k : Int))], []) ∧ k ≤ List.length s ∧ askB (k + runD (List.drop k s) == List.length s) (askB (sm || nzD (List.drop k s)) (R (AV.bool true) []) (chkW (decide (0 < List.length s)) (askB ((↑(UInt8.toNat (List.getD s 0 0)) : Int) != 45) (R (AV.bool true) []) (R (AV.bool false) [])))) (R (AV.bool false) []))))) (askB (nzD (List.drop fr s)) (R (AV.bool true) []) (chkW (decide (0 < List.length s)) (askB ((↑(UInt8.toNat (List.getD s 0 0)) : Int) != 45) (R (AV.bool true) []) (R (AV.bool false) [])))))) (askB (decide ((↑(fr + runD (List.drop fr s)) : Int) < (↑(List.length s) : Int))) (chkW (decide (fr + runD (List.drop fr s) < List.length s)) (askB ((↑(UInt8.toNat (List.getD s (fr + runD (List.drop fr s)) 0)) : Int) != 46) (R (AV.bool false) []) (askB (IntKind.wrap .i64 ((↑(fr + runD (List.drop fr s)) : Int) + 1) == (↑(List.length s) : Int)) (R (AV.bool false) []) (∃ (k : Nat), ∃ (sm : Bool), (envOf 95 [(0, AV.str s), (3, AV.bool (nzD (List.drop fr s))), (6, AV.int .i64 (IntKind.wrap .i64 ((↑(fr + runD (List.drop fr s)) : Int) + 1)))], ([] : AHeap)) = (envOf 95 [(0, AV.str s), (3, AV.bool sm), (6, AV.int .i64 (↑k : Int))], []) ∧ k ≤ List.length s ∧ askB (k + runD (List.drop k s) == List.length s) (askB (sm || nzD (List.drop k s)) (R (AV.bool true) []) (chkW (decide (0 < List.length s)) (askB ((↑(UInt8.toNat (List.getD s 0 0)) : Int) != 45) (R (AV.bool true) []) (R (AV.bool false) [])))) (R (AV.bool false) []))))) (askB (nzD (List.drop fr s)) (R (AV.bool true) []) (chkW (decide (0 < List.length s)) (askB ((↑(UInt8.toNat (List.getD s 0 0)) : Int) != 45) (R (AV.bool true) []) (R (AV.bool false) [])))))))))) (∃ (fr : Nat), (envOf 95 [(0, AV.str s), (3, AV.bool false), (4, AV.int .i64 0), (5, AV.int .i64 0)], ([] : AHeap)) = (envOf 95 [(0, AV.str s), (3, AV.bool false), (4, AV.int .i64 (↑fr : Int)), (5, AV.int .i64 (↑fr : Int))], []) ∧ fr ≤ List.length s ∧ askB ((↑(fr + runD (List.drop fr s)) : Int) == (↑fr : Int)) (R (AV.bool false) []) (chkW (decide (fr < List.length s)) (askB ((↑(UInt8.toNat (List.getD s fr 0)) : Int) == 48) (askB (decide ((↑(fr + runD (List.drop fr s)) : Int) > IntKind.wrap .i64 ((↑fr : Int) + 1))) (R (AV.bool false) []) (askB (decide ((↑(fr + runD (List.drop fr s)) : Int) < (↑(List.length s) : Int))) (chkW (decide (fr + runD (List.drop fr s) < List.length s)) (askB ((↑(UInt8.toNat (List.getD s (fr + runD (List.drop fr s)) 0)) : Int) != 46) (R (AV.bool false) []) (askB (IntKind.wrap .i64 ((↑(fr + runD (List.drop fr s)) : Int) + 1) == (↑(List.length s) : Int)) (R (AV.bool false) []) (∃ (k : Nat), ∃ (sm : Bool), (envOf 95 [(0, AV.str s), (3, AV.bool (nzD (List.drop fr s))), (6, AV.int .i64 (IntKind.wrap .i64 ((↑(fr + runD (List.drop fr s)) : Int) + 1)))], ([] : AHeap)) = (envOf 95 [(0, AV.str s), (3, AV.bool sm), (6, AV.int .i64 (↑k : Int))], []) ∧ k ≤ List.length s ∧ askB (k + runD (List.drop k s) == List.length s) (askB (sm || nzD (List.drop k s)) (R (AV.bool true) []) (chkW (decide (0 < List.length s)) (askB ((↑(UInt8.toNat (List.getD s 0 0)) : Int) != 45) (R (AV.bool true) []) (R (AV.bool false) [])))) (R (AV.bool false) []))))) (askB (nzD (List.drop fr s)) (R (AV.bool true) []) (chkW (decide (0 < List.length s)) (askB ((↑(UInt8.toNat (List.getD s 0 0)) : Int) != 45) (R (AV.bool true) []) (R (AV.bool false) [])))))) (askB (decide ((↑(fr + runD (List.drop fr s)) : Int) < (↑(List.length s) : Int))) (chkW (decide (fr + runD (List.drop fr s) < List.length s)) (askB ((↑(UInt8.toNat (List.getD s (fr + runD (List.drop fr s)) 0)) : Int) != 46) (R (AV.bool false) []) (askB (IntKind.wrap .i64 ((↑(fr + runD (List.drop fr s)) : Int) + 1) == (↑(List.length s) : Int)) (R (AV.bool false) []) (∃ (k : Nat), ∃ (sm : Bool), (envOf 95 [(0, AV.str s), (3, AV.bool (nzD (List.drop fr s))), (6, AV.int .i64 (IntKind.wrap .i64 ((↑(fr + runD (List.drop fr s)) : Int) + 1)))], ([] : AHeap)) = (envOf 95 [(0, AV.str s), (3, AV.bool sm), (6, AV.int .i64 (↑k : Int))], []) ∧ k ≤ List.length s ∧ askB (k + runD (List.drop k s) == List.length s) (askB (sm || nzD (List.drop k s)) (R (AV.bool true) []) (chkW (decide (0 < List.length s)) (askB ((↑(UInt8.toNat (List.getD s 0 0)) : Int) != 45) (R (AV.bool true) []) (R (AV.bool false) [])))) (R (AV.bool false) []))))) (askB (nzD (List.drop fr s)) (R (AV.bool true) []) (chkW (decide (0 < List.length s)) (askB ((↑(UInt8.toNat (List.getD s 0 0)) : Int) != 45) (R (AV.bool true) []) (R (AV.bool false) []))))))))) = (wpF Tryd.prog (C55 s) 80 p55 [.str s] [] R) := by kernel_rfl

theorem two_parts {P : Program} {C : Cfg} {c a b : PC} (h : partsIn c = [a, b]) (ha : PartOK P C a) (hb : PartOK P C b) : ∀ x ∈ partsIn c, PartOK P C x := by
  intro x hx
  rw [h] at hx
  simp only [List.mem_cons, List.not_mem_nil, or_false] at hx
  rcases hx with rfl | rfl
  · exact ha
  · exact hb
theorem rd_yes {s : List UInt8} {i : Nat} (h : i < s.length) (hd : isD (s.getD i 0) = true) : runD (s.drop i) = runD (s.drop (i + 1)) + 1 := by
  rw [drop_cons h]; exact if_pos hd
theorem rd_no {s : List UInt8} {i : Nat} (h : i < s.length) (hd : isD (s.getD i 0) = false) : runD (s.drop i) = 0 := by
  rw [drop_cons h]; exact if_neg (by rw [hd]; decide)
theorem nz_yes {s : List UInt8} {i : Nat} (h : i < s.length) (hd : isD (s.getD i 0) = true) : nzD (s.drop i) = (s.getD i 0 != 48 || nzD (s.drop (i + 1))) := by
  rw [drop_cons h]; exact if_pos hd
theorem nz_no {s : List UInt8} {i : Nat} (h : i < s.length) (hd : isD (s.getD i 0) = false) : nzD (s.drop i) = false := by
  rw [drop_cons h]; exact if_neg (by rw [hd]; decide)
theorem loop55a (s : List UInt8) (hs : s.length ≤ 1099511627776) (fr : Nat) (hfr : fr ≤ s.length) : W Tryd.prog (tbS Q tb43) 0 (.inl (.loop p55_l1)) (q55 s false fr fr) (fun e st => e = .exit 0 ∧ st = q55 s (nzD (s.drop fr)) ((fr + runD (s.drop fr) : Nat) : Int) fr) := by
  have hcw : CwOK (tbS Q tb43) (tbW Q tb43) := tbW_ok rfl
  have main := W_roundsG (P := Tryd.prog) (S := tbS Q tb43) (b0 := 0) (a := p55_l1) (fun p : Nat × Bool => q55 s p.2 p.1 fr)
    (fun p => p.1 ≤ s.length ∧ p.1 + runD (s.drop p.1) = fr + runD (s.drop fr) ∧ (p.2 || nzD (s.drop p.1)) = nzD (s.drop fr)) (fun p => s.length - p.1) (fun _ e st => e = .exit 0 ∧ st = q55 s (nzD (s.drop fr)) ((fr + runD (s.drop fr) : Nat) : Int) fr) ?_ (fr, false) ⟨hfr, rfl, rfl⟩
  · exact main
  · rintro ⟨i, sm⟩ ⟨h1, h2, h3⟩
    simp only at h1 h2 h3
    refine W_wpX (C := C55l) hcw (by intro x hx; cases hx) (n := 40) (tn := t55) (tx := t55) (tr := t55) ((v55a s sm i fr _).mp ?_)
    have w1 : IntKind.wrap .i64 ((i : Int) + 1) = ((i + 1 : Nat) : Int) := by rw [IntKind.wrap_i64]; omega
    rw [w1, ne48]
    rcases Nat.lt_or_ge i s.length with hi | hi
    · refine askT (decide_eq_true (by omega)) (chkI (decide_eq_true hi) ⟨_, isD_at _, askI (fun g1 => ?_) fun g1 => ?_⟩)
      · rw [rd_yes hi g1] at h2
        rw [nz_yes hi g1] at h3
        have go : ∀ sm' : Bool, (sm' || nzD (s.drop (i + 1))) = nzD (s.drop fr) → ∃ p : Nat × Bool, q55 s sm' ((i + 1 : Nat) : Int) fr = q55 s p.2 p.1 fr ∧ (p.1 ≤ s.length ∧ p.1 + runD (s.drop p.1) = fr + runD (s.drop fr) ∧ (p.2 || nzD (s.drop p.1)) = nzD (s.drop fr)) ∧ s.length - p.1 < s.length - i ∧ ∀ e st, (e = AExit.exit 0 ∧ st = q55 s (nzD (s.drop fr)) ((fr + runD (s.drop fr) : Nat) : Int) fr) → (e = AExit.exit 0 ∧ st = q55 s (nzD (s.drop fr)) ((fr + runD (s.drop fr) : Nat) : Int) fr) := fun sm' h => ⟨(i + 1, sm'), rfl, ⟨hi, by show i + 1 + runD (s.drop (i + 1)) = fr + runD (s.drop fr); omega, h⟩, by show s.length - (i + 1) < s.length - i; omega, fun _ _ h => h⟩
        refine askI (fun g2 => go true (by rw [← h3, g2]; rfl)) fun g2 => chkI (decide_eq_true hi) (askI (fun g3 => go true (by rw [← h3, g3]; simp)) fun g3 => go false (by rw [← h3, g2, g3]; rfl))
      · rw [rd_no hi g1] at h2
        rw [nz_no hi g1, Bool.or_false] at h3
        exact ⟨rfl, by rw [← h2, ← h3]; rfl⟩
    · rw [List.drop_eq_nil_of_le hi] at h2 h3
      have h2' : i = fr + runD (s.drop fr) := h2
      have h3' : sm = nzD (s.drop fr) := by rw [← h3]; show _ = (sm || false); rw [Bool.or_false]
      exact askF (decide_eq_false (by omega)) ⟨rfl, by rw [← h2', ← h3']; rfl⟩
def K55 (s : List UInt8) (k0 : Nat) (sm0 : Bool) (e : AExit) (st : St) : Prop := (e, st) = if k0 + runD (s.drop k0) == s.length then (AExit.exit 2, e55 s (sm0 || nzD (s.drop k0))) else (AExit.ret, (envOf 95 [(2, .bool false)], []))
theorem loop55b (s : List UInt8) (hs : s.length ≤ 1099511627776) (k0 : Nat) (sm0 : Bool) (hk0 : k0 ≤ s.length) : W Tryd.prog (tbS Q tb43) 0 (.inl (.loop p55_l0)) (q55b s sm0 k0) (K55 s k0 sm0) := by
  have hcw : CwOK (tbS Q tb43) (tbW Q tb43) := tbW_ok rfl
  have main := W_roundsG (P := Tryd.prog) (S := tbS Q tb43) (b0 := 0) (a := p55_l0) (fun p : Nat × Bool => q55b s p.2 p.1)
    (fun p => p.1 ≤ s.length ∧ p.1 + runD (s.drop p.1) = k0 + runD (s.drop k0) ∧ (p.2 || nzD (s.drop p.1)) = (sm0 || nzD (s.drop k0))) (fun p => s.length - p.1) (fun _ => K55 s k0 sm0) ?_ (k0, sm0) ⟨hk0, rfl, rfl⟩
  · exact main
  · rintro ⟨i, sm⟩ ⟨h1, h2, h3⟩
    simp only at h1 h2 h3
    refine W_wpX (C := C55l) hcw (by intro x hx; cases hx) (n := 40) (tn := t55b) (tx := x55b) (tr := r55b) ((v55b s sm i _).mp ?_)
    have w1 : IntKind.wrap .i64 ((i : Int) + 1) = ((i + 1 : Nat) : Int) := by rw [IntKind.wrap_i64]; omega
    rw [w1, ne48]
    rcases Nat.lt_or_ge i s.length with hi | hi
    · refine askT (decide_eq_true (by omega)) (chkI (decide_eq_true hi) ⟨_, isD_at _, askI (fun g1 => ?_) fun g1 => ?_⟩)
      · rw [rd_yes hi g1] at h2
        rw [nz_yes hi g1] at h3
        have go : ∀ sm' : Bool, (sm' || nzD (s.drop (i + 1))) = (sm0 || nzD (s.drop k0)) → ∃ p : Nat × Bool, q55b s sm' ((i + 1 : Nat) : Int) = q55b s p.2 p.1 ∧ (p.1 ≤ s.length ∧ p.1 + runD (s.drop p.1) = k0 + runD (s.drop k0) ∧ (p.2 || nzD (s.drop p.1)) = (sm0 || nzD (s.drop k0))) ∧ s.length - p.1 < s.length - i ∧ ∀ e st, K55 s k0 sm0 e st → K55 s k0 sm0 e st := fun sm' h => ⟨(i + 1, sm'), rfl, ⟨hi, by show i + 1 + runD (s.drop (i + 1)) = k0 + runD (s.drop k0); omega, h⟩, by show s.length - (i + 1) < s.length - i; omega, fun _ _ h => h⟩
        refine askI (fun g2 => go true (by rw [← h3, g2]; rfl)) fun g2 => chkI (decide_eq_true hi) (askI (fun g3 => go true (by rw [← h3, g3]; simp)) fun g3 => go false (by rw [← h3, g2, g3]; rfl))
      · rw [rd_no hi g1] at h2
        have e : (k0 + runD (s.drop k0) == s.length) = false := by rw [beq_eq_false_iff_ne]; omega
        show K55 _ _ _ _ _
        unfold K55; rw [e]; rfl
    · rw [List.drop_eq_nil_of_le hi] at h2 h3
      have h2' : i = k0 + runD (s.drop k0) := h2
      have h3' : sm = (sm0 || nzD (s.drop k0)) := by rw [← h3]; show _ = (sm || false); rw [Bool.or_false]
      have e : (k0 + runD (s.drop k0) == s.length) = true := by rw [beq_iff_eq]; omega
      refine askF (decide_eq_false (by omega)) ?_
      show K55 _ _ _ _ _
      unfold K55; rw [e, h3']; rfl
theorem ne45 (c : UInt8) : (((c.toNat : Nat) : Int) != 45) = (c != 45) := ne_u8 c 45
theorem tail55 (s : List UInt8) (fr k : Nat) (hl0 : 0 < s.length) (hs : s.length ≤ 1099511627776) (hR : wR s = (if decide (fr + k < s.length) then
    (if s.getD (fr + k) 0 != 46 || fr + k + 1 == s.length then false
     else if fr + k + 1 + runD (s.drop (fr + k + 1)) == s.length then (nzD (s.drop fr) || nzD (s.drop (fr + k + 1))) || s.getD 0 0 != 45 else false)
  else nzD (s.drop fr) || s.getD 0 0 != 45)) :
    askB (decide (((fr + k : Nat) : Int) < (s.length : Int)))
      (chkW (decide (fr + k < s.length)) (askB (s.getD (fr + k) 0 != 46) (AV.bool false = .bool (wR s)) (askB (((fr + k + 1 : Nat) : Int) == (s.length : Int)) (AV.bool false = .bool (wR s))
        (∃ (k_1 : Nat) (sm : Bool), ((envOf 95 [(0, .str s), (3, .bool (nzD (s.drop fr))), (6, .int .i64 ((fr + k + 1 : Nat) : Int))], []) : St) = (envOf 95 [(0, .str s), (3, .bool sm), (6, .int .i64 (k_1 : Int))], []) ∧ k_1 ≤ s.length ∧
          askB (k_1 + runD (s.drop k_1) == s.length) (askB (sm || nzD (s.drop k_1)) (AV.bool true = .bool (wR s)) (chkW (decide (0 < s.length)) (askB (s.getD 0 0 != 45) (AV.bool true = .bool (wR s)) (AV.bool false = .bool (wR s))))) (AV.bool false = .bool (wR s))))))
      (askB (nzD (s.drop fr)) (AV.bool true = .bool (wR s)) (chkW (decide (0 < s.length)) (askB (s.getD 0 0 != 45) (AV.bool true = .bool (wR s)) (AV.bool false = .bool (wR s))))) := by
  refine askI (fun g1 => ?_) fun g1 => ?_
  · simp only [decide_eq_true_eq] at g1
    have hlt : fr + k < s.length := by omega
    rw [decide_eq_true hlt, if_pos rfl] at hR
    refine chkI (decide_eq_true hlt) (askI (fun g2 => ?_) fun g2 => askI (fun g3 => ?_) fun g3 => ?_)
    · rw [hR, g2]; rfl
    · have g3' : (fr + k + 1 == s.length) = true := by rw [beq_iff_eq] at g3 ⊢; omega
      rw [hR, g3', Bool.or_true]; rfl
    · have g3' : (fr + k + 1 == s.length) = false := by rw [beq_eq_false_iff_ne] at g3 ⊢; omega
      rw [g2, g3', if_neg (by decide)] at hR
      refine ⟨fr + k + 1, nzD (s.drop fr), rfl, by omega, askI (fun g4 => ?_) fun g4 => ?_⟩
      · rw [g4, if_pos rfl] at hR
        refine askI (fun g5 => ?_) fun g5 => chkI (decide_eq_true hl0) (askI (fun g6 => ?_) fun g6 => ?_)
        · rw [hR, g5]; rfl
        · rw [hR, g5, g6]; rfl
        · rw [hR, g5, g6]; rfl
      · rw [g4, if_neg (by decide)] at hR
        rw [hR]
  · simp only [decide_eq_false_iff_not] at g1
    rw [decide_eq_false (by omega), if_neg (by decide)] at hR
    refine askI (fun g5 => ?_) fun g5 => chkI (decide_eq_true hl0) (askI (fun g6 => ?_) fun g6 => ?_)
    · rw [hR, g5]; rfl
    · rw [hR, g5, g6]; rfl
    · rw [hR, g5, g6]; rfl
theorem whole_ok : QuietOK Tryd.prog 32 fun vs _ => sWhole vs := quiet_plain ht55 fun args v h => by
  unfold sWhole at h
  split at h
  · rename_i s
    split at h
    · rename_i hs
      cases h
      refine ⟨rfl, rfl, ?_⟩
      have hS : (tbS Q tb43).OK Tryd.prog := tbS_ok quietText (by
        intro x hx
        simp only [tb43, List.mem_cons, List.not_mem_nil, or_false] at hx
        subst hx
        exact isD_ok)
      obtain ⟨u, h', rfl, hsem⟩ := sem_vc mixed (C := C55 s) hS (tbS_q _ _) (tbW_ok rfl) ht55 c55 (two_parts rfl (part_loop (id := 6) rfl rfl fun st K hT => by
        obtain ⟨fr, rfl, hfr, hk⟩ := hT
        refine W_mono (loop55a s hs fr hfr) fun e st he => ?_
        obtain ⟨rfl, rfl⟩ := he
        exact hk) (part_loop (id := 15) rfl rfl fun st K hT => by
        obtain ⟨k, sm, rfl, hk0, hk⟩ := hT
        refine W_mono (loop55b s hs k sm hk0) fun e st he => ?_
        unfold K55 at he
        cases hE : (k + runD (s.drop k) == s.length) with
        | true => rw [hE] at he hk; cases he; exact hk
        | false => rw [hE] at he hk; cases he; exact hk)) (v55 s fun u _ => u = .bool (wR s)) (by
        refine askI (fun g0 => ?_) fun g0 => ?_
        · simp only [decide_eq_true_eq] at g0
          have hl : 0 < s.length := by omega
          refine chkI (decide_eq_true hl) ?_
          rw [eq45]
          refine askI (fun gn => ?_) fun gn => ?_
          · have g01 : (decide (0 < s.length) && s.getD 0 0 == 45) = true := by rw [gn, decide_eq_true hl]; rfl
            refine ⟨1, rfl, by omega, ?_⟩
            have hr := runD_le (s.drop 1)
            rw [List.length_drop] at hr
            have hW : wR s = wRf s 1 := by unfold wR; rw [g01]; rfl
            generalize hk : runD (s.drop 1) = k at hr ⊢
            have hW' : wRf s 1 = (if k == 0 || (s.getD 1 0 == 48 && decide (1 < k)) then false
              else if decide (1 + k < s.length) then
                (if s.getD (1 + k) 0 != 46 || 1 + k + 1 == s.length then false
                 else if 1 + k + 1 + runD (s.drop (1 + k + 1)) == s.length then (nzD (s.drop 1) || nzD (s.drop (1 + k + 1))) || s.getD 0 0 != 45 else false)
              else nzD (s.drop 1) || s.getD 0 0 != 45) := by rw [← hk]; rfl
            rw [hW'] at hW
            have w1 : IntKind.wrap .i64 (((1 + k : Nat) : Int) + 1) = ((1 + k + 1 : Nat) : Int) := by rw [IntKind.wrap_i64]; omega
            have w2 : IntKind.wrap .i64 (((1 : Nat) : Int) + 1) = ((1 + 1 : Nat) : Int) := by rw [IntKind.wrap_i64]; omega
            rw [w1, w2, eq48, ne46, ne45]
            refine askI (fun g1 => ?_) fun g1 => ?_
            · rw [beq_iff_eq] at g1
              have hk0 : k = 0 := by omega
              rw [hW, hk0]; rfl
            rw [beq_eq_false_iff_ne] at g1
            have hk0 : (k == 0) = false := by rw [beq_eq_false_iff_ne]; omega
            rw [hk0, Bool.false_or] at hW
            have hfl : 1 < s.length := by omega
            have hl0 : 0 < s.length := by omega
            have rest : (s.getD 1 0 == 48 && decide (1 < k)) = false → wR s = (if decide (1 + k < s.length) then
                (if s.getD (1 + k) 0 != 46 || 1 + k + 1 == s.length then false
                 else if 1 + k + 1 + runD (s.drop (1 + k + 1)) == s.length then (nzD (s.drop 1) || nzD (s.drop (1 + k + 1))) || s.getD 0 0 != 45 else false)
              else nzD (s.drop 1) || s.getD 0 0 != 45) := fun h => by rw [hW, h]; rfl
            clear hW hW'
            refine chkI (decide_eq_true hfl) (askI (fun g2 => askI (fun g3 => ?_) fun g3 => ?_) fun g2 => ?_)
            · simp only [decide_eq_true_eq] at g3
              have : wR s = false := by
                unfold wR; rw [g01]
                show wRf s 1 = false
                unfold wRf
                rw [hk, hk0, g2, decide_eq_true (by omega)]; rfl
              rw [this]
            · simp only [decide_eq_false_iff_not] at g3
              have hR := rest (by rw [decide_eq_false (by omega), Bool.and_false])
              exact tail55 s 1 k hl0 hs hR
            · have hR := rest (by rw [g2]; rfl)
              exact tail55 s 1 k hl0 hs hR
          · have g01 : (decide (0 < s.length) && s.getD 0 0 == 45) = false := by rw [gn, Bool.and_false]
            refine ⟨0, rfl, by omega, ?_⟩
            have hr := runD_le (s.drop 0)
            rw [List.length_drop] at hr
            have hW : wR s = wRf s 0 := by unfold wR; rw [g01]; rfl
            generalize hk : runD (s.drop 0) = k at hr ⊢
            have hW' : wRf s 0 = (if k == 0 || (s.getD 0 0 == 48 && decide (1 < k)) then false
              else if decide (0 + k < s.length) then
                (if s.getD (0 + k) 0 != 46 || 0 + k + 1 == s.length then false
                 else if 0 + k + 1 + runD (s.drop (0 + k + 1)) == s.length then (nzD (s.drop 0) || nzD (s.drop (0 + k + 1))) || s.getD 0 0 != 45 else false)
              else nzD (s.drop 0) || s.getD 0 0 != 45) := by rw [← hk]; rfl
            rw [hW'] at hW
            have w1 : IntKind.wrap .i64 (((0 + k : Nat) : Int) + 1) = ((0 + k + 1 : Nat) : Int) := by rw [IntKind.wrap_i64]; omega
            have w2 : IntKind.wrap .i64 (((0 : Nat) : Int) + 1) = ((0 + 1 : Nat) : Int) := by rw [IntKind.wrap_i64]; omega
            rw [w1, w2, eq48, ne46, ne45]
            refine askI (fun g1 => ?_) fun g1 => ?_
            · rw [beq_iff_eq] at g1
              have hk0 : k = 0 := by omega
              rw [hW, hk0]; rfl
            rw [beq_eq_false_iff_ne] at g1
            have hk0 : (k == 0) = false := by rw [beq_eq_false_iff_ne]; omega
            rw [hk0, Bool.false_or] at hW
            have hfl : 0 < s.length := by omega
            have hl0 : 0 < s.length := by omega
            have rest : (s.getD 0 0 == 48 && decide (1 < k)) = false → wR s = (if decide (0 + k < s.length) then
                (if s.getD (0 + k) 0 != 46 || 0 + k + 1 == s.length then false
                 else if 0 + k + 1 + runD (s.drop (0 + k + 1)) == s.length then (nzD (s.drop 0) || nzD (s.drop (0 + k + 1))) || s.getD 0 0 != 45 else false)
              else nzD (s.drop 0) || s.getD 0 0 != 45) := fun h => by rw [hW, h]; rfl
            clear hW hW'
            refine chkI (decide_eq_true hfl) (askI (fun g2 => askI (fun g3 => ?_) fun g3 => ?_) fun g2 => ?_)
            · simp only [decide_eq_true_eq] at g3
              have : wR s = false := by
                unfold wR; rw [g01]
                show wRf s 0 = false
                unfold wRf
                rw [hk, hk0, g2, decide_eq_true (by omega)]; rfl
              rw [this]
            · simp only [decide_eq_false_iff_not] at g3
              have hR := rest (by rw [decide_eq_false (by omega), Bool.and_false])
              exact tail55 s 0 k hl0 hs hR
            · have hR := rest (by rw [g2]; rfl)
              exact tail55 s 0 k hl0 hs hR
        · simp only [decide_eq_false_iff_not] at g0
          have g01 : (decide (0 < s.length) && s.getD 0 0 == 45) = false := by rw [decide_eq_false (by omega)]; rfl
          have hnil : s = [] := List.eq_nil_of_length_eq_zero (by omega)
          subst hnil
          refine ⟨0, rfl, by omega, ?_⟩
          exact askT rfl rfl)
      exact ⟨h', hsem⟩
    · cases h
  · cases h

end Go.Proofs.YtddalcnajejibaaDoor
