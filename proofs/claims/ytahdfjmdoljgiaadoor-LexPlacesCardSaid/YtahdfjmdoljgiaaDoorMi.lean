/- Written by merging: Lua Lub Luc Lud. -/
import Derived.Test.YtahdfjmdoljgiaaDoorMh
namespace Go.Proofs.YtahdfjmdoljgiaaDoor
open Go Go.Am
set_option maxRecDepth 100000
set_option linter.unusedVariables false
set_option linter.unusedSimpArgs false
/- The document's Next: shapes of its run. -/

def tb19 : List TbE := [⟨40, fun vs _ => sLet vs, .of (.one .bool)⟩, ⟨41, fun vs _ => sNameAt vs, .of (.one (.int .i64))⟩, ⟨22, fun vs _ => sName vs, .of (.one .bool)⟩, ⟨42, fun vs _ => sIsD vs, .of (.one .bool)⟩, ⟨43, fun vs _ => sPrefix vs, .of (.one (.int .i64))⟩, ⟨44, fun vs _ => sParseD vs, .tup [ag6, .one (.int .i64)]⟩, ⟨45, fun vs _ => sCloses vs, .tup [.one (.int .i64), .one .bool]⟩, ⟨13, fun vs _ => sRefUnq vs, .tup [.one .str, .one .bool]⟩, ⟨24, fun vs _ => sSymR vs, .of (.one .bool)⟩]

/- What the document's Next must meet: written by vcgen.py. -/
theorem v19 (s : List UInt8) (i : Int) (R : AV → AHeap → Prop) : (askB (decide (i < 0)) (R (AV.tup [AV.agg z13, AV.int .i64 4]) [AObj.row 41 13 z13]) (askB (decide (i ≥ (↑(List.length s) : Int))) (R (AV.tup [AV.agg z13, AV.int .i64 4]) [AObj.row 41 13 z13]) (chkW (decide (0 ≤ i)) (chkW (decide (Int.toNat i < List.length s)) (∃ (b : Bool), sLet [AV.int .u8 (↑(UInt8.toNat (List.getD s (Int.toNat i) 0)) : Int)] = some (AV.bool b) ∧ askB b (∃ (n : Int), sNameAt [AV.str s, AV.int .i64 i] = some (AV.int .i64 n) ∧ chkW (decide (0 ≤ n)) (chkW (decide (n ≤ (↑(List.length s) : Int))) (chkW (decide (0 ≤ i)) (chkW (decide (i ≤ (↑(Int.toNat n) : Int))) (∃ (b : Bool), sName [AV.str (List.drop (Int.toNat i) (List.take (Int.toNat n) s))] = some (AV.bool b) ∧ askB b (R (AV.tup [AV.agg [AV.int .i64 1, AV.str (List.drop (Int.toNat i) (List.take (Int.toNat n) s)), AV.int .i64 0, AV.bool false, AV.int .u64 0, AV.int .u64 0, AV.int .u64 0, AV.int .u64 0, AV.int .i64 0, AV.bool false, AV.str [], AV.int .i64 0, AV.int .i64 i], AV.int .i64 0]) [AObj.row 41 13 [AV.int .i64 1, AV.str (List.drop (Int.toNat i) (List.take (Int.toNat n) s)), AV.int .i64 0, AV.bool false, AV.int .u64 0, AV.int .u64 0, AV.int .u64 0, AV.int .u64 0, AV.int .i64 0, AV.bool false, AV.str [], AV.int .i64 0, AV.int .i64 i], AObj.row 41 13 [AV.int .i64 1, AV.str (List.drop (Int.toNat i) (List.take (Int.toNat n) s)), AV.int .i64 0, AV.bool false, AV.int .u64 0, AV.int .u64 0, AV.int .u64 0, AV.int .u64 0, AV.int .i64 0, AV.bool false, AV.str [], AV.int .i64 0, AV.int .i64 i]]) (R (AV.tup [AV.agg z13, AV.int .i64 70]) [AObj.row 41 13 z13, AObj.row 41 13 [AV.int .i64 1, AV.str (List.drop (Int.toNat i) (List.take (Int.toNat n) s)), AV.int .i64 0, AV.bool false, AV.int .u64 0, AV.int .u64 0, AV.int .u64 0, AV.int .u64 0, AV.int .i64 0, AV.bool false, AV.str [], AV.int .i64 0, AV.int .i64 i]])))))) (∃ (b : Bool), sIsD [AV.int .u8 (↑(UInt8.toNat (List.getD s (Int.toNat i) 0)) : Int)] = some (AV.bool b) ∧ askB b (chkW (decide (0 ≤ i)) (chkW (decide (i ≤ (↑(List.length s) : Int))) (∃ (n : Int), sPrefix [AV.str (List.drop (Int.toNat i) (List.take (List.length s) s))] = some (AV.int .i64 n) ∧ chkW (decide (0 ≤ IntKind.wrap .i64 (i + n))) (chkW (decide (IntKind.wrap .i64 (i + n) ≤ (↑(List.length s) : Int))) (chkW (decide (0 ≤ i)) (chkW (decide (i ≤ (↑(Int.toNat (IntKind.wrap .i64 (i + n))) : Int))) (∃ (b : Bool), ∃ (n_1 : Int), ∃ (n_2 : Int), ∃ (n_3 : Int), ∃ (n_4 : Int), ∃ (n_5 : Int), ∃ (n_6 : Int), sParseD [AV.str (List.drop (Int.toNat i) (List.take (Int.toNat (IntKind.wrap .i64 (i + n))) s))] = some (AV.tup [AV.agg [AV.bool b, AV.int .u64 n_1, AV.int .u64 n_2, AV.int .u64 n_3, AV.int .u64 n_4, AV.int .i64 n_5], AV.int .i64 n_6]) ∧ askB (n_6 == 0) (R (AV.tup [AV.agg [AV.int .i64 2, AV.str (List.drop (Int.toNat i) (List.take (Int.toNat (IntKind.wrap .i64 (i + n))) s)), AV.int .i64 1, AV.bool b, AV.int .u64 n_1, AV.int .u64 n_2, AV.int .u64 n_3, AV.int .u64 n_4, AV.int .i64 n_5, AV.bool false, AV.str [], AV.int .i64 0, AV.int .i64 i], AV.int .i64 0]) [AObj.row 41 13 [AV.int .i64 2, AV.str (List.drop (Int.toNat i) (List.take (Int.toNat (IntKind.wrap .i64 (i + n))) s)), AV.int .i64 1, AV.bool b, AV.int .u64 n_1, AV.int .u64 n_2, AV.int .u64 n_3, AV.int .u64 n_4, AV.int .i64 n_5, AV.bool false, AV.str [], AV.int .i64 0, AV.int .i64 i], AObj.row 41 13 [AV.int .i64 2, AV.str (List.drop (Int.toNat i) (List.take (Int.toNat (IntKind.wrap .i64 (i + n))) s)), AV.int .i64 1, AV.bool b, AV.int .u64 n_1, AV.int .u64 n_2, AV.int .u64 n_3, AV.int .u64 n_4, AV.int .i64 n_5, AV.bool false, AV.str [], AV.int .i64 0, AV.int .i64 i], AObj.row 37 6 [AV.bool b, AV.int .u64 n_1, AV.int .u64 n_2, AV.int .u64 n_3, AV.int .u64 n_4, AV.int .i64 n_5]]) (R (AV.tup [AV.agg z13, AV.int .i64 70]) [AObj.row 41 13 z13, AObj.row 41 13 [AV.int .i64 2, AV.str (List.drop (Int.toNat i) (List.take (Int.toNat (IntKind.wrap .i64 (i + n))) s)), AV.int .i64 1, AV.bool b, AV.int .u64 n_1, AV.int .u64 n_2, AV.int .u64 n_3, AV.int .u64 n_4, AV.int .i64 n_5, AV.bool false, AV.str [], AV.int .i64 0, AV.int .i64 i], AObj.row 37 6 [AV.bool b, AV.int .u64 n_1, AV.int .u64 n_2, AV.int .u64 n_3, AV.int .u64 n_4, AV.int .i64 n_5]])))))))) (askB ((↑(UInt8.toNat (List.getD s (Int.toNat i) 0)) : Int) == 34) (∃ (n : Int), ∃ (b : Bool), sCloses [AV.str s, AV.int .i64 i] = some (AV.tup [AV.int .i64 n, AV.bool b]) ∧ askB b (chkW (decide (0 ≤ n)) (chkW (decide (n ≤ (↑(List.length s) : Int))) (chkW (decide (0 ≤ i)) (chkW (decide (i ≤ (↑(Int.toNat n) : Int))) (∃ (s_1 : List UInt8), ∃ (b : Bool), sRefUnq [AV.str (List.drop (Int.toNat i) (List.take (Int.toNat n) s))] = some (AV.tup [AV.str s_1, AV.bool b]) ∧ askB b (askB (decide ((↑(List.length s_1) : Int) ≤ 64)) (R (AV.tup [AV.agg [AV.int .i64 3, AV.str (List.drop (Int.toNat i) (List.take (Int.toNat n) s)), AV.int .i64 3, AV.bool false, AV.int .u64 0, AV.int .u64 0, AV.int .u64 0, AV.int .u64 0, AV.int .i64 0, AV.bool false, AV.str s_1, AV.int .i64 0, AV.int .i64 i], AV.int .i64 0]) [AObj.row 41 13 [AV.int .i64 3, AV.str (List.drop (Int.toNat i) (List.take (Int.toNat n) s)), AV.int .i64 3, AV.bool false, AV.int .u64 0, AV.int .u64 0, AV.int .u64 0, AV.int .u64 0, AV.int .i64 0, AV.bool false, AV.str s_1, AV.int .i64 0, AV.int .i64 i], AObj.row 41 13 [AV.int .i64 3, AV.str (List.drop (Int.toNat i) (List.take (Int.toNat n) s)), AV.int .i64 3, AV.bool false, AV.int .u64 0, AV.int .u64 0, AV.int .u64 0, AV.int .u64 0, AV.int .i64 0, AV.bool false, AV.str s_1, AV.int .i64 0, AV.int .i64 i]]) (R (AV.tup [AV.agg z13, AV.int .i64 70]) [AObj.row 41 13 z13, AObj.row 41 13 [AV.int .i64 3, AV.str (List.drop (Int.toNat i) (List.take (Int.toNat n) s)), AV.int .i64 3, AV.bool false, AV.int .u64 0, AV.int .u64 0, AV.int .u64 0, AV.int .u64 0, AV.int .i64 0, AV.bool false, AV.str s_1, AV.int .i64 0, AV.int .i64 i]])) (R (AV.tup [AV.agg z13, AV.int .i64 70]) [AObj.row 41 13 z13, AObj.row 41 13 [AV.int .i64 3, AV.str (List.drop (Int.toNat i) (List.take (Int.toNat n) s)), AV.int .i64 3, AV.bool false, AV.int .u64 0, AV.int .u64 0, AV.int .u64 0, AV.int .u64 0, AV.int .i64 0, AV.bool false, AV.str s_1, AV.int .i64 0, AV.int .i64 i]])))))) (R (AV.tup [AV.agg z13, AV.int .i64 70]) [AObj.row 41 13 z13, AObj.row 41 13 (at13 i)])) (askB (decide (IntKind.wrap .i64 (i + 1) < (↑(List.length s) : Int))) (chkW (decide (0 ≤ IntKind.wrap .i64 (i + 2))) (chkW (decide (IntKind.wrap .i64 (i + 2) ≤ (↑(List.length s) : Int))) (chkW (decide (0 ≤ i)) (chkW (decide (i ≤ (↑(Int.toNat (IntKind.wrap .i64 (i + 2))) : Int))) (∃ (b : Bool), sSymR [AV.str (List.drop (Int.toNat i) (List.take (Int.toNat (IntKind.wrap .i64 (i + 2))) s))] = some (AV.bool b) ∧ askB b (chkW (decide (0 ≤ IntKind.wrap .i64 (i + 2))) (chkW (decide (IntKind.wrap .i64 (i + 2) ≤ (↑(List.length s) : Int))) (chkW (decide (0 ≤ i)) (chkW (decide (i ≤ (↑(Int.toNat (IntKind.wrap .i64 (i + 2))) : Int))) (R (AV.tup [AV.agg [AV.int .i64 4, AV.str (List.drop (Int.toNat i) (List.take (Int.toNat (IntKind.wrap .i64 (i + 2))) s)), AV.int .i64 0, AV.bool false, AV.int .u64 0, AV.int .u64 0, AV.int .u64 0, AV.int .u64 0, AV.int .i64 0, AV.bool false, AV.str [], AV.int .i64 0, AV.int .i64 i], AV.int .i64 0]) [AObj.row 41 13 [AV.int .i64 4, AV.str (List.drop (Int.toNat i) (List.take (Int.toNat (IntKind.wrap .i64 (i + 2))) s)), AV.int .i64 0, AV.bool false, AV.int .u64 0, AV.int .u64 0, AV.int .u64 0, AV.int .u64 0, AV.int .i64 0, AV.bool false, AV.str [], AV.int .i64 0, AV.int .i64 i], AObj.row 41 13 [AV.int .i64 4, AV.str (List.drop (Int.toNat i) (List.take (Int.toNat (IntKind.wrap .i64 (i + 2))) s)), AV.int .i64 0, AV.bool false, AV.int .u64 0, AV.int .u64 0, AV.int .u64 0, AV.int .u64 0, AV.int .i64 0, AV.bool false, AV.str [], AV.int .i64 0, AV.int .i64 i]]))))) (chkW (decide (0 ≤ IntKind.wrap .i64 (i + 1))) (chkW (decide (IntKind.wrap .i64 (i + 1) ≤ (↑(List.length s) : Int))) (chkW (decide (0 ≤ i)) (chkW (decide (i ≤ (↑(Int.toNat (IntKind.wrap .i64 (i + 1))) : Int))) (∃ (b : Bool), sSymR [AV.str (List.drop (Int.toNat i) (List.take (Int.toNat (IntKind.wrap .i64 (i + 1))) s))] = some (AV.bool b) ∧ askB b (R (AV.tup [AV.agg [AV.int .i64 4, AV.str (List.drop (Int.toNat i) (List.take (Int.toNat (IntKind.wrap .i64 (i + 1))) s)), AV.int .i64 0, AV.bool false, AV.int .u64 0, AV.int .u64 0, AV.int .u64 0, AV.int .u64 0, AV.int .i64 0, AV.bool false, AV.str [], AV.int .i64 0, AV.int .i64 i], AV.int .i64 0]) [AObj.row 41 13 [AV.int .i64 4, AV.str (List.drop (Int.toNat i) (List.take (Int.toNat (IntKind.wrap .i64 (i + 1))) s)), AV.int .i64 0, AV.bool false, AV.int .u64 0, AV.int .u64 0, AV.int .u64 0, AV.int .u64 0, AV.int .i64 0, AV.bool false, AV.str [], AV.int .i64 0, AV.int .i64 i], AObj.row 41 13 [AV.int .i64 4, AV.str (List.drop (Int.toNat i) (List.take (Int.toNat (IntKind.wrap .i64 (i + 1))) s)), AV.int .i64 0, AV.bool false, AV.int .u64 0, AV.int .u64 0, AV.int .u64 0, AV.int .u64 0, AV.int .i64 0, AV.bool false, AV.str [], AV.int .i64 0, AV.int .i64 i]]) (R (AV.tup [AV.agg z13, AV.int .i64 70]) [AObj.row 41 13 z13, AObj.row 41 13 [AV.int .i64 4, AV.str (List.drop (Int.toNat i) (List.take (Int.toNat (IntKind.wrap .i64 (i + 1))) s)), AV.int .i64 0, AV.bool false, AV.int .u64 0, AV.int .u64 0, AV.int .u64 0, AV.int .u64 0, AV.int .i64 0, AV.bool false, AV.str [], AV.int .i64 0, AV.int .i64 i]]))))))))))) (chkW (decide (0 ≤ IntKind.wrap .i64 (i + 1))) (chkW (decide (IntKind.wrap .i64 (i + 1) ≤ (↑(List.length s) : Int))) (chkW (decide (0 ≤ i)) (chkW (decide (i ≤ (↑(Int.toNat (IntKind.wrap .i64 (i + 1))) : Int))) (∃ (b : Bool), sSymR [AV.str (List.drop (Int.toNat i) (List.take (Int.toNat (IntKind.wrap .i64 (i + 1))) s))] = some (AV.bool b) ∧ askB b (R (AV.tup [AV.agg [AV.int .i64 4, AV.str (List.drop (Int.toNat i) (List.take (Int.toNat (IntKind.wrap .i64 (i + 1))) s)), AV.int .i64 0, AV.bool false, AV.int .u64 0, AV.int .u64 0, AV.int .u64 0, AV.int .u64 0, AV.int .i64 0, AV.bool false, AV.str [], AV.int .i64 0, AV.int .i64 i], AV.int .i64 0]) [AObj.row 41 13 [AV.int .i64 4, AV.str (List.drop (Int.toNat i) (List.take (Int.toNat (IntKind.wrap .i64 (i + 1))) s)), AV.int .i64 0, AV.bool false, AV.int .u64 0, AV.int .u64 0, AV.int .u64 0, AV.int .u64 0, AV.int .i64 0, AV.bool false, AV.str [], AV.int .i64 0, AV.int .i64 i], AObj.row 41 13 [AV.int .i64 4, AV.str (List.drop (Int.toNat i) (List.take (Int.toNat (IntKind.wrap .i64 (i + 1))) s)), AV.int .i64 0, AV.bool false, AV.int .u64 0, AV.int .u64 0, AV.int .u64 0, AV.int .u64 0, AV.int .i64 0, AV.bool false, AV.str [], AV.int .i64 0, AV.int .i64 i]]) (R (AV.tup [AV.agg z13, AV.int .i64 70]) [AObj.row 41 13 z13, AObj.row 41 13 [AV.int .i64 4, AV.str (List.drop (Int.toNat i) (List.take (Int.toNat (IntKind.wrap .i64 (i + 1))) s)), AV.int .i64 0, AV.bool false, AV.int .u64 0, AV.int .u64 0, AV.int .u64 0, AV.int .u64 0, AV.int .i64 0, AV.bool false, AV.str [], AV.int .i64 0, AV.int .i64 i]])))))))))))))) = (wpF Tryd.prog (tbC Q tb19 (fun _ => false) kdI) 160 p19 [.str s, .int .i64 i] [] R) := by kernel_rfl

/- The document's Next: its contract. -/

theorem nameAt_at {s : List UInt8} {i : Nat} (h : i ≤ s.length) (hs : s.length ≤ 1099511627776) : sNameAt [.str s, .int .i64 (i : Int)] = some (.int .i64 ((i + runF (s.drop i) : Nat) : Int)) := by
  show (if (0 ≤ (i : Int) ∧ (i : Int) ≤ (s.length : Int)) ∧ s.length ≤ 1099511627776 then some (AV.int .i64 (((i : Int).toNat + runF (s.drop (i : Int).toNat) : Nat) : Int)) else none) = _
  rw [if_pos (by omega), Int.toNat_natCast]
theorem closes_at {s : List UInt8} {i : Nat} (h : i ≤ s.length) (hs : s.length ≤ 1099511627776) : sCloses [.str s, .int .i64 (i : Int)] = some (.tup [.int .i64 (closesF s i), .bool (closesF s i != 0)]) := by
  show (if (0 ≤ (i : Int) ∧ (i : Int) ≤ (s.length : Int)) ∧ s.length ≤ 1099511627776 then some (AV.tup [.int .i64 (closesF s (i : Int).toNat), .bool (closesF s (i : Int).toNat != 0)]) else none) = _
  rw [if_pos (by omega), Int.toNat_natCast]
theorem symR_at {s : List UInt8} (h : s.length ≤ 1099511627776) : sSymR [.str s] = some (.bool (symR s)) := if_pos h
theorem refUnq_at {s : List UInt8} (h : s.length ≤ 1099511627776) : sRefUnq [.str s] = some (.tup [.str (refUnqF s).1, .bool (refUnqF s).2]) := if_pos h
theorem qd_shift : ∀ (l : List UInt8) (k a : Nat), qd l (k + a) = if qd l k = 0 then 0 else qd l k + a
  | [], _, _ => rfl
  | [c], k, a => by
    simp only [qd]
    split
    · rw [if_neg (by omega)]; omega
    · rfl
  | c :: x :: l, k, a => by
    have h1 := qd_shift l (k + 2) a
    have h2 := qd_shift (x :: l) (k + 1) a
    rw [show k + 2 + a = k + a + 2 by omega] at h1
    rw [show k + 1 + a = k + a + 1 by omega] at h2
    rw [qd, qd]
    split
    · rw [if_neg (by omega)]; omega
    · split
      · exact h1
      · exact h2
theorem closes_q (s : List UInt8) (i : Nat) : closesF s i = if quotedF (s.drop i) = 0 then 0 else quotedF (s.drop i) + i := by
  unfold closesF quotedF
  rw [List.drop_drop, ← qd_shift, Nat.add_comm 1 i]
theorem quo_nil : quoOK [] = false := by decide +kernel
theorem sym1 (c : UInt8) : symR [c] = decide (0 ≤ Lib.indexByte onesL c) := by
  have h : ∀ n : Fin 256, symR [n.1.toUInt8] = decide (0 ≤ Lib.indexByte onesL n.1.toUInt8) := by decide +kernel
  have := h ⟨c.toNat, c.toNat_lt⟩
  rwa [tou] at this
theorem cm (a b : UInt8) : (a == b) = (b == a) := by
  by_cases e : a = b
  · subst e; try rfl
  · rw [show (a == b) = false by rw [beq_eq_false_iff_ne]; exact e, show (b == a) = false by rw [beq_eq_false_iff_ne]; exact fun h => e h.symm]
theorem sym2 (c d : UInt8) : symR [c, d] = ((33 == c || 60 == c || 62 == c) && 61 == d) := by
  unfold symR symL
  simp only [List.any_cons, List.any_nil]
  have hl : ∀ x y : UInt8, (([x] : List UInt8) == [y, d]) = false := fun x y => by
    show (x == y && false) = false
    rw [Bool.and_false]
  have hp : ∀ x : UInt8, (([x, 61] : List UInt8) == [c, d]) = (x == c && 61 == d) := fun x => by
    show (x == c && (61 == d && true)) = _
    rw [Bool.and_true]
  simp only [hl, hp, Bool.false_or, Bool.or_false]
  cases (33 == c) <;> cases (60 == c) <;> cases (62 == c) <;> cases (61 == d) <;> rfl
theorem symF_two (t : List UInt8) (h0 : 0 < t.length) : symF t = if decide (1 < t.length) && symR (t.take 2) then t.take 2 else if symR (t.take 1) then t.take 1 else [] := by
  cases t with
  | nil => cases h0
  | cons c l =>
    have h1 : List.take 1 (c :: l) = [c] := rfl
    have hg : (c :: l).getD 0 0 = c := rfl
    have hn : (!((c :: l) == [])) = true := rfl
    unfold symF
    rw [hg, hn, Bool.true_and, h1, sym1]
    cases l with
    | nil =>
      have p : ∀ x : UInt8, Lib.hasPrefix [c] [x, 61] = false := fun x => by simp [Lib.hasPrefix, List.isPrefixOf]
      rw [p, p, p]
      rfl
    | cons d l =>
      have p : ∀ x : UInt8, Lib.hasPrefix (c :: d :: l) [x, 61] = (x == c && 61 == d) := fun x => by simp [Lib.hasPrefix, List.isPrefixOf]
      have h2 : List.take 2 (c :: d :: l) = [c, d] := rfl
      have hl : decide (1 < (c :: d :: l).length) = true := decide_eq_true (by simp)
      rw [p, p, p, h2, sym2, hl, Bool.true_and]
      cases h61 : ((61 : UInt8) == d) with
      | false => simp only [Bool.and_false, Bool.false_eq_true, if_false]
      | true =>
        have ed : d = 61 := (beq_iff_eq.1 h61).symm
        subst ed
        cases a : ((33 : UInt8) == c) with
        | true => rw [← beq_iff_eq.1 a]; try rfl
        | false =>
          cases b : ((60 : UInt8) == c) with
          | true => rw [← beq_iff_eq.1 b]; try rfl
          | false =>
            cases e : ((62 : UInt8) == c) with
            | true => rw [← beq_iff_eq.1 e]; try rfl
            | false => rfl
theorem take1_ne {t : List UInt8} (k : Nat) (h : 0 < t.length) : (t.take (k + 1) == []) = false := by
  cases t with
  | nil => cases h
  | cons _ _ => rfl
theorem refNext_ok : QuietOK Tryd.prog 19 fun vs _ => sNext vs := quiet_plain ht19 fun args v h => by
  unfold sNext at h
  split at h
  · rename_i s z
    split at h
    · rename_i hs
      cases h
      refine ⟨rfl, next_closed s z, ?_⟩
      have hS : (tbS Q tb19).OK Tryd.prog := tbS_ok quietText (by
        intro x hx
        simp only [tb19, List.mem_cons, List.not_mem_nil, or_false] at hx
        rcases hx with rfl | rfl | rfl | rfl | rfl | rfl | rfl | rfl | rfl
        · exact letter40_ok
        · exact nameAt_ok
        · exact refName_ok
        · exact isD42_ok
        · exact refPrefix_ok
        · exact refParse_ok
        · exact closes_ok
        · exact refUnq_ok
        · exact refSymbolR_ok)
      obtain ⟨u, h', rfl, hsem⟩ := sem_vc mixed (C := tbC Q tb19 (fun _ => false) kdI) hS (tbS_q _ _) (tbW_ok rfl) ht19 c19 (no_parts rfl) (v19 s z fun u _ => u = .tup [.agg (nextF s z).1, .int .i64 (nextF s z).2]) (by
        refine askI (fun g0 => ?_) fun g0 => askI (fun g1 => ?_) fun g1 => ?_
        · simp only [decide_eq_true_eq] at g0
          rw [next_out (.inl g0)]; try rfl
        · simp only [decide_eq_true_eq] at g1
          rw [next_out (.inr g1)]; try rfl
        simp only [decide_eq_false_iff_not] at g0 g1
        obtain ⟨i, rfl⟩ : ∃ i : Nat, z = i := ⟨z.toNat, by omega⟩
        have hi : i < s.length := by omega
        have hN : nextF s i = nextAt (s.drop i) i := by unfold nextF; rw [if_neg (by omega), Int.toNat_natCast]
        have hl : (s.drop i).length = s.length - i := List.length_drop
        have hg : s.getD i 0 = (s.drop i).getD 0 0 := by rw [List.getD_eq_getElem?_getD, List.getD_eq_getElem?_getD, List.getElem?_drop]; try rfl
        have hw : ∀ r, (s.take (i + r)).drop i = (s.drop i).take r := fun r => List.take_drop.symm
        have hQ := closes_q s i
        have hnm : sNameAt [.str s, .int .i64 (i : Int)] = some (.int .i64 ((i + runF (s.drop i) : Nat) : Int)) := nameAt_at (by omega) (by omega)
        have hcl : sCloses [.str s, .int .i64 (i : Int)] = some (.tup [.int .i64 (closesF s i), .bool (closesF s i != 0)]) := closes_at (by omega) (by omega)
        have w1 : IntKind.wrap .i64 ((i : Int) + 1) = ((i + 1 : Nat) : Int) := by rw [IntKind.wrap_i64]; omega
        rw [hN, Int.toNat_natCast, List.take_length, hg, w1]
        clear hN
        generalize hT : s.drop i = t at hl hg hw hQ hnm ⊢
        have ht0 : 0 < t.length := by omega
        have htl : t.length ≤ 1048577 := by omega
        have hrl := run_le t
        have hpl := prefix_le t
        have hql := quoted_le t
        refine chkI (decide_eq_true (by omega)) (chkI (decide_eq_true hi) ⟨_, letter_at _, askI (fun g2 => ?_) fun g2 => ⟨_, isD_at _, askI (fun g3 => ?_) fun g3 => ?_⟩⟩)
        · refine ⟨_, hnm, ?_⟩
          rw [Int.toNat_natCast, hw]
          refine chkI (decide_eq_true (by omega)) (chkI (decide_eq_true (by omega)) (chkI (decide_eq_true (by omega)) (chkI (decide_eq_true (by omega)) ⟨_, name_at (s := t.take (runF t)) (by rw [List.length_take]; omega), askI (fun g4 => ?_) fun g4 => ?_⟩)))
          · unfold nextAt; rw [if_pos g2, if_pos g4]; try rfl
          · unfold nextAt; rw [if_pos g2, if_neg (by rw [g4]; decide)]; try rfl
        · refine chkI (decide_eq_true (by omega)) (chkI (decide_eq_true (by omega)) ⟨_, pfx_at (by omega), ?_⟩)
          have w3 : IntKind.wrap .i64 ((i : Int) + (prefixF t : Int)) = ((i + prefixF t : Nat) : Int) := by rw [IntKind.wrap_i64]; omega
          rw [w3, Int.toNat_natCast, hw]
          refine chkI (decide_eq_true (by omega)) (chkI (decide_eq_true (by omega)) (chkI (decide_eq_true (by omega)) (chkI (decide_eq_true (by omega)) ⟨_, _, _, _, _, _, _, parseD_at (s := t.take (prefixF t)) (by rw [List.length_take]; omega), askI (fun g4 => ?_) fun g4 => ?_⟩)))
          · have g4' : numOK (t.take (prefixF t)) = true := g4
            unfold nextAt; rw [if_neg (by rw [g2]; decide), if_pos g3, if_pos g4']; try rfl
          · have g4' : numOK (t.take (prefixF t)) = false := g4
            unfold nextAt; rw [if_neg (by rw [g2]; decide), if_pos g3, if_neg (by rw [g4']; decide)]; try rfl
        · rw [eq34]
          refine askI (fun g4 => ?_) fun g4 => ?_
          · have hX : nextAt t i = if quoOK (t.take (quotedF t)) then (tokQuo t i, 0) else (z13, 70) := by
              unfold nextAt; rw [if_neg (by rw [g2]; decide), if_neg (by rw [g3]; decide), if_pos g4]
            rw [hX]
            refine ⟨_, _, hcl, askI (fun g5 => ?_) fun g5 => ?_⟩
            · have hq0 : quotedF t ≠ 0 := fun e => by rw [if_pos e] at hQ; rw [hQ] at g5; cases g5
              rw [if_neg hq0, Nat.add_comm] at hQ
              rw [hQ, Int.toNat_natCast, hw]
              have hU := (unq_same (t.take (quotedF t))).1
              have eQ : quoOK (t.take (quotedF t)) = ((refUnqF (t.take (quotedF t))).2 && decide ((refUnqF (t.take (quotedF t))).1.length ≤ 64)) := by rw [← hU]; try rfl
              have eK : tokQuo t i = tokV 3 (t.take (quotedF t)) 3 false 0 0 (refUnqF (t.take (quotedF t))).1 i := by rw [← hU]; try rfl
              rw [eQ, eK]
              refine chkI (decide_eq_true (by omega)) (chkI (decide_eq_true (by omega)) (chkI (decide_eq_true (by omega)) (chkI (decide_eq_true (by omega)) ⟨_, _, refUnq_at (s := t.take (quotedF t)) (by rw [List.length_take]; omega), askI (fun g6 => askI (fun g7 => ?_) fun g7 => ?_) fun g6 => ?_⟩)))
              · simp only [decide_eq_true_eq] at g7
                rw [g6, decide_eq_true (p := (refUnqF (t.take (quotedF t))).1.length ≤ 64) (by omega)]; try rfl
              · simp only [decide_eq_false_iff_not] at g7
                rw [g6, decide_eq_false (p := (refUnqF (t.take (quotedF t))).1.length ≤ 64) (by omega)]; try rfl
              · rw [g6]; try rfl
            · have hq0 : quotedF t = 0 := by
                rcases Nat.eq_zero_or_pos (quotedF t) with e | e
                · exact e
                · rw [if_neg (by omega)] at hQ
                  rw [bne, Bool.not_eq_false', beq_iff_eq] at g5
                  omega
              rw [hq0, List.take_zero, quo_nil]; try rfl
          · have hX : nextAt t i = if symF t == [] then (z13, 70) else (tokSym t i, 0) := by
              unfold nextAt; rw [if_neg (by rw [g2]; decide), if_neg (by rw [g3]; decide), if_neg (by rw [g4]; decide)]
            have hY := symF_two t ht0
            rw [hX]
            have one : 1 ≤ t.length → (decide (1 < t.length) && symR (t.take 2)) = false → chkW (decide ((0 : Int) ≤ ((i + 1 : Nat) : Int))) (chkW (decide (((i + 1 : Nat) : Int) ≤ (s.length : Int))) (chkW (decide ((0 : Int) ≤ (i : Int))) (chkW (decide ((i : Int) ≤ (((i + 1 : Nat) : Int).toNat : Int))) (∃ b : Bool, sSymR [.str ((s.take ((i + 1 : Nat) : Int).toNat).drop i)] = some (.bool b) ∧ askB b (AV.tup [.agg (tokV 4 ((s.take ((i + 1 : Nat) : Int).toNat).drop i) 0 false 0 0 [] i), .int .i64 0] = AV.tup [.agg (if symF t == [] then (z13, 70) else (tokSym t i, (0 : Int))).1, .int .i64 (if symF t == [] then (z13, 70) else (tokSym t i, (0 : Int))).2]) (AV.tup [.agg z13, .int .i64 70] = AV.tup [.agg (if symF t == [] then (z13, 70) else (tokSym t i, (0 : Int))).1, .int .i64 (if symF t == [] then (z13, 70) else (tokSym t i, (0 : Int))).2]))))) := fun h1 h2 => by
              rw [Int.toNat_natCast, hw]
              rw [h2, if_neg (by decide)] at hY
              refine chkI (decide_eq_true (by omega)) (chkI (decide_eq_true (by omega)) (chkI (decide_eq_true (by omega)) (chkI (decide_eq_true (by omega)) ⟨_, symR_at (s := t.take 1) (by rw [List.length_take]; omega), askI (fun g6 => ?_) fun g6 => ?_⟩)))
              · rw [if_pos g6] at hY
                unfold tokSym
                rw [hY, if_neg (by rw [take1_ne 0 ht0]; decide)]
              · rw [if_neg (by rw [g6]; decide)] at hY
                rw [hY]; try rfl
            refine askI (fun g5 => ?_) fun g5 => ?_
            · simp only [decide_eq_true_eq] at g5
              have w2 : IntKind.wrap .i64 ((i : Int) + 2) = ((i + 2 : Nat) : Int) := by rw [IntKind.wrap_i64]; omega
              have h1t : decide (1 < t.length) = true := decide_eq_true (by omega)
              rw [w2, Int.toNat_natCast (i + 2), hw 2]
              refine chkI (decide_eq_true (by omega)) (chkI (decide_eq_true (by omega)) (chkI (decide_eq_true (by omega)) (chkI (decide_eq_true (by omega)) ⟨_, symR_at (s := t.take 2) (by rw [List.length_take]; omega), askI (fun g6 => ?_) fun g6 => ?_⟩)))
              · rw [if_pos (by rw [h1t, g6]; try rfl)] at hY
                refine chkI (decide_eq_true (by omega)) (chkI (decide_eq_true (by omega)) (chkI (decide_eq_true (by omega)) (chkI (decide_eq_true (by omega)) ?_)))
                unfold tokSym
                rw [hY, if_neg (by rw [take1_ne 1 ht0]; decide)]; try rfl
              · exact one (by omega) (by rw [g6, Bool.and_false])
            · simp only [decide_eq_false_iff_not] at g5
              exact one (by omega) (by rw [decide_eq_false (by omega)]; try rfl))
      exact ⟨h', hsem⟩
    · cases h
  · cases h
theorem symbolF_R (s : List UInt8) : symbolF s = symR s := by
  unfold symbolF
  cases s with
  | nil => decide
  | cons c l =>
    have hn : (!((c :: l) == [])) = true := rfl
    rw [hn, Bool.true_and, symF_two _ (by simp)]
    cases l with
    | nil =>
      have h1 : decide (1 < [c].length) = false := rfl
      have h2 : List.take 1 [c] = [c] := rfl
      rw [h1, Bool.false_and, if_neg (by decide), h2]
      cases symR [c] with
      | true => simp
      | false => rfl
    | cons d l =>
      have h1 : decide (1 < (c :: d :: l).length) = true := decide_eq_true (by simp)
      have h2 : List.take 2 (c :: d :: l) = [c, d] := rfl
      have h3 : List.take 1 (c :: d :: l) = [c] := rfl
      rw [h1, Bool.true_and, h2, h3]
      cases l with
      | nil =>
        cases symR [c, d] with
        | true => simp
        | false =>
          cases symR [c] with
          | true => simp
          | false => rfl
      | cons e l =>
        have hR : symR (c :: d :: e :: l) = false := by
          unfold symR symL
          rw [List.any_eq_false]
          intro x hx
          simp only [List.mem_cons, List.not_mem_nil, or_false] at hx
          intro h
          rw [beq_iff_eq] at h
          have := congrArg List.length h
          simp only [List.length_cons] at this
          rcases hx with rfl | rfl | rfl | rfl | rfl | rfl | rfl | rfl | rfl | rfl | rfl | rfl | rfl | rfl | rfl | rfl | rfl <;> simp at this
        rw [hR]
        cases symR [c, d] with
        | true => simp
        | false =>
          cases symR [c] with
          | true => simp
          | false => rfl

/- The shape of a word. -/

def ag13 : Rs1 := .agg [.int .i64, .str, .int .i64, .bool, .int .u64, .int .u64, .int .u64, .int .u64, .int .i64, .bool, .str, .int .i64, .int .i64]
def Shaped (l : List AV) : Prop := ∃ (n : Int) (s1 : List UInt8) (n1 : Int) (b : Bool) (n2 n3 n4 n5 n6 : Int) (b1 : Bool) (s2 : List UInt8) (n7 n8 : Int), l = [.int .i64 n, .str s1, .int .i64 n1, .bool b, .int .u64 n2, .int .u64 n3, .int .u64 n4, .int .u64 n5, .int .i64 n6, .bool b1, .str s2, .int .i64 n7, .int .i64 n8]
theorem z13_shaped : Shaped z13 := ⟨_, _, _, _, _, _, _, _, _, _, _, _, _, rfl⟩
theorem tokV_shaped (kind : Int) (text : List UInt8) (vk : Int) (neg : Bool) (n sc : Int) (vt : List UInt8) (at' : Int) : Shaped (tokV kind text vk neg n sc vt at') := ⟨_, _, _, _, _, _, _, _, _, _, _, _, _, rfl⟩
theorem nextAt_shaped (t : List UInt8) (z : Int) : Shaped (nextAt t z).1 := by
  unfold nextAt
  split
  · split
    · exact tokV_shaped ..
    · exact z13_shaped
  · split
    · split
      · exact tokV_shaped ..
      · exact z13_shaped
    · split
      · split
        · exact tokV_shaped ..
        · exact z13_shaped
      · split
        · exact z13_shaped
        · exact tokV_shaped ..
theorem next_shaped (s : List UInt8) (z : Int) : Shaped (nextF s z).1 := by
  unfold nextF
  split
  · exact z13_shaped
  · exact nextAt_shaped _ _
theorem live_at (h : AHeap) : sLive [] h = some (.bool true) := by unfold sLive; rw [if_pos rfl]
end Go.Proofs.YtahdfjmdoljgiaaDoor
