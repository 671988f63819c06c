/- lex.Quote: its walk. -/
import Derived.Test.YtahdfjmdoljgiaaDoorBd
import Derived.Test.YtahdfjmdoljgiaaDoorShelf
import Derived.BigCall
namespace Go.Proofs.YtahdfjmdoljgiaaDoor
open Go Go.RowKit
set_option linter.unusedVariables false
set_option linter.unusedSimpArgs false
def hexd (n : Nat) : UInt8 := if n < 10 then (48 + n).toUInt8 else (87 + n).toUInt8
def esc (c : UInt8) : List UInt8 :=
  if c.toNat < 32 ∨ 126 < c.toNat then [92, 120, hexd (c.toNat / 16), hexd (c.toNat % 16)]
  else if c.toNat = 34 ∨ c.toNat = 92 then [92, c] else [c]
def quoteL (l : List UInt8) : List UInt8 := 34 :: (l.flatMap esc ++ [34])
theorem esc_le (c : UInt8) : (esc c).length ≤ 4 := by unfold esc; split <;> (try split) <;> simp
theorem esc_sum (l : List UInt8) : (l.flatMap esc).length ≤ 4 * l.length := by
  induction l with
  | nil => simp
  | cons a l ih => have := esc_le a; simp only [List.flatMap_cons, List.length_append, List.length_cons]; omega
theorem hexAt (n : Nat) (h : n < 16) : (⟨#[48, 49, 50, 51, 52, 53, 54, 55, 56, 57, 97, 98, 99, 100, 101, 102]⟩ : ByteArray)[n]'h = hexd n := by
  have : ∀ m : Fin 16, (⟨#[48, 49, 50, 51, 52, 53, 54, 55, 56, 57, 97, 98, 99, 100, 101, 102]⟩ : ByteArray)[m.1]'m.2 = hexd m.1 := by decide +kernel
  exact this ⟨n, h⟩
set_option maxHeartbeats 4000000 in
set_option maxRecDepth 1000000 in
theorem quote_walk (s : ByteArray) (w : World) (hs : s.size ≤ 35184372088000) :
    Calls Tryd.prog 14 #[.string s] w fun e w' => e = .returned (.string ⟨(quoteL s.data.toList).toArray⟩) ∧ Below w.heap.size w w' := by
  have mixed := mixedK
  go_enter Tryd.func14, Tryd.ntmps14
  have hI0 : Lib.IsBuilderF 53 5 w.heap.size w.heap.size (Lib.byteCells []) (w.alloc (.cells #[.pointer none, .slice none 0 0] 53)) := Lib.IsBuilderF.of (Lib.fresh_isBuilder 53 5 w)
  have hb0 : Below w.heap.size w (w.alloc (.cells #[.pointer none, .slice none 0 0] 53)) := (Below.refl _ w).alloc (Nat.le_refl _) _
  go_wp2_with (go_at_call 29; refine (writeByte_k w.heap.size w.heap.size _ 34 _ hI0 (by simp [Lib.byteCells]) (by simp)).mono ?_)
  rintro e W0 ⟨rfl, h0, b0, k0⟩
  go_wp2
  go_loopw [9] (fun i wr => ∃ (k : Nat), i = .int .i64 k ∧ k ≤ s.size ∧ Lib.IsBuilderF 53 5 w.heap.size w.heap.size (Lib.byteCells (34 :: (s.data.toList.take k).flatMap esc)) wr ∧ Below w.heap.size w wr) (fun i _ => s.size - (Lib.intOf i).toNat)
  case atStart =>
    exact ⟨0, rfl, Nat.zero_le _, Or.inr h0, hb0.trans b0⟩
  case round =>
    obtain ⟨k, rfl, hk, hI, hb⟩ := hrel
    have hsz : w.heap.size ≤ wr.heap.size := hb.size
    have hl : s.data.toList.length = s.size := by simp
    have hlen : ∀ j, (Lib.byteCells (34 :: (s.data.toList.take j).flatMap esc)).length ≤ 4 * s.size + 1 := fun j => by
      have h1 := esc_sum (s.data.toList.take j)
      have h2 : (s.data.toList.take j).length ≤ s.size := by simp; omega
      rw [Lib.byteCells_length, List.length_cons]; omega
    by_cases hp : k < s.size
    · have hkx : s.data.toList.take (k + 1) = s.data.toList.take k ++ [s[k]] := by
        rw [List.take_add_one, List.getElem?_eq_getElem (by omega)]; rfl
      have hx : s[k].toNat < 256 := s[k].toNat_lt
      have b16 : 0 ≤ (s[k].toNat : Int) / 16 ∧ (s[k].toNat : Int) / 16 < 16 := by omega
      have hm : s.size - (Lib.intOf (.int .i64 ((k + 1 : Nat) : Int))).toNat < s.size - (Lib.intOf (.int .i64 (k : Int))).toNat := by simp [Lib.intOf]; omega
      have hl0 := hlen k
      by_cases hA : s[k].toNat < 32 ∨ 126 < s[k].toNat
      · have hEsc : 34 :: (s.data.toList.take (k + 1)).flatMap esc = (((34 :: (s.data.toList.take k).flatMap esc) ++ [92, 120]) ++ [hexd (s[k].toNat / 16)]) ++ [hexd (s[k].toNat % 16)] := by
          rw [hkx, List.flatMap_append, List.flatMap_singleton, esc, if_pos hA]; simp
        have hA1 : (s[k].toNat : Int) < 32 ∨ 126 < (s[k].toNat : Int) := by omega
        have e2 : (⟨#[92, 120]⟩ : ByteArray).size = 2 := rfl
        rcases hA1 with hA1 | hA1
        · skip
          go_wp2_with (go_at_call 30; refine (writeString_k w.heap.size w.heap.size _ _ _ hI (by simp only [e2]; omega) hsz).mono ?_; rintro e W1 ⟨rfl, h1, b1, k1⟩)
          go_wp2_with (go_at_call 29; refine (writeByte_k w.heap.size w.heap.size _ _ _ (Or.inr h1) (by simp only [List.length_append, Lib.strCells_length, List.length_cons, List.length_nil, e2]; omega) (by have := b1.size; omega)).mono ?_; rintro e W2 ⟨rfl, h2, b2, k2⟩)
          go_wp2_with (go_at_call 29; refine (writeByte_k w.heap.size w.heap.size _ _ _ (Or.inr h2) (by simp only [List.length_append, Lib.strCells_length, List.length_cons, List.length_nil, e2]; omega) (by have := b1.size; have := b2.size; omega)).mono ?_; rintro e W3 ⟨rfl, h3, b3, k3⟩)
          go_wp2
          go_roundw
          case rel =>
            refine ⟨k + 1, by first | rfl | (simp; omega), by omega, Or.inr ?_, hb.trans (b1.trans (b2.trans b3))⟩
            rw [hEsc, Lib.byteCells_append, Lib.byteCells_append, Lib.byteCells_append]
            rw [hexAt (s[k].toNat / 16) (by omega), hexAt (s[k].toNat % 16) (by omega)] at h3
            exact h3
          case measure => exact hm
        · have hA2 : ¬ (s[k].toNat : Int) < 32 := by omega
          go_wp2_with (go_at_call 30; refine (writeString_k w.heap.size w.heap.size _ _ _ hI (by simp only [e2]; omega) hsz).mono ?_; rintro e W1 ⟨rfl, h1, b1, k1⟩)
          go_wp2_with (go_at_call 29; refine (writeByte_k w.heap.size w.heap.size _ _ _ (Or.inr h1) (by simp only [List.length_append, Lib.strCells_length, List.length_cons, List.length_nil, e2]; omega) (by have := b1.size; omega)).mono ?_; rintro e W2 ⟨rfl, h2, b2, k2⟩)
          go_wp2_with (go_at_call 29; refine (writeByte_k w.heap.size w.heap.size _ _ _ (Or.inr h2) (by simp only [List.length_append, Lib.strCells_length, List.length_cons, List.length_nil, e2]; omega) (by have := b1.size; have := b2.size; omega)).mono ?_; rintro e W3 ⟨rfl, h3, b3, k3⟩)
          go_wp2
          go_roundw
          case rel =>
            refine ⟨k + 1, by first | rfl | (simp; omega), by omega, Or.inr ?_, hb.trans (b1.trans (b2.trans b3))⟩
            rw [hEsc, Lib.byteCells_append, Lib.byteCells_append, Lib.byteCells_append]
            rw [hexAt (s[k].toNat / 16) (by omega), hexAt (s[k].toNat % 16) (by omega)] at h3
            exact h3
          case measure => exact hm
      · have e2 : (0 : Nat) = 0 := rfl
        have hA1 : ¬ (s[k].toNat : Int) < 32 := by omega
        have hA2 : ¬ 126 < (s[k].toNat : Int) := by omega
        by_cases hB : s[k].toNat = 34 ∨ s[k].toNat = 92
        · have hEsc : 34 :: (s.data.toList.take (k + 1)).flatMap esc = ((34 :: (s.data.toList.take k).flatMap esc) ++ [92]) ++ [s[k]] := by
            rw [hkx, List.flatMap_append, List.flatMap_singleton, esc, if_neg hA, if_pos hB]; simp
          rcases hB with hB | hB
          · have hB1 : (s[k].toNat : Int) = 34 := by omega
            go_wp2_with (go_at_call 29; refine (writeByte_k w.heap.size w.heap.size _ _ _ hI (by omega) hsz).mono ?_; rintro e W1 ⟨rfl, h1, b1, k1⟩)
            go_wp2_with (go_at_call 29; refine (writeByte_k w.heap.size w.heap.size _ _ _ (Or.inr h1) (by simp only [List.length_append, Lib.strCells_length, List.length_cons, List.length_nil, e2]; omega) (by have := b1.size; omega)).mono ?_; rintro e W2 ⟨rfl, h2, b2, k2⟩)
            go_wp2
            go_roundw
            case rel =>
              refine ⟨k + 1, by first | rfl | (simp; omega), by omega, Or.inr ?_, hb.trans (b1.trans b2)⟩
              rw [hEsc, Lib.byteCells_append, Lib.byteCells_append]
              have e5 : s[k] = (34 : UInt8) := UInt8.toNat_inj.mp hB
              rw [e5]
              exact h2
            case measure => exact hm
          · have hB1 : (s[k].toNat : Int) = 92 := by omega
            go_wp2_with (go_at_call 29; refine (writeByte_k w.heap.size w.heap.size _ _ _ hI (by omega) hsz).mono ?_; rintro e W1 ⟨rfl, h1, b1, k1⟩)
            go_wp2_with (go_at_call 29; refine (writeByte_k w.heap.size w.heap.size _ _ _ (Or.inr h1) (by simp only [List.length_append, Lib.strCells_length, List.length_cons, List.length_nil, e2]; omega) (by have := b1.size; omega)).mono ?_; rintro e W2 ⟨rfl, h2, b2, k2⟩)
            go_wp2
            go_roundw
            case rel =>
              refine ⟨k + 1, by first | rfl | (simp; omega), by omega, Or.inr ?_, hb.trans (b1.trans b2)⟩
              rw [hEsc, Lib.byteCells_append, Lib.byteCells_append]
              have e5 : s[k] = (92 : UInt8) := UInt8.toNat_inj.mp hB
              rw [e5]
              exact h2
            case measure => exact hm
        · have hEsc : 34 :: (s.data.toList.take (k + 1)).flatMap esc = (34 :: (s.data.toList.take k).flatMap esc) ++ [s[k]] := by
            rw [hkx, List.flatMap_append, List.flatMap_singleton, esc, if_neg hA, if_neg hB]; simp
          have hB1 : ¬ (s[k].toNat : Int) = 34 := by omega
          have hB2 : ¬ (s[k].toNat : Int) = 92 := by omega
          have hB3 : ((s[k].toNat : Int) == 34) = false := by simp; omega
          have hB4 : ((s[k].toNat : Int) == 92) = false := by simp; omega
          have hB5 : ¬ ((s[k].toNat : Int) = 34 ∨ (s[k].toNat : Int) = 92) := by omega
          go_wp2_with (go_at_call 29; (refine (writeByte_k w.heap.size w.heap.size _ _ _ hI (by omega) hsz).mono ?_; rintro e W1 ⟨rfl, h1, b1, k1⟩))
          go_wp2
          go_roundw
          case rel =>
            refine ⟨k + 1, by first | rfl | (simp; omega), by omega, Or.inr ?_, hb.trans b1⟩
            rw [hEsc, Lib.byteCells_append]
            exact h1
          case measure => exact hm
    · go_wp2_with (go_at_call 29; refine (writeByte_k w.heap.size w.heap.size _ _ _ hI (by have := hlen k; omega) hsz).mono ?_; rintro e W1 ⟨rfl, h1, b1, k1⟩)
      go_wp2_with (go_at_call 31; refine (Tryd.Builder_String_any_k w.heap.size w.heap.size (quoteL s.data.toList) _ (Or.inr ?hb2) (by have := b1.size; omega)).mono ?_)
      case hb2 =>
        have : Lib.byteCells (quoteL s.data.toList) = Lib.byteCells (34 :: (s.data.toList.take k).flatMap esc) ++ [.int .u8 34] := by
          rw [List.take_of_length_le (by omega)]
          simp [quoteL, Lib.byteCells]
        rw [this]
        exact h1
      rintro e W2 ⟨rfl, h2, b2, k2⟩
      go_wp2
      go_ret
      exact ⟨rfl, hb.trans (b1.trans b2)⟩
end Go.Proofs.YtahdfjmdoljgiaaDoor
