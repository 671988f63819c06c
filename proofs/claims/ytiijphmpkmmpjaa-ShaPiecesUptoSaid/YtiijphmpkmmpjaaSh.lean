/- Written by merging: ShaYa ShaYb ShaYc ShaYd. -/
import Derived.Test.YtiijphmpkmmpjaaShaX
namespace Go.Proofs.Ytiijphmpkmmpjaa
open Go Go.Am
set_option maxRecDepth 100000
set_option linter.unusedVariables false
set_option linter.unusedSimpArgs false

/-- The small memories of takes: a hash, bytes that may only be read, what was left over. -/
def hY (s : Nat → Int) (rest : AV) (n : Int) (d : List AV) : AHeap := [hrow s rest n, .ro d]
def hYo (s : Nat → Int) (rest : AV) (n : Int) (d Rc : List AV) : AHeap := [hrow s rest n, .ro d, .row 26 64 Rc]
def CY (data rest : AV) (s : Nat → Int) (n : Int) (d : List AV) : St := ([.ptr (some (0, 0)), data, .any, .any, .any, .any, .any, .any, .any, .any, .any, .any, .any, .any, .any, .any, .any, .any, .any, .any, .any, .any, .any, .any, .any, .any, .any, .any, .any, .any, .any, .any, .any, .any, .any, .any, .any, .any, .any, .any, .any, .any, .any, .any, .any, .any, .any, .any, .any, .any, .any, .any, .any, .any, .any, .any, .any, .any, .any, .any, .any, .any, .any, .any, .any, .any, .any, .any, .any, .any, .any], hY s rest n d)
def CYo (data rest : AV) (s : Nat → Int) (n : Int) (d Rc : List AV) : St := ([.ptr (some (0, 0)), data, .any, .any, .any, .any, .any, .any, .any, .any, .any, .any, .any, .any, .any, .any, .any, .any, .any, .any, .any, .any, .any, .any, .any, .any, .any, .any, .any, .any, .any, .any, .any, .any, .any, .any, .any, .any, .any, .any, .any, .any, .any, .any, .any, .any, .any, .any, .any, .any, .any, .any, .any, .any, .any, .any, .any, .any, .any, .any, .any, .any, .any, .any, .any, .any, .any, .any, .any, .any, .any], hYo s rest n d Rc)
theorem y0 (s : Nat → Int) (n : Int) (d Rc : List AV) (o m q k : Nat) : (evVg Try.prog SB0 sy1 cvB 2 F36 60 (.inl p36_l0) (CY (.sl (some (1, o)) m (.fix q)) (.sl none 0 (.fix 0)) s n d) [Hint.is false]).map (fun r => (r.1.1, r.1.2.2, r.2.2)) = some (.exit 0, hY s (.sl none 0 (.fix 0)) n d, [List.all d (isInt IntKind.u8), List.all d (isInt IntKind.u8), decide ((↑m : Int) > 0) == false]) := by kernel_rfl
theorem y1 (s : Nat → Int) (n : Int) (d Rc : List AV) (o m q k : Nat) : (evVg Try.prog SB0 sy1 cvB 2 F36 60 (.inl p36_l0) (CY (.sl (some (1, o)) m (.fix q)) (.sl none 0 (.fix 0)) s n d) [Hint.is true, Hint.lit, Hint.is true]).map (fun r => (r.1.1, (tidyV sy1 2 (F36 0) r.1.2).1, (tidyV sy1 2 (F36 0) r.1.2).2, r.2.2)) = some (.normal, CY (.sl (some (1, if 64 = q then o else o + 64 * 1)) (m - 64) (.fix (q - 64))) (.sl none 0 (.fix 0)) (BL s (List.take 64 (List.drop o d))) n d, [d.all (isInt .u8), d.all (isInt .u8)], [List.all d (isInt IntKind.u8), List.all d (isInt IntKind.u8), decide ((↑m : Int) > 0) == true, decide ((↑m : Int) ≥ 64) == true, true, decide (64 ≤ (↑m : Int)), true, true, decide (o + 64 ≤ List.length d), true, isInts IntKind.u8 64 (List.take 64 (List.drop o d)), true, true, true, decide (64 ≤ (↑m : Int))]) := by kernel_rfl
theorem y2 (s : Nat → Int) (n : Int) (d Rc : List AV) (o m q k : Nat) : (evVg Try.prog SB0 sy12 cvB 2 F36 60 (.inl p36_l0) (CY (.sl (some (1, o)) m (.fix q)) (.sl none 0 (.fix 0)) s n d) [Hint.is true, Hint.lit, Hint.is false, Hint.is true]).map (fun r => (r.1.1, r.1.2.2, r.2.2)) = some (.ret, hY s (.sl (some (2, 0)) (Int.toNat (IntKind.wrap .i64 (0 + ((min m 64 : Nat) : Int)))) (.fix 64)) n d ++ [.row 26 64 (R64 (List.take (min m 64 * 1) (List.take (m * 1) (List.drop o d))))], [List.all d (isInt IntKind.u8), List.all d (isInt IntKind.u8), decide ((↑m : Int) > 0) == true, decide ((↑m : Int) ≥ 64) == false, true, true, true, true, true, decide (o + m * 1 ≤ List.length d), List.all (List.take (m * 1) (List.drop o d)) AV.one, decide (0 + min m 64 * 1 ≤ List.length (z3 .u8 64)), true, decide ((↑(min m 64) : Int) ≤ (↑m : Int)), decide (IntKind.wrap IntKind.i64 (0 + (↑(min m 64) : Int)) < 64) == true, decide (0 ≤ IntKind.wrap IntKind.i64 (0 + (↑(min m 64) : Int))), decide (IntKind.wrap IntKind.i64 (0 + (↑(min m 64) : Int)) ≤ (↑64 : Int)), true, true, true]) := by kernel_rfl
theorem y0o (s : Nat → Int) (n : Int) (d Rc : List AV) (o m q k : Nat) : (evVg Try.prog SB0 sy123 cvB 3 F36 60 (.inl p36_l0) (CYo (.sl (some (1, o)) m (.fix q)) (.sl none 0 (.fix 0)) s n d Rc) [Hint.is false]).map (fun r => (r.1.1, r.1.2.2, r.2.2)) = some (.exit 0, hYo s (.sl none 0 (.fix 0)) n d Rc, [List.all d (isInt IntKind.u8), List.all Rc (isInt IntKind.u8), List.all d (isInt IntKind.u8), List.all Rc (isInt IntKind.u8), decide ((↑m : Int) > 0) == false]) := by kernel_rfl
theorem y1o (s : Nat → Int) (n : Int) (d Rc : List AV) (o m q k : Nat) : (evVg Try.prog SB0 sy123 cvB 3 F36 60 (.inl p36_l0) (CYo (.sl (some (1, o)) m (.fix q)) (.sl none 0 (.fix 0)) s n d Rc) [Hint.is true, Hint.lit, Hint.is true]).map (fun r => (r.1.1, (tidyV sy123 3 (F36 0) r.1.2).1, (tidyV sy123 3 (F36 0) r.1.2).2, r.2.2)) = some (.normal, CYo (.sl (some (1, if 64 = q then o else o + 64 * 1)) (m - 64) (.fix (q - 64))) (.sl none 0 (.fix 0)) (BL s (List.take 64 (List.drop o d))) n d Rc, [d.all (isInt .u8), Rc.all (isInt .u8), d.all (isInt .u8), Rc.all (isInt .u8)], [List.all d (isInt IntKind.u8), List.all Rc (isInt IntKind.u8), List.all d (isInt IntKind.u8), List.all Rc (isInt IntKind.u8), decide ((↑m : Int) > 0) == true, decide ((↑m : Int) ≥ 64) == true, true, decide (64 ≤ (↑m : Int)), true, true, decide (o + 64 ≤ List.length d), true, isInts IntKind.u8 64 (List.take 64 (List.drop o d)), true, true, true, decide (64 ≤ (↑m : Int))]) := by kernel_rfl
theorem y2o (s : Nat → Int) (n : Int) (d Rc : List AV) (o m q k : Nat) : (evVg Try.prog SB0 sy123 cvB 3 F36 60 (.inl p36_l0) (CYo (.sl (some (1, o)) m (.fix q)) (.sl none 0 (.fix 0)) s n d Rc) [Hint.is true, Hint.lit, Hint.is false, Hint.is true]).map (fun r => (r.1.1, r.1.2.2, r.2.2)) = some (.ret, hYo s (.sl (some (3, 0)) (Int.toNat (IntKind.wrap .i64 (0 + ((min m 64 : Nat) : Int)))) (.fix 64)) n d Rc ++ [.row 26 64 (R64 (List.take (min m 64 * 1) (List.take (m * 1) (List.drop o d))))], [List.all d (isInt IntKind.u8), List.all Rc (isInt IntKind.u8), List.all d (isInt IntKind.u8), List.all Rc (isInt IntKind.u8), decide ((↑m : Int) > 0) == true, decide ((↑m : Int) ≥ 64) == false, true, true, true, true, true, decide (o + m * 1 ≤ List.length d), List.all (List.take (m * 1) (List.drop o d)) AV.one, decide (0 + min m 64 * 1 ≤ List.length (z3 .u8 64)), true, decide ((↑(min m 64) : Int) ≤ (↑m : Int)), decide (IntKind.wrap IntKind.i64 (0 + (↑(min m 64) : Int)) < 64) == true, decide (0 ≤ IntKind.wrap IntKind.i64 (0 + (↑(min m 64) : Int))), decide (IntKind.wrap IntKind.i64 (0 + (↑(min m 64) : Int)) ≤ (↑64 : Int)), true, true, true]) := by kernel_rfl
theorem y4o (s : Nat → Int) (n : Int) (d Rc : List AV) (o m q k : Nat) : (evVg Try.prog SB0 sy123 cvB 3 F36 60 (.inl p36_l0) (CYo (.sl (some (1, o)) m (.fix q)) (.sl (some (2, 0)) k (.fix 64)) s n d Rc) [Hint.is true, Hint.is false, Hint.is true]).map (fun r => (r.1.1, r.1.2.2, r.2.2)) = some (.ret, hYo s (.sl (some (3, 0)) (Int.toNat (IntKind.wrap .i64 (((min k 64 : Nat) : Int) + (((min m (64 - min k 64)) : Nat) : Int)))) (.fix 64)) n d Rc ++ [.row 26 64 (spliceA (spliceA (z3 .u8 64) 0 (List.take (min k 64 * 1) (List.take (k * 1) (List.drop 0 Rc)))) (if min k 64 = 64 then 0 else 0 + min k 64 * 1) (List.take (min m (64 - min k 64) * 1) (List.take (m * 1) (List.drop o d))))], [List.all d (isInt IntKind.u8), List.all Rc (isInt IntKind.u8), List.all d (isInt IntKind.u8), List.all Rc (isInt IntKind.u8), decide ((↑m : Int) > 0) == true, ((↑k : Int) == 0) == false, true, decide (0 + k * 1 ≤ List.length Rc), List.all (List.take (k * 1) (List.drop 0 Rc)) AV.one, decide (0 + min k 64 * 1 ≤ List.length (z3 .u8 64)), true, decide ((↑(min k 64) : Int) ≤ (↑64 : Int)), decide (o + m * 1 ≤ List.length d), List.all (List.take (m * 1) (List.drop o d)) AV.one, decide ((if min k 64 = 64 then 0 else 0 + min k 64 * 1) + min m (64 - min k 64) * 1 ≤ List.length (spliceA (z3 .u8 64) 0 (List.take (min k 64 * 1) (List.take (k * 1) (List.drop 0 Rc))))), true, decide ((↑(min m (64 - min k 64)) : Int) ≤ (↑m : Int)), decide (IntKind.wrap IntKind.i64 ((↑(min k 64) : Int) + (↑(min m (64 - min k 64)) : Int)) < 64) == true, decide (0 ≤ IntKind.wrap IntKind.i64 ((↑(min k 64) : Int) + (↑(min m (64 - min k 64)) : Int))), decide (IntKind.wrap IntKind.i64 ((↑(min k 64) : Int) + (↑(min m (64 - min k 64)) : Int)) ≤ (↑64 : Int)), true, true, true]) := by kernel_rfl
theorem y5o (s : Nat → Int) (n : Int) (d Rc : List AV) (o m q k : Nat) : (evVg Try.prog SB0 sy123 cvB 3 F36 60 (.inl p36_l0) (CYo (.sl (some (1, o)) m (.fix q)) (.sl (some (2, 0)) k (.fix 64)) s n d Rc) [Hint.is false]).map (fun r => (r.1.1, r.1.2.2, r.2.2)) = some (.exit 0, hYo s (.sl (some (2, 0)) k (.fix 64)) n d Rc, [List.all d (isInt IntKind.u8), List.all Rc (isInt IntKind.u8), List.all d (isInt IntKind.u8), List.all Rc (isInt IntKind.u8), decide ((↑m : Int) > 0) == false]) := by kernel_rfl
theorem y3o (s : Nat → Int) (n : Int) (d Rc : List AV) (o m q k : Nat) : (evVg Try.prog SB0 sy123 cvB 3 F36 60 (.inl p36_l0) (CYo (.sl (some (1, o)) m (.fix q)) (.sl (some (2, 0)) k (.fix 64)) s n d Rc) [Hint.is true, Hint.is false, Hint.is false]).map (fun r => (r.1.1, (tidyV sy123 3 (F36 0) r.1.2).1, (tidyV sy123 3 (F36 0) r.1.2).2, r.2.2)) = some (.normal, CYo (.sl (some (1, if (min m (64 - min k 64)) = q then o else o + (min m (64 - min k 64)) * 1)) (m - (min m (64 - min k 64))) (.fix (q - (min m (64 - min k 64))))) (.sl none 0 (.fix 0)) (BL s (List.take 64 (List.drop 0 (spliceA (spliceA (z3 .u8 64) 0 (List.take (min k 64 * 1) (List.take (k * 1) (List.drop 0 Rc)))) (if min k 64 = 64 then 0 else 0 + min k 64 * 1) (List.take (min m (64 - min k 64) * 1) (List.take (m * 1) (List.drop o d))))))) n d Rc, [d.all (isInt .u8), Rc.all (isInt .u8), (spliceA (spliceA (z3 .u8 64) 0 (List.take (min k 64 * 1) (List.take (k * 1) (List.drop 0 Rc)))) (if min k 64 = 64 then 0 else 0 + min k 64 * 1) (List.take (min m (64 - min k 64) * 1) (List.take (m * 1) (List.drop o d)))).all (isInt .u8), d.all (isInt .u8), Rc.all (isInt .u8)], [List.all d (isInt IntKind.u8), List.all Rc (isInt IntKind.u8), List.all d (isInt IntKind.u8), List.all Rc (isInt IntKind.u8), decide ((↑m : Int) > 0) == true, ((↑k : Int) == 0) == false, true, decide (0 + k * 1 ≤ List.length Rc), List.all (List.take (k * 1) (List.drop 0 Rc)) AV.one, decide (0 + min k 64 * 1 ≤ List.length (z3 .u8 64)), true, decide ((↑(min k 64) : Int) ≤ (↑64 : Int)), decide (o + m * 1 ≤ List.length d), List.all (List.take (m * 1) (List.drop o d)) AV.one, decide ((if min k 64 = 64 then 0 else 0 + min k 64 * 1) + min m (64 - min k 64) * 1 ≤ List.length (spliceA (z3 .u8 64) 0 (List.take (min k 64 * 1) (List.take (k * 1) (List.drop 0 Rc))))), true, decide ((↑(min m (64 - min k 64)) : Int) ≤ (↑m : Int)), decide (IntKind.wrap IntKind.i64 ((↑(min k 64) : Int) + (↑(min m (64 - min k 64)) : Int)) < 64) == false, decide (0 + 64 ≤ List.length (spliceA (spliceA (z3 .u8 64) 0 (List.take (min k 64 * 1) (List.take (k * 1) (List.drop 0 Rc)))) (if min k 64 = 64 then 0 else 0 + min k 64 * 1) (List.take (min m (64 - min k 64) * 1) (List.take (m * 1) (List.drop o d))))), true, isInts IntKind.u8 64 (List.take 64 (List.drop 0 (spliceA (spliceA (z3 .u8 64) 0 (List.take (min k 64 * 1) (List.take (k * 1) (List.drop 0 Rc)))) (if min k 64 = 64 then 0 else 0 + min k 64 * 1) (List.take (min m (64 - min k 64) * 1) (List.take (m * 1) (List.drop o d)))))), true, true, true, true]) := by kernel_rfl
theorem ty (s : Nat → Int) (n : Int) (d Rc : List AV) (o q m : Nat) : ((tidyV sy1 2 (F36 0) (CY (.sl (some (1, o)) m (.fix q)) (.sl none 0 (.fix 0)) s n d)).1, (tidyV sy1 2 (F36 0) (CY (.sl (some (1, o)) m (.fix q)) (.sl none 0 (.fix 0)) s n d)).2) = (CY (.sl (some (1, o)) m (.fix q)) (.sl none 0 (.fix 0)) s n d, [d.all (isInt .u8), d.all (isInt .u8)]) := by kernel_rfl
theorem tyo (s : Nat → Int) (n : Int) (d Rc : List AV) (o q m : Nat) : ((tidyV sy123 3 (F36 0) (CYo (.sl (some (1, o)) m (.fix q)) (.sl none 0 (.fix 0)) s n d Rc)).1, (tidyV sy123 3 (F36 0) (CYo (.sl (some (1, o)) m (.fix q)) (.sl none 0 (.fix 0)) s n d Rc)).2) = (CYo (.sl (some (1, o)) m (.fix q)) (.sl none 0 (.fix 0)) s n d Rc, [d.all (isInt .u8), Rc.all (isInt .u8), d.all (isInt .u8), Rc.all (isInt .u8)]) := by kernel_rfl
theorem takeNy (n : Int) (d Rc : List AV) (hd : d.all (isInt .u8) = true) : ∀ (f m o q : Nat) (s : Nat → Int), m ≤ f → m ≤ q → o + m ≤ d.length →
    ∃ N e st', evG Try.prog SB0 2 F36 N (.inl (.loop p36_l0)) (CY (.sl (some (1, o)) m (.fix q)) (.sl none 0 (.fix 0)) s n d) = some (e, st') ∧ (e = .exit 0 ∨ e = .ret) ∧
      st'.2 = hY (absorb s ((d.drop o).take m)).1 (restV 2 (absorb s ((d.drop o).take m)).2) n d ++ restH (absorb s ((d.drop o).take m)).2 := by
  intro f
  induction f with
  | zero =>
    intro m o q s h1 hq h2
    obtain rfl : m = 0 := by omega
    have h := y0 s n d Rc o 0 q 0
    simp only [Option.map_eq_some_iff] at h
    obtain ⟨⟨⟨e, st'⟩, hs', cl⟩, a1, a2⟩ := h
    simp only [Prod.mk.injEq] at a2
    obtain ⟨rfl, a3, rfl⟩ := a2
    refine ⟨_, _, st', loop_stopg (evVg_ok _ _ _ _ cvB_ok _ _ a1 (by simp [hd])) (fun h => by cases h), .inl rfl, ?_⟩
    rw [a3, List.take_zero, absorb_end (by simp)]
    simp [restV, restH]
  | succ f ih =>
    intro m o q s h1 hq h2
    have hl : ((d.drop o).take m).length = m := by simp; omega
    rcases Nat.eq_zero_or_pos m with rfl | hpos
    · exact ih 0 o q s (by omega) hq h2
    · rcases Nat.lt_or_ge m 64 with g | g
      · have h := y2 s n d Rc o m q 0
        simp only [Option.map_eq_some_iff] at h
        obtain ⟨⟨⟨e, st'⟩, hs', cl⟩, a1, a2⟩ := h
        simp only [Prod.mk.injEq] at a2
        obtain ⟨rfl, a3, rfl⟩ := a2
        have ew : IntKind.wrap .i64 (0 + ((min m 64 : Nat) : Int)) = (m : Int) := by rw [IntKind.wrap_i64]; omega
        have hone : List.all (List.take (m * 1) (List.drop o d)) AV.one = true := ints_one (k := .u8) (all_sub hd fun v hv => List.mem_of_mem_drop (List.mem_of_mem_take hv))
        refine ⟨_, _, st', loop_stopg (evVg_ok _ _ _ _ cvB_ok _ _ a1 ?_) (fun h => by cases h), .inr rfl, ?_⟩
        · rw [ew]
          simp only [hd, hone, z3, ints_length, List.all_cons, List.all_nil, id, Bool.and_true, Bool.and_eq_true, decide_eq_true_eq, beq_iff_eq, decide_eq_false_iff_not, Bool.not_eq_true']
          simp
          omega
        · rw [a3, ew, absorb_end (by rw [hl]; exact g)]
          have e1 : List.take (min m 64 * 1) (List.take (m * 1) (List.drop o d)) = (d.drop o).take m := by
            rw [Nat.mul_one, Nat.mul_one, Nat.min_eq_left (by omega), List.take_take, Nat.min_self]
          rw [e1]
          have hne : (d.drop o).take m ≠ [] := fun h => by rw [h] at hl; simp at hl; omega
          obtain ⟨a, l, hal⟩ : ∃ a l, (d.drop o).take m = a :: l := by
            cases hx : (d.drop o).take m with
            | nil => exact absurd hx hne
            | cons a l => exact ⟨a, l, rfl⟩
          rw [hal] at hl
          rw [hal]
          simp only [restV, restH, hl, Int.toNat_natCast]
      · have hint : isInts IntKind.u8 64 (List.take 64 (List.drop o d)) = true := by
          simp only [isInts, Bool.and_eq_true, beq_iff_eq]
          exact ⟨by simp; omega, all_sub hd fun v hv => List.mem_of_mem_drop (List.mem_of_mem_take hv)⟩
        have et : ((d.drop o).take m).take 64 = (d.drop o).take 64 := by rw [List.take_take, Nat.min_eq_left g]
        have h := y1 s n d Rc o m q 0
        simp only [Option.map_eq_some_iff] at h
        obtain ⟨⟨⟨e, st'⟩, hs', cl⟩, a1, a2⟩ := h
        simp only [Prod.mk.injEq] at a2
        obtain ⟨rfl, a3, a4, rfl⟩ := a2
        have hev := evVg_ok _ _ _ _ cvB_ok _ _ a1 (by
          simp only [hd, hint, List.all_cons, List.all_nil, id, Bool.and_true, Bool.and_eq_true, decide_eq_true_eq, beq_iff_eq]
          simp
          omega)
        have ht := tidyV_ok (sy := sy1) (b := 2) (t := F36 0) (st := st') (by rw [a4]; simp [hd])
        rw [a3] at ht
        obtain ⟨o', ho'⟩ : ∃ o', o' = if 64 = q then o else o + 64 * 1 := ⟨_, rfl⟩
        rw [← ho'] at ht
        have hc := ty (BL s ((d.drop o).take 64)) n d Rc o' (q - 64) (m - 64)
        simp only [Prod.mk.injEq] at hc
        have ht2 := tidyV_ok (sy := sy1) (b := 2) (t := F36 0) (st := CY (.sl (some (1, o')) (m - 64) (.fix (q - 64))) (.sl none 0 (.fix 0)) (BL s ((d.drop o).take 64)) n d) (by rw [hc.2]; simp [hd])
        rw [hc.1] at ht2
        have hlt : o' + (m - 64) ≤ d.length := by subst ho'; split <;> omega
        obtain ⟨N, e2, st2, b1, b2, b3⟩ := ih (m - 64) o' (q - 64) (BL s ((d.drop o).take 64)) (by omega) (by omega) hlt
        refine ⟨max 60 N + 1, e2, st2, loop_nextg (id := 0) rfl (evG_le hev (by omega)) (ht.trans ht2.symm) (evG_le b1 (by omega)), b2, ?_⟩
        have el : ((d.drop o).take m).drop 64 = (d.drop o').take (m - 64) := by
          subst ho'
          split
          · have : m = 64 := by omega
            subst this
            rw [List.drop_eq_nil_of_le (by simp; omega), Nat.sub_self, List.take_zero]
          · rw [List.drop_take, List.drop_drop]
        rw [absorb_more (s := s) (l := (d.drop o).take m) (by omega), el, et]
        exact b3
theorem takeNyo (n : Int) (d Rc : List AV) (hd : d.all (isInt .u8) = true) (hR : Rc.all (isInt .u8) = true) : ∀ (f m o q : Nat) (s : Nat → Int), m ≤ f → m ≤ q → o + m ≤ d.length →
    ∃ N e st', evG Try.prog SB0 3 F36 N (.inl (.loop p36_l0)) (CYo (.sl (some (1, o)) m (.fix q)) (.sl none 0 (.fix 0)) s n d Rc) = some (e, st') ∧ (e = .exit 0 ∨ e = .ret) ∧
      st'.2 = hYo (absorb s ((d.drop o).take m)).1 (restV 3 (absorb s ((d.drop o).take m)).2) n d Rc ++ restH (absorb s ((d.drop o).take m)).2 := by
  intro f
  induction f with
  | zero =>
    intro m o q s h1 hq h2
    obtain rfl : m = 0 := by omega
    have h := y0o s n d Rc o 0 q 0
    simp only [Option.map_eq_some_iff] at h
    obtain ⟨⟨⟨e, st'⟩, hs', cl⟩, a1, a2⟩ := h
    simp only [Prod.mk.injEq] at a2
    obtain ⟨rfl, a3, rfl⟩ := a2
    refine ⟨_, _, st', loop_stopg (evVg_ok _ _ _ _ cvB_ok _ _ a1 (by simp [hd, hR])) (fun h => by cases h), .inl rfl, ?_⟩
    rw [a3, List.take_zero, absorb_end (by simp)]
    simp [restV, restH]
  | succ f ih =>
    intro m o q s h1 hq h2
    have hl : ((d.drop o).take m).length = m := by simp; omega
    rcases Nat.eq_zero_or_pos m with rfl | hpos
    · exact ih 0 o q s (by omega) hq h2
    · rcases Nat.lt_or_ge m 64 with g | g
      · have h := y2o s n d Rc o m q 0
        simp only [Option.map_eq_some_iff] at h
        obtain ⟨⟨⟨e, st'⟩, hs', cl⟩, a1, a2⟩ := h
        simp only [Prod.mk.injEq] at a2
        obtain ⟨rfl, a3, rfl⟩ := a2
        have ew : IntKind.wrap .i64 (0 + ((min m 64 : Nat) : Int)) = (m : Int) := by rw [IntKind.wrap_i64]; omega
        have hone : List.all (List.take (m * 1) (List.drop o d)) AV.one = true := ints_one (k := .u8) (all_sub hd fun v hv => List.mem_of_mem_drop (List.mem_of_mem_take hv))
        refine ⟨_, _, st', loop_stopg (evVg_ok _ _ _ _ cvB_ok _ _ a1 ?_) (fun h => by cases h), .inr rfl, ?_⟩
        · rw [ew]
          simp only [hd, hR, hone, z3, ints_length, List.all_cons, List.all_nil, id, Bool.and_true, Bool.and_eq_true, decide_eq_true_eq, beq_iff_eq, decide_eq_false_iff_not, Bool.not_eq_true']
          simp
          omega
        · rw [a3, ew, absorb_end (by rw [hl]; exact g)]
          have e1 : List.take (min m 64 * 1) (List.take (m * 1) (List.drop o d)) = (d.drop o).take m := by
            rw [Nat.mul_one, Nat.mul_one, Nat.min_eq_left (by omega), List.take_take, Nat.min_self]
          rw [e1]
          have hne : (d.drop o).take m ≠ [] := fun h => by rw [h] at hl; simp at hl; omega
          obtain ⟨a, l, hal⟩ : ∃ a l, (d.drop o).take m = a :: l := by
            cases hx : (d.drop o).take m with
            | nil => exact absurd hx hne
            | cons a l => exact ⟨a, l, rfl⟩
          rw [hal] at hl
          rw [hal]
          simp only [restV, restH, hl, Int.toNat_natCast]
      · have hint : isInts IntKind.u8 64 (List.take 64 (List.drop o d)) = true := by
          simp only [isInts, Bool.and_eq_true, beq_iff_eq]
          exact ⟨by simp; omega, all_sub hd fun v hv => List.mem_of_mem_drop (List.mem_of_mem_take hv)⟩
        have et : ((d.drop o).take m).take 64 = (d.drop o).take 64 := by rw [List.take_take, Nat.min_eq_left g]
        have h := y1o s n d Rc o m q 0
        simp only [Option.map_eq_some_iff] at h
        obtain ⟨⟨⟨e, st'⟩, hs', cl⟩, a1, a2⟩ := h
        simp only [Prod.mk.injEq] at a2
        obtain ⟨rfl, a3, a4, rfl⟩ := a2
        have hev := evVg_ok _ _ _ _ cvB_ok _ _ a1 (by
          simp only [hd, hR, hint, List.all_cons, List.all_nil, id, Bool.and_true, Bool.and_eq_true, decide_eq_true_eq, beq_iff_eq]
          simp
          omega)
        have ht := tidyV_ok (sy := sy123) (b := 3) (t := F36 0) (st := st') (by rw [a4]; simp [hd, hR])
        rw [a3] at ht
        obtain ⟨o', ho'⟩ : ∃ o', o' = if 64 = q then o else o + 64 * 1 := ⟨_, rfl⟩
        rw [← ho'] at ht
        have hc := tyo (BL s ((d.drop o).take 64)) n d Rc o' (q - 64) (m - 64)
        simp only [Prod.mk.injEq] at hc
        have ht2 := tidyV_ok (sy := sy123) (b := 3) (t := F36 0) (st := CYo (.sl (some (1, o')) (m - 64) (.fix (q - 64))) (.sl none 0 (.fix 0)) (BL s ((d.drop o).take 64)) n d Rc) (by rw [hc.2]; simp [hd, hR])
        rw [hc.1] at ht2
        have hlt : o' + (m - 64) ≤ d.length := by subst ho'; split <;> omega
        obtain ⟨N, e2, st2, b1, b2, b3⟩ := ih (m - 64) o' (q - 64) (BL s ((d.drop o).take 64)) (by omega) (by omega) hlt
        refine ⟨max 60 N + 1, e2, st2, loop_nextg (id := 0) rfl (evG_le hev (by omega)) (ht.trans ht2.symm) (evG_le b1 (by omega)), b2, ?_⟩
        have el : ((d.drop o).take m).drop 64 = (d.drop o').take (m - 64) := by
          subst ho'
          split
          · have : m = 64 := by omega
            subst this
            rw [List.drop_eq_nil_of_le (by simp; omega), Nat.sub_self, List.take_zero]
          · rw [List.drop_take, List.drop_drop]
        rw [absorb_more (s := s) (l := (d.drop o).take m) (by omega), el, et]
        exact b3
theorem takeSyo (n : Int) (d : List AV) (hd : d.all (isInt .u8) = true) (l : List AV) (hl : l.all (isInt .u8) = true) (h0 : 0 < l.length) (h64 : l.length < 64) (m o q : Nat) (s : Nat → Int) (hm : 0 < m) (hq : m ≤ q) (ho : o + m ≤ d.length) :
    ∃ N e st', evG Try.prog SB0 3 F36 N (.inl (.loop p36_l0)) (CYo (.sl (some (1, o)) m (.fix q)) (.sl (some (2, 0)) l.length (.fix 64)) s n d (R64 l)) = some (e, st') ∧ (e = .exit 0 ∨ e = .ret) ∧
      st'.2 = hYo (absorb s (l ++ (d.drop o).take m)).1 (restV 3 (absorb s (l ++ (d.drop o).take m)).2) n d (R64 l) ++ restH (absorb s (l ++ (d.drop o).take m)).2 := by
  obtain ⟨q1, q2⟩ := R64_take h64
  have hR := R64_ints hl
  have mk : min l.length 64 = l.length := by omega
  have hne : ¬ l.length = 64 := by omega
  have hnil : l ≠ [] := fun h => by rw [h] at h0; simp at h0
  have hz : (z3 .u8 64).length = 64 := by simp [z3, ints_length]
  have hint : ((d.drop o).take m).all (isInt .u8) = true := all_sub hd fun v hv => List.mem_of_mem_drop (List.mem_of_mem_take hv)
  have hall : (l ++ (d.drop o).take m).all (isInt .u8) = true := by rw [List.all_append, hl, hint]; rfl
  obtain ⟨hB, hLen⟩ := blk_eq (l := l) (d := d) (o := o) (m := m) h64 ho
  have o1 : List.all (List.take (l.length * 1) (List.drop 0 (R64 l))) AV.one = true := ints_one (k := .u8) (all_sub hR fun v hv => List.mem_of_mem_drop (List.mem_of_mem_take hv))
  have o2 : List.all (List.take (m * 1) (List.drop o d)) AV.one = true := ints_one (k := .u8) (all_sub hd fun v hv => List.mem_of_mem_drop (List.mem_of_mem_take hv))
  have len1 : (spliceA (z3 .u8 64) 0 (List.take (min l.length 64 * 1) (List.take (l.length * 1) (List.drop 0 (R64 l))))).length = 64 := by
    rw [splice_len _ _ _ (by simp; omega), hz]
  have len1' : (spliceA (z3 .u8 64) 0 (List.take l.length (List.take l.length (R64 l)))).length = 64 := by
    rw [splice_len _ _ _ (by simp; omega), hz]
  have hBi : isInts .u8 64 (R64 ((l ++ (d.drop o).take m).take 64)) = true := R64_all (all_sub hall fun v hv => List.mem_of_mem_take hv) (by simp; omega)
  have hBi' := hBi
  simp only [isInts, Bool.and_eq_true, beq_iff_eq] at hBi'
  have hXi : isInts .u8 64 (List.take 64 (List.drop 0 (R64 ((l ++ (d.drop o).take m).take 64)))) = true := by
    rw [List.drop_zero, List.take_of_length_le (by omega)]
    exact hBi
  rcases Nat.lt_or_ge (l.length + m) 64 with g | g
  · have h := y4o s n d (R64 l) o m q l.length
    simp only [Option.map_eq_some_iff] at h
    obtain ⟨⟨⟨e, st'⟩, hs', cl⟩, a1, a2⟩ := h
    simp only [Prod.mk.injEq] at a2
    obtain ⟨rfl, a3, rfl⟩ := a2
    rw [hB] at a3
    have mm : min m (64 - l.length) = m := by omega
    have ew : IntKind.wrap .i64 ((l.length : Int) + (m : Int)) = ((l.length + m : Nat) : Int) := by rw [IntKind.wrap_i64]; omega
    refine ⟨_, _, st', loop_stopg (evVg_ok _ _ _ _ cvB_ok _ _ a1 ?_) (fun h => by cases h), .inr rfl, ?_⟩
    · simp only [mk, mm, ew, if_neg hne, hd, hR, o1, o2, len1, hz, q2, List.all_cons, List.all_nil, id, Bool.and_true, Bool.true_and, Bool.and_eq_true, decide_eq_true_eq, beq_iff_eq, Bool.not_eq_true', decide_eq_false_iff_not]
      simp [hnil, len1']
      omega
    · rw [a3, mk, mm, ew, absorb_end (by rw [hLen]; exact g)]
      obtain ⟨a, l', hal⟩ : ∃ a l', l ++ (d.drop o).take m = a :: l' := by
        cases hx : l ++ (d.drop o).take m with
        | nil => simp [hnil] at hx
        | cons a l' => exact ⟨a, l', rfl⟩
      rw [List.take_of_length_le (by omega), ← hLen, hal]
      simp only [restV, restH, Int.toNat_natCast]
  · have e64 : ((l ++ (d.drop o).take m).take 64).length = 64 := by simp; omega
    have eX : List.take 64 (List.drop 0 (R64 ((l ++ (d.drop o).take m).take 64))) = (l ++ (d.drop o).take m).take 64 := by
      rw [R64_full e64, List.drop_zero, List.take_take, Nat.min_self]
    have ew : IntKind.wrap .i64 ((l.length : Int) + ((64 - l.length : Nat) : Int)) = 64 := by rw [IntKind.wrap_i64]; omega
    have mm : min m (64 - l.length) = 64 - l.length := by omega
    have h := y3o s n d (R64 l) o m q l.length
    simp only [Option.map_eq_some_iff] at h
    obtain ⟨⟨⟨e, st'⟩, hs', cl⟩, a1, a2⟩ := h
    simp only [Prod.mk.injEq] at a2
    obtain ⟨rfl, a3, a4, rfl⟩ := a2
    rw [hB] at a1 a3 a4
    have hev := evVg_ok _ _ _ _ cvB_ok _ _ a1 (by
      simp only [mk, mm, if_neg hne, hd, hR, o1, o2, len1, hz, ew, hXi, hBi'.1, q2, List.all_cons, List.all_nil, id, Bool.and_true, Bool.true_and, Bool.and_eq_true, decide_eq_true_eq, beq_iff_eq, Bool.not_eq_true', decide_eq_false_iff_not]
      simp [hnil, len1']
      omega)
    have ht := tidyV_ok (sy := sy123) (b := 3) (t := F36 0) (st := st') (by rw [a4]; simp only [hd, hR, hBi'.2, List.all_cons, List.all_nil, id, Bool.and_self])
    rw [a3, eX] at ht
    simp only [mk, mm, Nat.mul_one] at ht
    obtain ⟨o', ho'⟩ : ∃ o', o' = if 64 - l.length = q then o else o + (64 - l.length) := ⟨_, rfl⟩
    rw [← ho'] at ht
    have hc := tyo (BL s ((l ++ (d.drop o).take m).take 64)) n d (R64 l) o' (q - (64 - l.length)) (m - (64 - l.length))
    simp only [Prod.mk.injEq] at hc
    have ht2 := tidyV_ok (sy := sy123) (b := 3) (t := F36 0) (st := CYo (.sl (some (1, o')) (m - (64 - l.length)) (.fix (q - (64 - l.length)))) (.sl none 0 (.fix 0)) (BL s ((l ++ (d.drop o).take m).take 64)) n d (R64 l)) (by rw [hc.2]; simp only [hd, hR, List.all_cons, List.all_nil, id, Bool.and_self])
    rw [hc.1] at ht2
    have hlt : o' + (m - (64 - l.length)) ≤ d.length := by subst ho'; split <;> omega
    obtain ⟨N, e2, st2, b1, b2, b3⟩ := takeNyo n d (R64 l) hd hR (m - (64 - l.length)) (m - (64 - l.length)) o' (q - (64 - l.length)) (BL s ((l ++ (d.drop o).take m).take 64)) (Nat.le_refl _) (by omega) hlt
    refine ⟨max 60 N + 1, e2, st2, loop_nextg (id := 0) rfl (evG_le hev (by omega)) (ht.trans ht2.symm) (evG_le b1 (by omega)), b2, ?_⟩
    have el : (l ++ (d.drop o).take m).drop 64 = (d.drop o').take (m - (64 - l.length)) := by
      rw [List.drop_append, List.drop_eq_nil_of_le (by omega : l.length ≤ 64), List.nil_append]
      subst ho'
      split
      · rw [List.drop_eq_nil_of_le (by simp; omega), show m - (64 - l.length) = 0 by omega, List.take_zero]
      · rw [List.drop_take, List.drop_drop]
    rw [absorb_more (l := l ++ (d.drop o).take m) (by omega), el]
    exact b3
theorem runNy (n : Int) (d : List AV) (hd : d.all (isInt .u8) = true) (m o q : Nat) (l : List AV) (s : Nat → Int) (hq : m ≤ q) (ho : o + m ≤ d.length) :
    ∃ N, runG Try.prog SB0 F36 N p36 [.ptr (some (0, 0)), .sl (some (1, o)) m (.fix q)] (hY s (.sl none 0 (.fix 0)) n d) =
      some (.tup [], hY (absorb s ((d.drop o).take m)).1 (restV 2 (absorb s ((d.drop o).take m)).2) n d ++ restH (absorb s ((d.drop o).take m)).2) := by
  obtain ⟨N, e, st', a1, a2, a3⟩ := takeNy n d (R64 l) hd m m o q s (Nat.le_refl _) hq ho
  have a1' : evG Try.prog SB0 (hY s (.sl none 0 (.fix 0)) n d).length F36 N (.inl (.loop p36_l0)) ([.ptr (some (0, 0)), .sl (some (1, o)) m (.fix q)] ++ List.replicate (p36.ntmps - [AV.ptr (some (0, 0)), .sl (some (1, o)) m (.fix q)].length) .any, hY s (.sl none 0 (.fix 0)) n d) = some (e, st') := a1
  rw [← a3]
  rcases a2 with rfl | rfl
  · exact ⟨N + 1, by unfold runG; rw [show p36.body = .block 0 (.loop p36_l0) from rfl, block_stopg a1']; rfl⟩
  · exact ⟨N + 1, by unfold runG; rw [show p36.body = .block 0 (.loop p36_l0) from rfl, block_passg a1']; rfl⟩
theorem runSyo (n : Int) (d : List AV) (hd : d.all (isInt .u8) = true) (m o q : Nat) (l : List AV) (hl : l.all (isInt .u8) = true) (h0 : 0 < l.length) (h64 : l.length < 64) (hm : 0 < m) (s : Nat → Int) (hq : m ≤ q) (ho : o + m ≤ d.length) :
    ∃ N, runG Try.prog SB0 F36 N p36 [.ptr (some (0, 0)), .sl (some (1, o)) m (.fix q)] (hYo s (.sl (some (2, 0)) l.length (.fix 64)) n d (R64 l)) =
      some (.tup [], hYo (absorb s (l ++ (d.drop o).take m)).1 (restV 3 (absorb s (l ++ (d.drop o).take m)).2) n d (R64 l) ++ restH (absorb s (l ++ (d.drop o).take m)).2) := by
  obtain ⟨N, e, st', a1, a2, a3⟩ := takeSyo n d hd l hl h0 h64 m o q s hm hq ho
  have a1' : evG Try.prog SB0 (hYo s (.sl (some (2, 0)) l.length (.fix 64)) n d (R64 l)).length F36 N (.inl (.loop p36_l0)) ([.ptr (some (0, 0)), .sl (some (1, o)) m (.fix q)] ++ List.replicate (p36.ntmps - [AV.ptr (some (0, 0)), .sl (some (1, o)) m (.fix q)].length) .any, hYo s (.sl (some (2, 0)) l.length (.fix 64)) n d (R64 l)) = some (e, st') := a1
  rw [← a3]
  rcases a2 with rfl | rfl
  · exact ⟨N + 1, by unfold runG; rw [show p36.body = .block 0 (.loop p36_l0) from rfl, block_stopg a1']; rfl⟩
  · exact ⟨N + 1, by unfold runG; rw [show p36.body = .block 0 (.loop p36_l0) from rfl, block_passg a1']; rfl⟩
theorem run0yo (n : Int) (d : List AV) (hd : d.all (isInt .u8) = true) (o q : Nat) (l : List AV) (hl : l.all (isInt .u8) = true) (s : Nat → Int) :
    ∃ N, runG Try.prog SB0 F36 N p36 [.ptr (some (0, 0)), .sl (some (1, o)) 0 (.fix q)] (hYo s (.sl (some (2, 0)) l.length (.fix 64)) n d (R64 l)) = some (.tup [], hYo s (.sl (some (2, 0)) l.length (.fix 64)) n d (R64 l)) := by
  have hR := R64_ints hl
  have h := y5o s n d (R64 l) o 0 q l.length
  simp only [Option.map_eq_some_iff] at h
  obtain ⟨⟨⟨e, st'⟩, hs', cl⟩, a1, a2⟩ := h
  simp only [Prod.mk.injEq] at a2
  obtain ⟨rfl, a3, rfl⟩ := a2
  have a1' := loop_stopg (n := 60) (evVg_ok _ _ _ _ cvB_ok _ _ a1 (by simp only [hd, hR, List.all_cons, List.all_nil, id]; simp)) (fun h => by cases h)
  have a1'' : evG Try.prog SB0 (hYo s (.sl (some (2, 0)) l.length (.fix 64)) n d (R64 l)).length F36 61 (.inl (.loop p36_l0)) ([.ptr (some (0, 0)), .sl (some (1, o)) 0 (.fix q)] ++ List.replicate (p36.ntmps - [AV.ptr (some (0, 0)), .sl (some (1, o)) 0 (.fix q)].length) .any, hYo s (.sl (some (2, 0)) l.length (.fix 64)) n d (R64 l)) = some (.exit 0, st') := a1'
  exact ⟨62, by unfold runG; rw [show p36.body = .block 0 (.loop p36_l0) from rfl, block_stopg a1'']; exact congrArg (fun x => some (AV.tup [], x)) a3⟩
theorem g18a (s s' : Nat → Int) (n : Int) (d Rc Rc' : List AV) (o m q k k' : Nat) : runVg Try.prog SB1 (sy0 [1, 2]) (cvE [(36, ([.ptr (some (0, 0)), .sl (some (1, o)) m (.fix q)], (hY s (.sl none 0 (.fix 0)) n d)), (.tup [], hY s' (.sl none 0 (.fix 0)) n d))]) FNo 60 p18 [.ptr (some (0, 0)), .sl (some (1, o)) m (.fix q)] (hY s (.sl none 0 (.fix 0)) n d) [.lit, .is false] = some ((.int .i64 0, hY s' (.sl none 0 (.fix 0)) (IntKind.i64.wrap (n + (m : Int))) d), [decide ((m : Int) > IntKind.i64.wrap (1152921504606846976 - n)) == false, sameH ([.ptr (some (0, 0)), .sl (some (1, o)) m (.fix q)], (hY s (.sl none 0 (.fix 0)) n d)) ([.ptr (some (0, 0)), .sl (some (1, o)) m (.fix q)], (hY s (.sl none 0 (.fix 0)) n d)), true, true]) := by kernel_rfl
theorem g18b (s s' : Nat → Int) (n : Int) (d Rc Rc' : List AV) (o m q k k' : Nat) : runVg Try.prog SB1 (sy0 [1, 2]) (cvE [(36, ([.ptr (some (0, 0)), .sl (some (1, o)) m (.fix q)], (hY s (.sl none 0 (.fix 0)) n d)), (.tup [], hY s' (.sl (some (2, 0)) k' (.fix 64)) n d ++ [.row 26 64 Rc']))]) FNo 60 p18 [.ptr (some (0, 0)), .sl (some (1, o)) m (.fix q)] (hY s (.sl none 0 (.fix 0)) n d) [.lit, .is false] = some ((.int .i64 0, hY s' (.sl (some (2, 0)) k' (.fix 64)) (IntKind.i64.wrap (n + (m : Int))) d ++ [.row 26 64 Rc']), [decide ((m : Int) > IntKind.i64.wrap (1152921504606846976 - n)) == false, sameH ([.ptr (some (0, 0)), .sl (some (1, o)) m (.fix q)], (hY s (.sl none 0 (.fix 0)) n d)) ([.ptr (some (0, 0)), .sl (some (1, o)) m (.fix q)], (hY s (.sl none 0 (.fix 0)) n d)), true, true]) := by kernel_rfl
theorem g18c (s s' : Nat → Int) (n : Int) (d Rc Rc' : List AV) (o m q k k' : Nat) : runVg Try.prog SB1 (sy0 [1, 2]) (cvE [(36, ([.ptr (some (0, 0)), .sl (some (1, o)) m (.fix q)], (hYo s (.sl (some (2, 0)) k (.fix 64)) n d Rc)), (.tup [], hYo s' (.sl none 0 (.fix 0)) n d Rc))]) FNo 60 p18 [.ptr (some (0, 0)), .sl (some (1, o)) m (.fix q)] (hYo s (.sl (some (2, 0)) k (.fix 64)) n d Rc) [.lit, .is false] = some ((.int .i64 0, hYo s' (.sl none 0 (.fix 0)) (IntKind.i64.wrap (n + (m : Int))) d Rc), [decide ((m : Int) > IntKind.i64.wrap (1152921504606846976 - n)) == false, sameH ([.ptr (some (0, 0)), .sl (some (1, o)) m (.fix q)], (hYo s (.sl (some (2, 0)) k (.fix 64)) n d Rc)) ([.ptr (some (0, 0)), .sl (some (1, o)) m (.fix q)], (hYo s (.sl (some (2, 0)) k (.fix 64)) n d Rc)), true, true]) := by kernel_rfl
theorem g18d (s s' : Nat → Int) (n : Int) (d Rc Rc' : List AV) (o m q k k' : Nat) : runVg Try.prog SB1 (sy0 [1, 2]) (cvE [(36, ([.ptr (some (0, 0)), .sl (some (1, o)) m (.fix q)], (hYo s (.sl (some (2, 0)) k (.fix 64)) n d Rc)), (.tup [], hYo s' (.sl (some (3, 0)) k' (.fix 64)) n d Rc ++ [.row 26 64 Rc']))]) FNo 60 p18 [.ptr (some (0, 0)), .sl (some (1, o)) m (.fix q)] (hYo s (.sl (some (2, 0)) k (.fix 64)) n d Rc) [.lit, .is false] = some ((.int .i64 0, hYo s' (.sl (some (3, 0)) k' (.fix 64)) (IntKind.i64.wrap (n + (m : Int))) d Rc ++ [.row 26 64 Rc']), [decide ((m : Int) > IntKind.i64.wrap (1152921504606846976 - n)) == false, sameH ([.ptr (some (0, 0)), .sl (some (1, o)) m (.fix q)], (hYo s (.sl (some (2, 0)) k (.fix 64)) n d Rc)) ([.ptr (some (0, 0)), .sl (some (1, o)) m (.fix q)], (hYo s (.sl (some (2, 0)) k (.fix 64)) n d Rc)), true, true]) := by kernel_rfl
theorem g18e (s s' : Nat → Int) (n : Int) (d Rc Rc' : List AV) (o m q k k' : Nat) : runVg Try.prog SB1 (sy0 [1, 2]) (cvE [(36, ([.ptr (some (0, 0)), .sl (some (1, o)) m (.fix q)], (hYo s (.sl (some (2, 0)) k (.fix 64)) n d Rc)), (.tup [], hYo s' (.sl (some (2, 0)) k (.fix 64)) n d Rc))]) FNo 60 p18 [.ptr (some (0, 0)), .sl (some (1, o)) m (.fix q)] (hYo s (.sl (some (2, 0)) k (.fix 64)) n d Rc) [.lit, .is false] = some ((.int .i64 0, hYo s' (.sl (some (2, 0)) k (.fix 64)) (IntKind.i64.wrap (n + (m : Int))) d Rc), [decide ((m : Int) > IntKind.i64.wrap (1152921504606846976 - n)) == false, sameH ([.ptr (some (0, 0)), .sl (some (1, o)) m (.fix q)], (hYo s (.sl (some (2, 0)) k (.fix 64)) n d Rc)) ([.ptr (some (0, 0)), .sl (some (1, o)) m (.fix q)], (hYo s (.sl (some (2, 0)) k (.fix 64)) n d Rc)), true, true]) := by kernel_rfl
theorem v18_0 (s : Nat → Int) (n : Int) (d : List AV) (hd : d.all (isInt .u8) = true) (m o q : Nat) (h0 : 0 ≤ n) (hr : n + m ≤ 1152921504606846976) (hq : m ≤ q) (ho : o + m ≤ d.length) :
    limG Try.prog SB1 FNo p18 [.ptr (some (0, 0)), .sl (some (1, o)) m (.fix q)] (hY s (.sl none 0 (.fix 0)) n d) = some (.int .i64 0, hY (absorb s ((d.drop o).take m)).1 (restV 2 (absorb s ((d.drop o).take m)).2) (n + m) d ++ restH (absorb s ((d.drop o).take m)).2) := by
  obtain ⟨N, hrun⟩ := runNy n d hd m o q [] s hq ho
  obtain ⟨r1, r2⟩ := room_ok h0 hr
  have hl36 := limG_of hrun
  generalize absorb s ((d.drop o).take m) = A at *
  obtain ⟨A1, A2⟩ := A
  cases A2 with
  | nil =>
    have h36 := cv1_ok (a := (_, _)) (r := (_, _)) (hl36.trans (by rw [show restH [] = [] from rfl, List.append_nil]; rfl) : limG Try.prog SB0 F36 p36 _ _ = some (.tup [], hY A1 (.sl none 0 (.fix 0)) n d))
    rw [← r2]
    rw [show restH [] = [] from rfl, List.append_nil]
    exact limG_of (runVg_ok Try.prog SB1 (sy0 [1, 2]) _ h36 (g18a s A1 n d [] [] o m q 0 0) (by simp only [r1, sameH_self, List.all_cons, List.all_nil, id, Bool.and_self]))
  | cons a l' =>
    have h36 := cv1_ok (a := (_, _)) (r := (_, _)) (hl36 : limG Try.prog SB0 F36 p36 _ _ = some (.tup [], hY A1 (.sl (some (2, 0)) (a :: l').length (.fix 64)) n d ++ [.row 26 64 (R64 (a :: l'))]))
    rw [← r2]
    exact limG_of (runVg_ok Try.prog SB1 (sy0 [1, 2]) _ h36 (g18b s A1 n d [] (R64 (a :: l')) o m q 0 (a :: l').length) (by simp only [r1, sameH_self, List.all_cons, List.all_nil, id, Bool.and_self]))
theorem v18_S (s : Nat → Int) (n : Int) (d : List AV) (hd : d.all (isInt .u8) = true) (m o q : Nat) (l : List AV) (hl : l.all (isInt .u8) = true) (hl0 : 0 < l.length) (h64 : l.length < 64) (hm : 0 < m) (h0 : 0 ≤ n) (hr : n + m ≤ 1152921504606846976) (hq : m ≤ q) (ho : o + m ≤ d.length) :
    limG Try.prog SB1 FNo p18 [.ptr (some (0, 0)), .sl (some (1, o)) m (.fix q)] (hYo s (.sl (some (2, 0)) l.length (.fix 64)) n d (R64 l)) = some (.int .i64 0, hYo (absorb s (l ++ (d.drop o).take m)).1 (restV 3 (absorb s (l ++ (d.drop o).take m)).2) (n + m) d (R64 l) ++ restH (absorb s (l ++ (d.drop o).take m)).2) := by
  obtain ⟨N, hrun⟩ := runSyo n d hd m o q l hl hl0 h64 hm s hq ho
  obtain ⟨r1, r2⟩ := room_ok h0 hr
  have hl36 := limG_of hrun
  generalize absorb s (l ++ (d.drop o).take m) = A at *
  obtain ⟨A1, A2⟩ := A
  cases A2 with
  | nil =>
    have h36 := cv1_ok (a := (_, _)) (r := (_, _)) (hl36.trans (by rw [show restH [] = [] from rfl, List.append_nil]; rfl) : limG Try.prog SB0 F36 p36 _ _ = some (.tup [], hYo A1 (.sl none 0 (.fix 0)) n d (R64 l)))
    rw [← r2]
    rw [show restH [] = [] from rfl, List.append_nil]
    exact limG_of (runVg_ok Try.prog SB1 (sy0 [1, 2]) _ h36 (g18c s A1 n d (R64 l) [] o m q l.length 0) (by simp only [r1, sameH_self, List.all_cons, List.all_nil, id, Bool.and_self]))
  | cons a l' =>
    have h36 := cv1_ok (a := (_, _)) (r := (_, _)) (hl36 : limG Try.prog SB0 F36 p36 _ _ = some (.tup [], hYo A1 (.sl (some (3, 0)) (a :: l').length (.fix 64)) n d (R64 l) ++ [.row 26 64 (R64 (a :: l'))]))
    rw [← r2]
    exact limG_of (runVg_ok Try.prog SB1 (sy0 [1, 2]) _ h36 (g18d s A1 n d (R64 l) (R64 (a :: l')) o m q l.length (a :: l').length) (by simp only [r1, sameH_self, List.all_cons, List.all_nil, id, Bool.and_self]))
theorem v18_E (s : Nat → Int) (n : Int) (d : List AV) (hd : d.all (isInt .u8) = true) (o q : Nat) (l : List AV) (hl : l.all (isInt .u8) = true) (h0 : 0 ≤ n) (hr : n ≤ 1152921504606846976) :
    limG Try.prog SB1 FNo p18 [.ptr (some (0, 0)), .sl (some (1, o)) 0 (.fix q)] (hYo s (.sl (some (2, 0)) l.length (.fix 64)) n d (R64 l)) = some (.int .i64 0, hYo s (.sl (some (2, 0)) l.length (.fix 64)) n d (R64 l)) := by
  obtain ⟨N, hrun⟩ := run0yo n d hd o q l hl s
  obtain ⟨r1, r2⟩ := room_ok (m := 0) h0 (by omega)
  have r3 : IntKind.i64.wrap (n + ((0 : Nat) : Int)) = n := by rw [r2]; omega
  have h36 := cv1_ok (a := (_, _)) (limG_of hrun)
  have := limG_of (runVg_ok Try.prog SB1 (sy0 [1, 2]) _ h36 (g18e s s n d (R64 l) [] o 0 q l.length 0) (by simp only [r1, sameH_self, List.all_cons, List.all_nil, id, Bool.and_self]))
  rw [r3] at this
  exact this
theorem writey_0 {h : AHeap} {i j o m q : Nat} {s : Nat → Int} {n : Int} {d : List AV} (hi : h[i]? = some (hrow s (.sl none 0 (.fix 0)) n)) (hj : h[j]? = some (.ro d)) (hij : i ≠ j) (hd : d.all (isInt .u8) = true) (hn0 : 0 ≤ n) (hnm : n + m ≤ 1152921504606846976) (hq : m ≤ q) (ho : o + m ≤ d.length) :
    framedS 1 sW [.ptr (some (i, 0)), .sl (some (j, o)) m (.fix q)] h = some (.int .i64 0, h.set i (hrow (absorb s ((d.drop o).take m)).1 (restV h.length (absorb s ((d.drop o).take m)).2) (n + m)) ++ restH (absorb s ((d.drop o).take m)).2) := by
  obtain ⟨gi, li⟩ := getD_at hi
  obtain ⟨gj, lj⟩ := getD_at hj
  have hl := v18_0 s n d hd m o q hn0 hnm hq ho
  have hint : ((d.drop o).take m).all (isInt .u8) = true := all_sub hd fun v hv => List.mem_of_mem_drop (List.mem_of_mem_take hv)
  obtain ⟨a1, a2⟩ := absorb_int s hint
  generalize hA : absorb s ((d.drop o).take m) = A at *
  have hs : sW [.ptr (some (0, 0)), .sl (some (1, o)) m (.fix q)] (hrow s (.sl none 0 (.fix 0)) n :: [j].map fun k => h.getD k .dead) = some (.int .i64 0, (hrow A.1 (restV 2 A.2) (n + m) :: [j].map fun k => h.getD k .dead) ++ restH A.2, (List.range (restH A.2).length).map ([j].length + 1 + ·)) := by
    simp only [List.map_cons, List.map_nil, gj]
    unfold sW
    rw [show ([hrow s (.sl none 0 (.fix 0)) n, .ro d] : AHeap) = hY s (.sl none 0 (.fix 0)) n d from rfl, hl]
    simp only [Option.map_some, hY, List.cons_append, List.nil_append, List.getD_cons_zero, List.length_cons, List.length_nil, Nat.zero_add, Option.some.injEq, Prod.mk.injEq, true_and]
    exact new_names
  have hres := framed_one (d := 1) (s := sW) (args := [.ptr (some (i, 0)), .sl (some (j, o)) m (.fix q)]) (a := [.ptr (some (0, 0)), .sl (some (1, o)) m (.fix q)]) (h := h) (i := i) (ks := [j]) (o0 := hrow s (.sl none 0 (.fix 0)) n) (reach_ps hij (by rw [gi, hrow_names]; rfl) (by rw [gj]; exact (row_names (t := 5) (z := 1) hd).2)) (by simp [hij]) li (by rw [gi]; rfl)
    (by simp only [AV.renL, AV.ren, (idx2 hij).1, (idx2 hij).2, Option.map_some]) (by rw [gi]; exact hrow_ren rfl)
    (fun k hk => by rw [List.mem_singleton] at hk; subst hk; rw [gj]; exact (num_int (t := 5) (s := 1) hd).2) hs rfl
  rw [hres, restH_own _ a1 (by omega)]
  congr 4
  obtain ⟨A1, A2⟩ := A
  cases A2 with
  | nil => exact hrow_ren rfl
  | cons x l => exact hrow_ren (restV_ren (tau_new rfl 0 (by simp [restH])) _)
theorem writey_S {h : AHeap} {i j k o m q : Nat} {s : Nat → Int} {n : Int} {d l : List AV} (hi : h[i]? = some (hrow s (.sl (some (k, 0)) l.length (.fix 64)) n)) (hj : h[j]? = some (.ro d)) (hk : h[k]? = some (.row 26 64 (R64 l))) (hij : i ≠ j) (hik : i ≠ k) (hjk : j ≠ k) (hd : d.all (isInt .u8) = true) (hl : l.all (isInt .u8) = true) (h0 : 0 < l.length) (h64 : l.length < 64) (hm : 0 < m) (hn0 : 0 ≤ n) (hnm : n + m ≤ 1152921504606846976) (hq : m ≤ q) (ho : o + m ≤ d.length) :
    framedS 1 sW [.ptr (some (i, 0)), .sl (some (j, o)) m (.fix q)] h = some (.int .i64 0, h.set i (hrow (absorb s (l ++ (d.drop o).take m)).1 (restV h.length (absorb s (l ++ (d.drop o).take m)).2) (n + m)) ++ restH (absorb s (l ++ (d.drop o).take m)).2) := by
  obtain ⟨gi, li⟩ := getD_at hi
  obtain ⟨gj, lj⟩ := getD_at hj
  obtain ⟨gk, lk⟩ := getD_at hk
  have hR := R64_ints hl
  have hint : (l ++ (d.drop o).take m).all (isInt .u8) = true := by rw [List.all_append, hl, all_sub hd fun v hv => List.mem_of_mem_drop (List.mem_of_mem_take hv)]; rfl
  obtain ⟨a1, a2⟩ := absorb_int s hint
  have hlim := v18_S s n d hd m o q l hl h0 h64 hm hn0 hnm hq ho
  generalize hA : absorb s (l ++ (d.drop o).take m) = A at *
  have hs : sW [.ptr (some (0, 0)), .sl (some (1, o)) m (.fix q)] (hrow s (.sl (some (2, 0)) l.length (.fix 64)) n :: [j, k].map fun k => h.getD k .dead) = some (.int .i64 0, (hrow A.1 (restV 3 A.2) (n + m) :: [j, k].map fun k => h.getD k .dead) ++ restH A.2, (List.range (restH A.2).length).map ([j, k].length + 1 + ·)) := by
    simp only [List.map_cons, List.map_nil, gj, gk]
    unfold sW
    rw [show ([hrow s (.sl (some (2, 0)) l.length (.fix 64)) n, .ro d, .row 26 64 (R64 l)] : AHeap) = hYo s (.sl (some (2, 0)) l.length (.fix 64)) n d (R64 l) from rfl, hlim]
    simp only [Option.map_some, hYo, List.cons_append, List.nil_append, List.getD_cons_zero, List.length_cons, List.length_nil, Nat.zero_add, Option.some.injEq, Prod.mk.injEq, true_and]
    exact new_names
  have hres := framed_one (d := 1) (s := sW) (args := [.ptr (some (i, 0)), .sl (some (j, o)) m (.fix q)]) (a := [.ptr (some (0, 0)), .sl (some (1, o)) m (.fix q)]) (h := h) (i := i) (ks := [j, k]) (o0 := hrow s (.sl (some (2, 0)) l.length (.fix 64)) n) (reach_psr hij hik hjk (by rw [gi, hrow_names]; rfl) (by rw [gj]; exact (row_names (t := 5) (z := 1) hd).2)) (by simp [hij, hik, hjk]) li (by rw [gi]; rfl)
    (by simp only [AV.renL, AV.ren, (idx3 hij hik hjk).1, (idx3 hij hik hjk).2.1, Option.map_some]) (by rw [gi]; exact hrow_ren (by simp only [AV.ren, (idx3 hij hik hjk).2.2, Option.map_some]))
    (fun x hx => by
      simp only [List.mem_cons, List.not_mem_nil, or_false] at hx
      rcases hx with rfl | rfl
      · rw [gj]; exact (num_int (t := 5) (s := 1) hd).2
      · rw [gk]; exact (num_int (t := 26) (s := 64) hR).1) hs rfl
  rw [hres, restH_own _ a1 (by omega)]
  congr 4
  obtain ⟨A1, A2⟩ := A
  cases A2 with
  | nil => exact hrow_ren rfl
  | cons x l => exact hrow_ren (restV_ren (tau_new rfl 0 (by simp [restH])) _)
def z_hT (s : Nat → Int) (rest : AV) (n : Int) (d : List AV) : AHeap := [hrow s rest n, .ro d]
def z_hTo (s : Nat → Int) (rest : AV) (n : Int) (d Rc : List AV) : AHeap := [hrow s rest n, .ro d, .row 26 64 Rc]
def z_CT (data rest : AV) (s : Nat → Int) (n : Int) (d : List AV) : St := ([.ptr (some (0, 0)), data, .any, .any, .any, .any, .any, .any, .any, .any, .any, .any, .any, .any, .any, .any, .any, .any, .any, .any, .any, .any, .any, .any, .any, .any, .any, .any, .any, .any, .any, .any, .any, .any, .any, .any, .any, .any, .any, .any, .any, .any, .any, .any, .any, .any, .any, .any, .any, .any, .any, .any, .any, .any, .any, .any, .any, .any, .any, .any, .any, .any, .any, .any, .any, .any, .any, .any, .any, .any, .any], z_hT s rest n d)
def z_CTo (data rest : AV) (s : Nat → Int) (n : Int) (d Rc : List AV) : St := ([.ptr (some (0, 0)), data, .any, .any, .any, .any, .any, .any, .any, .any, .any, .any, .any, .any, .any, .any, .any, .any, .any, .any, .any, .any, .any, .any, .any, .any, .any, .any, .any, .any, .any, .any, .any, .any, .any, .any, .any, .any, .any, .any, .any, .any, .any, .any, .any, .any, .any, .any, .any, .any, .any, .any, .any, .any, .any, .any, .any, .any, .any, .any, .any, .any, .any, .any, .any, .any, .any, .any, .any, .any, .any], z_hTo s rest n d Rc)
theorem z_x0 (s : Nat → Int) (n : Int) (d Rc : List AV) (o m q k : Nat) : (evVg Try.prog SB0 sy1 cvB 2 F36 60 (.inl p36_l0) (z_CT (.sl (some (1, o)) m (.rel q)) (.sl none 0 (.fix 0)) s n d) [Hint.is false]).map (fun r => (r.1.1, r.1.2.2, r.2.2)) = some (.exit 0, z_hT s (.sl none 0 (.fix 0)) n d, [List.all d (isInt IntKind.u8), List.all d (isInt IntKind.u8), decide ((↑m : Int) > 0) == false]) := by kernel_rfl
theorem z_xe (s : Nat → Int) (n : Int) (d Rc : List AV) (o m q k : Nat) : (evVg Try.prog SB0 sy1 cvB 2 F36 60 (.inl p36_l0) (z_CT (.slE 1 o q m 1) (.sl none 0 (.fix 0)) s n d) [Hint.lit]).map (fun r => (r.1.1, r.1.2.2, r.2.2)) = some (.exit 0, z_hT s (.sl none 0 (.fix 0)) n d, [List.all d (isInt IntKind.u8), List.all d (isInt IntKind.u8)]) := by kernel_rfl
theorem z_x1t (s : Nat → Int) (n : Int) (d Rc : List AV) (o m q k : Nat) : (evVg Try.prog SB0 sy1 cvB 2 F36 60 (.inl p36_l0) (z_CT (.sl (some (1, o)) m (.rel q)) (.sl none 0 (.fix 0)) s n d) [Hint.is true, Hint.lit, Hint.is true, Hint.is true]).map (fun r => (r.1.1, (tidyV sy1 2 (F36 0) r.1.2).1, (tidyV sy1 2 (F36 0) r.1.2).2, r.2.2)) = some (.normal, z_CT (.sl (some (1, o + 64 * 1)) (m - 64) (.rel (q + 64))) (.sl none 0 (.fix 0)) (BL s (List.take 64 (List.drop o d))) n d, [d.all (isInt .u8), d.all (isInt .u8)], [List.all d (isInt IntKind.u8), List.all d (isInt IntKind.u8), decide ((↑m : Int) > 0) == true, decide ((↑m : Int) ≥ 64) == true, true, decide (64 ≤ (↑m : Int)), true, true, decide (o + 64 ≤ List.length d), true, isInts IntKind.u8 64 (List.take 64 (List.drop o d)), true, true, true, decide (64 ≤ (↑m : Int)), decide (64 < m)]) := by kernel_rfl
theorem z_x1f (s : Nat → Int) (n : Int) (d Rc : List AV) (o m q k : Nat) : (evVg Try.prog SB0 sy1 cvB 2 F36 60 (.inl p36_l0) (z_CT (.sl (some (1, o)) m (.rel q)) (.sl none 0 (.fix 0)) s n d) [Hint.is true, Hint.lit, Hint.is true, Hint.is false]).map (fun r => (r.1.1, (tidyV sy1 2 (F36 0) r.1.2).1, (tidyV sy1 2 (F36 0) r.1.2).2, r.2.2)) = some (.normal, z_CT (.slE 1 o q 64 1) (.sl none 0 (.fix 0)) (BL s (List.take 64 (List.drop o d))) n d, [d.all (isInt .u8), d.all (isInt .u8)], [List.all d (isInt IntKind.u8), List.all d (isInt IntKind.u8), decide ((↑m : Int) > 0) == true, decide ((↑m : Int) ≥ 64) == true, true, decide (64 ≤ (↑m : Int)), true, true, decide (o + 64 ≤ List.length d), true, isInts IntKind.u8 64 (List.take 64 (List.drop o d)), true, true, true, decide (64 ≤ (↑m : Int)), decide (64 = m), true]) := by kernel_rfl
theorem z_x2 (s : Nat → Int) (n : Int) (d Rc : List AV) (o m q k : Nat) : (evVg Try.prog SB0 sy12 cvB 2 F36 60 (.inl p36_l0) (z_CT (.sl (some (1, o)) m (.rel q)) (.sl none 0 (.fix 0)) s n d) [Hint.is true, Hint.lit, Hint.is false, Hint.is false, Hint.is true]).map (fun r => (r.1.1, r.1.2.2, r.2.2)) = some (.ret, z_hT s (.sl (some (2, 0)) (Int.toNat (IntKind.wrap .i64 (0 + ((min m 64 : Nat) : Int)))) (.fix 64)) n d ++ [.row 26 64 (R64 (List.take (min m 64 * 1) (List.take (m * 1) (List.drop o d))))], [List.all d (isInt IntKind.u8), List.all d (isInt IntKind.u8), decide ((↑m : Int) > 0) == true, decide ((↑m : Int) ≥ 64) == false, true, true, true, true, true, decide (o + m * 1 ≤ List.length d), List.all (List.take (m * 1) (List.drop o d)) AV.one, decide (0 + min m 64 * 1 ≤ List.length (z3 .u8 64)), true, decide ((↑(min m 64) : Int) ≤ (↑m : Int)), decide (min m 64 = m), !decide (min m 64 = 0), decide (IntKind.wrap IntKind.i64 (0 + (↑(min m 64) : Int)) < 64) == true, decide (0 ≤ IntKind.wrap IntKind.i64 (0 + (↑(min m 64) : Int))), decide (IntKind.wrap IntKind.i64 (0 + (↑(min m 64) : Int)) ≤ (↑64 : Int)), true, true, true]) := by kernel_rfl
theorem z_x0o (s : Nat → Int) (n : Int) (d Rc : List AV) (o m q k : Nat) : (evVg Try.prog SB0 sy123 cvB 3 F36 60 (.inl p36_l0) (z_CTo (.sl (some (1, o)) m (.rel q)) (.sl none 0 (.fix 0)) s n d Rc) [Hint.is false]).map (fun r => (r.1.1, r.1.2.2, r.2.2)) = some (.exit 0, z_hTo s (.sl none 0 (.fix 0)) n d Rc, [List.all d (isInt IntKind.u8), List.all Rc (isInt IntKind.u8), List.all d (isInt IntKind.u8), List.all Rc (isInt IntKind.u8), decide ((↑m : Int) > 0) == false]) := by kernel_rfl
theorem z_xeo (s : Nat → Int) (n : Int) (d Rc : List AV) (o m q k : Nat) : (evVg Try.prog SB0 sy123 cvB 3 F36 60 (.inl p36_l0) (z_CTo (.slE 1 o q m 1) (.sl none 0 (.fix 0)) s n d Rc) [Hint.lit]).map (fun r => (r.1.1, r.1.2.2, r.2.2)) = some (.exit 0, z_hTo s (.sl none 0 (.fix 0)) n d Rc, [List.all d (isInt IntKind.u8), List.all Rc (isInt IntKind.u8), List.all d (isInt IntKind.u8), List.all Rc (isInt IntKind.u8)]) := by kernel_rfl
theorem z_x1to (s : Nat → Int) (n : Int) (d Rc : List AV) (o m q k : Nat) : (evVg Try.prog SB0 sy123 cvB 3 F36 60 (.inl p36_l0) (z_CTo (.sl (some (1, o)) m (.rel q)) (.sl none 0 (.fix 0)) s n d Rc) [Hint.is true, Hint.lit, Hint.is true, Hint.is true]).map (fun r => (r.1.1, (tidyV sy123 3 (F36 0) r.1.2).1, (tidyV sy123 3 (F36 0) r.1.2).2, r.2.2)) = some (.normal, z_CTo (.sl (some (1, o + 64 * 1)) (m - 64) (.rel (q + 64))) (.sl none 0 (.fix 0)) (BL s (List.take 64 (List.drop o d))) n d Rc, [d.all (isInt .u8), Rc.all (isInt .u8), d.all (isInt .u8), Rc.all (isInt .u8)], [List.all d (isInt IntKind.u8), List.all Rc (isInt IntKind.u8), List.all d (isInt IntKind.u8), List.all Rc (isInt IntKind.u8), decide ((↑m : Int) > 0) == true, decide ((↑m : Int) ≥ 64) == true, true, decide (64 ≤ (↑m : Int)), true, true, decide (o + 64 ≤ List.length d), true, isInts IntKind.u8 64 (List.take 64 (List.drop o d)), true, true, true, decide (64 ≤ (↑m : Int)), decide (64 < m)]) := by kernel_rfl
theorem z_x1fo (s : Nat → Int) (n : Int) (d Rc : List AV) (o m q k : Nat) : (evVg Try.prog SB0 sy123 cvB 3 F36 60 (.inl p36_l0) (z_CTo (.sl (some (1, o)) m (.rel q)) (.sl none 0 (.fix 0)) s n d Rc) [Hint.is true, Hint.lit, Hint.is true, Hint.is false]).map (fun r => (r.1.1, (tidyV sy123 3 (F36 0) r.1.2).1, (tidyV sy123 3 (F36 0) r.1.2).2, r.2.2)) = some (.normal, z_CTo (.slE 1 o q 64 1) (.sl none 0 (.fix 0)) (BL s (List.take 64 (List.drop o d))) n d Rc, [d.all (isInt .u8), Rc.all (isInt .u8), d.all (isInt .u8), Rc.all (isInt .u8)], [List.all d (isInt IntKind.u8), List.all Rc (isInt IntKind.u8), List.all d (isInt IntKind.u8), List.all Rc (isInt IntKind.u8), decide ((↑m : Int) > 0) == true, decide ((↑m : Int) ≥ 64) == true, true, decide (64 ≤ (↑m : Int)), true, true, decide (o + 64 ≤ List.length d), true, isInts IntKind.u8 64 (List.take 64 (List.drop o d)), true, true, true, decide (64 ≤ (↑m : Int)), decide (64 = m), true]) := by kernel_rfl
theorem z_x2o (s : Nat → Int) (n : Int) (d Rc : List AV) (o m q k : Nat) : (evVg Try.prog SB0 sy123 cvB 3 F36 60 (.inl p36_l0) (z_CTo (.sl (some (1, o)) m (.rel q)) (.sl none 0 (.fix 0)) s n d Rc) [Hint.is true, Hint.lit, Hint.is false, Hint.is false, Hint.is true]).map (fun r => (r.1.1, r.1.2.2, r.2.2)) = some (.ret, z_hTo s (.sl (some (3, 0)) (Int.toNat (IntKind.wrap .i64 (0 + ((min m 64 : Nat) : Int)))) (.fix 64)) n d Rc ++ [.row 26 64 (R64 (List.take (min m 64 * 1) (List.take (m * 1) (List.drop o d))))], [List.all d (isInt IntKind.u8), List.all Rc (isInt IntKind.u8), List.all d (isInt IntKind.u8), List.all Rc (isInt IntKind.u8), decide ((↑m : Int) > 0) == true, decide ((↑m : Int) ≥ 64) == false, true, true, true, true, true, decide (o + m * 1 ≤ List.length d), List.all (List.take (m * 1) (List.drop o d)) AV.one, decide (0 + min m 64 * 1 ≤ List.length (z3 .u8 64)), true, decide ((↑(min m 64) : Int) ≤ (↑m : Int)), decide (min m 64 = m), !decide (min m 64 = 0), decide (IntKind.wrap IntKind.i64 (0 + (↑(min m 64) : Int)) < 64) == true, decide (0 ≤ IntKind.wrap IntKind.i64 (0 + (↑(min m 64) : Int))), decide (IntKind.wrap IntKind.i64 (0 + (↑(min m 64) : Int)) ≤ (↑64 : Int)), true, true, true]) := by kernel_rfl
theorem z_x3to (s : Nat → Int) (n : Int) (d Rc : List AV) (o m q k : Nat) : (evVg Try.prog SB0 sy123 cvB 3 F36 60 (.inl p36_l0) (z_CTo (.sl (some (1, o)) m (.rel q)) (.sl (some (2, 0)) k (.fix 64)) s n d Rc) [Hint.is true, Hint.is false, Hint.is true, Hint.is false]).map (fun r => (r.1.1, (tidyV sy123 3 (F36 0) r.1.2).1, (tidyV sy123 3 (F36 0) r.1.2).2, r.2.2)) = some (.normal, z_CTo (.sl (some (1, o + (min m (64 - min k 64)) * 1)) (m - (min m (64 - min k 64))) (.rel (q + (min m (64 - min k 64))))) (.sl none 0 (.fix 0)) (BL s (List.take 64 (List.drop 0 (spliceA (spliceA (z3 .u8 64) 0 (List.take (min k 64 * 1) (List.take (k * 1) (List.drop 0 Rc)))) (if min k 64 = 64 then 0 else 0 + min k 64 * 1) (List.take (min m (64 - min k 64) * 1) (List.take (m * 1) (List.drop o d))))))) n d Rc, [d.all (isInt .u8), Rc.all (isInt .u8), (spliceA (spliceA (z3 .u8 64) 0 (List.take (min k 64 * 1) (List.take (k * 1) (List.drop 0 Rc)))) (if min k 64 = 64 then 0 else 0 + min k 64 * 1) (List.take (min m (64 - min k 64) * 1) (List.take (m * 1) (List.drop o d)))).all (isInt .u8), d.all (isInt .u8), Rc.all (isInt .u8)], [List.all d (isInt IntKind.u8), List.all Rc (isInt IntKind.u8), List.all d (isInt IntKind.u8), List.all Rc (isInt IntKind.u8), decide ((↑m : Int) > 0) == true, ((↑k : Int) == 0) == false, true, decide (0 + k * 1 ≤ List.length Rc), List.all (List.take (k * 1) (List.drop 0 Rc)) AV.one, decide (0 + min k 64 * 1 ≤ List.length (z3 .u8 64)), true, decide ((↑(min k 64) : Int) ≤ (↑64 : Int)), decide (o + m * 1 ≤ List.length d), List.all (List.take (m * 1) (List.drop o d)) AV.one, decide ((if min k 64 = 64 then 0 else 0 + min k 64 * 1) + min m (64 - min k 64) * 1 ≤ List.length (spliceA (z3 .u8 64) 0 (List.take (min k 64 * 1) (List.take (k * 1) (List.drop 0 Rc))))), true, decide ((↑(min m (64 - min k 64)) : Int) ≤ (↑m : Int)), decide (min m (64 - min k 64) < m), decide (IntKind.wrap IntKind.i64 ((↑(min k 64) : Int) + (↑(min m (64 - min k 64)) : Int)) < 64) == false, decide (0 + 64 ≤ List.length (spliceA (spliceA (z3 .u8 64) 0 (List.take (min k 64 * 1) (List.take (k * 1) (List.drop 0 Rc)))) (if min k 64 = 64 then 0 else 0 + min k 64 * 1) (List.take (min m (64 - min k 64) * 1) (List.take (m * 1) (List.drop o d))))), true, isInts IntKind.u8 64 (List.take 64 (List.drop 0 (spliceA (spliceA (z3 .u8 64) 0 (List.take (min k 64 * 1) (List.take (k * 1) (List.drop 0 Rc)))) (if min k 64 = 64 then 0 else 0 + min k 64 * 1) (List.take (min m (64 - min k 64) * 1) (List.take (m * 1) (List.drop o d)))))), true, true, true, true]) := by kernel_rfl
theorem z_x3fo (s : Nat → Int) (n : Int) (d Rc : List AV) (o m q k : Nat) : (evVg Try.prog SB0 sy123 cvB 3 F36 60 (.inl p36_l0) (z_CTo (.sl (some (1, o)) m (.rel q)) (.sl (some (2, 0)) k (.fix 64)) s n d Rc) [Hint.is true, Hint.is false, Hint.is false, Hint.is false]).map (fun r => (r.1.1, (tidyV sy123 3 (F36 0) r.1.2).1, (tidyV sy123 3 (F36 0) r.1.2).2, r.2.2)) = some (.normal, z_CTo (.slE 1 o q (min m (64 - min k 64)) 1) (.sl none 0 (.fix 0)) (BL s (List.take 64 (List.drop 0 (spliceA (spliceA (z3 .u8 64) 0 (List.take (min k 64 * 1) (List.take (k * 1) (List.drop 0 Rc)))) (if min k 64 = 64 then 0 else 0 + min k 64 * 1) (List.take (min m (64 - min k 64) * 1) (List.take (m * 1) (List.drop o d))))))) n d Rc, [d.all (isInt .u8), Rc.all (isInt .u8), (spliceA (spliceA (z3 .u8 64) 0 (List.take (min k 64 * 1) (List.take (k * 1) (List.drop 0 Rc)))) (if min k 64 = 64 then 0 else 0 + min k 64 * 1) (List.take (min m (64 - min k 64) * 1) (List.take (m * 1) (List.drop o d)))).all (isInt .u8), d.all (isInt .u8), Rc.all (isInt .u8)], [List.all d (isInt IntKind.u8), List.all Rc (isInt IntKind.u8), List.all d (isInt IntKind.u8), List.all Rc (isInt IntKind.u8), decide ((↑m : Int) > 0) == true, ((↑k : Int) == 0) == false, true, decide (0 + k * 1 ≤ List.length Rc), List.all (List.take (k * 1) (List.drop 0 Rc)) AV.one, decide (0 + min k 64 * 1 ≤ List.length (z3 .u8 64)), true, decide ((↑(min k 64) : Int) ≤ (↑64 : Int)), decide (o + m * 1 ≤ List.length d), List.all (List.take (m * 1) (List.drop o d)) AV.one, decide ((if min k 64 = 64 then 0 else 0 + min k 64 * 1) + min m (64 - min k 64) * 1 ≤ List.length (spliceA (z3 .u8 64) 0 (List.take (min k 64 * 1) (List.take (k * 1) (List.drop 0 Rc))))), true, decide ((↑(min m (64 - min k 64)) : Int) ≤ (↑m : Int)), decide (min m (64 - min k 64) = m), !decide (min m (64 - min k 64) = 0), decide (IntKind.wrap IntKind.i64 ((↑(min k 64) : Int) + (↑(min m (64 - min k 64)) : Int)) < 64) == false, decide (0 + 64 ≤ List.length (spliceA (spliceA (z3 .u8 64) 0 (List.take (min k 64 * 1) (List.take (k * 1) (List.drop 0 Rc)))) (if min k 64 = 64 then 0 else 0 + min k 64 * 1) (List.take (min m (64 - min k 64) * 1) (List.take (m * 1) (List.drop o d))))), true, isInts IntKind.u8 64 (List.take 64 (List.drop 0 (spliceA (spliceA (z3 .u8 64) 0 (List.take (min k 64 * 1) (List.take (k * 1) (List.drop 0 Rc)))) (if min k 64 = 64 then 0 else 0 + min k 64 * 1) (List.take (min m (64 - min k 64) * 1) (List.take (m * 1) (List.drop o d)))))), true, true, true, true]) := by kernel_rfl
theorem z_x4o (s : Nat → Int) (n : Int) (d Rc : List AV) (o m q k : Nat) : (evVg Try.prog SB0 sy123 cvB 3 F36 60 (.inl p36_l0) (z_CTo (.sl (some (1, o)) m (.rel q)) (.sl (some (2, 0)) k (.fix 64)) s n d Rc) [Hint.is true, Hint.is false, Hint.is false, Hint.is true]).map (fun r => (r.1.1, r.1.2.2, r.2.2)) = some (.ret, z_hTo s (.sl (some (3, 0)) (Int.toNat (IntKind.wrap .i64 (((min k 64 : Nat) : Int) + (((min m (64 - min k 64)) : Nat) : Int)))) (.fix 64)) n d Rc ++ [.row 26 64 (spliceA (spliceA (z3 .u8 64) 0 (List.take (min k 64 * 1) (List.take (k * 1) (List.drop 0 Rc)))) (if min k 64 = 64 then 0 else 0 + min k 64 * 1) (List.take (min m (64 - min k 64) * 1) (List.take (m * 1) (List.drop o d))))], [List.all d (isInt IntKind.u8), List.all Rc (isInt IntKind.u8), List.all d (isInt IntKind.u8), List.all Rc (isInt IntKind.u8), decide ((↑m : Int) > 0) == true, ((↑k : Int) == 0) == false, true, decide (0 + k * 1 ≤ List.length Rc), List.all (List.take (k * 1) (List.drop 0 Rc)) AV.one, decide (0 + min k 64 * 1 ≤ List.length (z3 .u8 64)), true, decide ((↑(min k 64) : Int) ≤ (↑64 : Int)), decide (o + m * 1 ≤ List.length d), List.all (List.take (m * 1) (List.drop o d)) AV.one, decide ((if min k 64 = 64 then 0 else 0 + min k 64 * 1) + min m (64 - min k 64) * 1 ≤ List.length (spliceA (z3 .u8 64) 0 (List.take (min k 64 * 1) (List.take (k * 1) (List.drop 0 Rc))))), true, decide ((↑(min m (64 - min k 64)) : Int) ≤ (↑m : Int)), decide (min m (64 - min k 64) = m), !decide (min m (64 - min k 64) = 0), decide (IntKind.wrap IntKind.i64 ((↑(min k 64) : Int) + (↑(min m (64 - min k 64)) : Int)) < 64) == true, decide (0 ≤ IntKind.wrap IntKind.i64 ((↑(min k 64) : Int) + (↑(min m (64 - min k 64)) : Int))), decide (IntKind.wrap IntKind.i64 ((↑(min k 64) : Int) + (↑(min m (64 - min k 64)) : Int)) ≤ (↑64 : Int)), true, true, true]) := by kernel_rfl
theorem z_tie (s : Nat → Int) (n : Int) (d Rc : List AV) (o q m : Nat) : ((tidyV sy1 2 (F36 0) (z_CT (.slE 1 o q m 1) (.sl none 0 (.fix 0)) s n d)).1, (tidyV sy1 2 (F36 0) (z_CT (.slE 1 o q m 1) (.sl none 0 (.fix 0)) s n d)).2) = (z_CT (.slE 1 o q m 1) (.sl none 0 (.fix 0)) s n d, [d.all (isInt .u8), d.all (isInt .u8)]) := by kernel_rfl
theorem z_tis (s : Nat → Int) (n : Int) (d Rc : List AV) (o q m : Nat) : ((tidyV sy1 2 (F36 0) (z_CT (.sl (some (1, o)) m (.rel q)) (.sl none 0 (.fix 0)) s n d)).1, (tidyV sy1 2 (F36 0) (z_CT (.sl (some (1, o)) m (.rel q)) (.sl none 0 (.fix 0)) s n d)).2) = (z_CT (.sl (some (1, o)) m (.rel q)) (.sl none 0 (.fix 0)) s n d, [d.all (isInt .u8), d.all (isInt .u8)]) := by kernel_rfl
theorem z_tioe (s : Nat → Int) (n : Int) (d Rc : List AV) (o q m : Nat) : ((tidyV sy123 3 (F36 0) (z_CTo (.slE 1 o q m 1) (.sl none 0 (.fix 0)) s n d Rc)).1, (tidyV sy123 3 (F36 0) (z_CTo (.slE 1 o q m 1) (.sl none 0 (.fix 0)) s n d Rc)).2) = (z_CTo (.slE 1 o q m 1) (.sl none 0 (.fix 0)) s n d Rc, [d.all (isInt .u8), Rc.all (isInt .u8), d.all (isInt .u8), Rc.all (isInt .u8)]) := by kernel_rfl
theorem z_tios (s : Nat → Int) (n : Int) (d Rc : List AV) (o q m : Nat) : ((tidyV sy123 3 (F36 0) (z_CTo (.sl (some (1, o)) m (.rel q)) (.sl none 0 (.fix 0)) s n d Rc)).1, (tidyV sy123 3 (F36 0) (z_CTo (.sl (some (1, o)) m (.rel q)) (.sl none 0 (.fix 0)) s n d Rc)).2) = (z_CTo (.sl (some (1, o)) m (.rel q)) (.sl none 0 (.fix 0)) s n d Rc, [d.all (isInt .u8), Rc.all (isInt .u8), d.all (isInt .u8), Rc.all (isInt .u8)]) := by kernel_rfl
theorem z_takeN (n : Int) (d Rc : List AV) (hd : d.all (isInt .u8) = true) : ∀ (f m o q : Nat) (s : Nat → Int), m ≤ f → o + m ≤ d.length →
    ∃ N e st', evG Try.prog SB0 2 F36 N (.inl (.loop p36_l0)) (z_CT (.sl (some (1, o)) m (.rel q)) (.sl none 0 (.fix 0)) s n d) = some (e, st') ∧ (e = .exit 0 ∨ e = .ret) ∧
      st'.2 = z_hT (absorb s ((d.drop o).take m)).1 (restV 2 (absorb s ((d.drop o).take m)).2) n d ++ restH (absorb s ((d.drop o).take m)).2 := by
  intro f
  induction f with
  | zero =>
    intro m o q s h1 h2
    obtain rfl : m = 0 := by omega
    have h := z_x0 s n d Rc o 0 q 0
    simp only [Option.map_eq_some_iff] at h
    obtain ⟨⟨⟨e, st'⟩, hs', cl⟩, a1, a2⟩ := h
    simp only [Prod.mk.injEq] at a2
    obtain ⟨rfl, a3, rfl⟩ := a2
    refine ⟨_, _, st', loop_stopg (evVg_ok _ _ _ _ cvB_ok _ _ a1 (by simp [hd])) (fun h => by cases h), .inl rfl, ?_⟩
    rw [a3, List.take_zero, absorb_end (by simp)]
    simp [restV, restH]
  | succ f ih =>
    intro m o q s h1 h2
    have hl : ((d.drop o).take m).length = m := by simp; omega
    rcases Nat.eq_zero_or_pos m with rfl | hpos
    · exact ih 0 o q s (by omega) h2
    · rcases Nat.lt_or_ge m 64 with g | g
      · have h := z_x2 s n d Rc o m q 0
        simp only [Option.map_eq_some_iff] at h
        obtain ⟨⟨⟨e, st'⟩, hs', cl⟩, a1, a2⟩ := h
        simp only [Prod.mk.injEq] at a2
        obtain ⟨rfl, a3, rfl⟩ := a2
        have ew : IntKind.wrap .i64 (0 + ((min m 64 : Nat) : Int)) = (m : Int) := by rw [IntKind.wrap_i64]; omega
        have hone : List.all (List.take (m * 1) (List.drop o d)) AV.one = true := ints_one (k := .u8) (all_sub hd fun v hv => List.mem_of_mem_drop (List.mem_of_mem_take hv))
        refine ⟨_, _, st', loop_stopg (evVg_ok _ _ _ _ cvB_ok _ _ a1 ?_) (fun h => by cases h), .inr rfl, ?_⟩
        · rw [ew]
          simp only [hd, hone, z3, ints_length, List.all_cons, List.all_nil, id, Bool.and_true, Bool.and_eq_true, decide_eq_true_eq, beq_iff_eq, decide_eq_false_iff_not, Bool.not_eq_true']
          simp
          omega
        · rw [a3, ew, absorb_end (by rw [hl]; exact g)]
          have e1 : List.take (min m 64 * 1) (List.take (m * 1) (List.drop o d)) = (d.drop o).take m := by
            rw [Nat.mul_one, Nat.mul_one, Nat.min_eq_left (by omega), List.take_take, Nat.min_self]
          rw [e1]
          have hne : (d.drop o).take m ≠ [] := fun h => by rw [h] at hl; simp at hl; omega
          obtain ⟨a, l, hal⟩ : ∃ a l, (d.drop o).take m = a :: l := by
            cases hx : (d.drop o).take m with
            | nil => exact absurd hx hne
            | cons a l => exact ⟨a, l, rfl⟩
          rw [hal] at hl
          rw [hal]
          simp only [restV, restH, hl, Int.toNat_natCast]
      · have hint : isInts IntKind.u8 64 (List.take 64 (List.drop o d)) = true := by
          simp only [isInts, Bool.and_eq_true, beq_iff_eq]
          exact ⟨by simp; omega, all_sub hd fun v hv => List.mem_of_mem_drop (List.mem_of_mem_take hv)⟩
        have et : ((d.drop o).take m).take 64 = (d.drop o).take 64 := by rw [List.take_take, Nat.min_eq_left g]
        rcases Nat.lt_or_ge 64 m with g2 | g2
        · have h := z_x1t s n d Rc o m q 0
          simp only [Option.map_eq_some_iff] at h
          obtain ⟨⟨⟨e, st'⟩, hs', cl⟩, a1, a2⟩ := h
          simp only [Prod.mk.injEq] at a2
          obtain ⟨rfl, a3, a4, rfl⟩ := a2
          have hev := evVg_ok _ _ _ _ cvB_ok _ _ a1 (by
            simp only [hd, hint, List.all_cons, List.all_nil, id, Bool.and_true, Bool.and_eq_true, decide_eq_true_eq, beq_iff_eq]
            simp
            omega)
          have ht := tidyV_ok (sy := sy1) (b := 2) (t := F36 0) (st := st') (by rw [a4]; simp [hd])
          rw [a3] at ht
          have hc := z_tis (BL s ((d.drop o).take 64)) n d Rc (o + 64 * 1) (q + 64) (m - 64)
          simp only [Prod.mk.injEq] at hc
          have ht2 := tidyV_ok (sy := sy1) (b := 2) (t := F36 0) (st := z_CT (.sl (some (1, o + 64 * 1)) (m - 64) (.rel (q + 64))) (.sl none 0 (.fix 0)) (BL s ((d.drop o).take 64)) n d) (by rw [hc.2]; simp [hd])
          rw [hc.1] at ht2
          obtain ⟨N, e2, st2, b1, b2, b3⟩ := ih (m - 64) (o + 64 * 1) (q + 64) (BL s ((d.drop o).take 64)) (by omega) (by omega)
          refine ⟨max 60 N + 1, e2, st2, loop_nextg (id := 0) rfl (evG_le hev (by omega)) (ht.trans ht2.symm) (evG_le b1 (by omega)), b2, ?_⟩
          have el : ((d.drop o).take m).drop 64 = (d.drop (o + 64 * 1)).take (m - 64) := by rw [List.drop_take, List.drop_drop]
          rw [absorb_more (s := s) (l := (d.drop o).take m) (by omega), el, et]
          exact b3
        · obtain rfl : m = 64 := by omega
          have h := z_x1f s n d Rc o 64 q 0
          simp only [Option.map_eq_some_iff] at h
          obtain ⟨⟨⟨e, st'⟩, hs', cl⟩, a1, a2⟩ := h
          simp only [Prod.mk.injEq] at a2
          obtain ⟨rfl, a3, a4, rfl⟩ := a2
          have hev := evVg_ok _ _ _ _ cvB_ok _ _ a1 (by
            simp only [hd, hint, List.all_cons, List.all_nil, id, Bool.and_true, Bool.and_eq_true, decide_eq_true_eq, beq_iff_eq]
            simp
            omega)
          have ht := tidyV_ok (sy := sy1) (b := 2) (t := F36 0) (st := st') (by rw [a4]; simp [hd])
          rw [a3] at ht
          have hc := z_tie (BL s ((d.drop o).take 64)) n d Rc o q 64
          simp only [Prod.mk.injEq] at hc
          have ht2 := tidyV_ok (sy := sy1) (b := 2) (t := F36 0) (st := z_CT (.slE 1 o q 64 1) (.sl none 0 (.fix 0)) (BL s ((d.drop o).take 64)) n d) (by rw [hc.2]; simp [hd])
          rw [hc.1] at ht2
          have h0 := z_xe (BL s ((d.drop o).take 64)) n d Rc o 64 q 0
          simp only [Option.map_eq_some_iff] at h0
          obtain ⟨⟨⟨e, st2⟩, hs2, cl2⟩, b1, b2⟩ := h0
          simp only [Prod.mk.injEq] at b2
          obtain ⟨rfl, b3, rfl⟩ := b2
          have hev2 := evVg_ok _ _ _ _ cvB_ok _ _ b1 (by simp [hd])
          refine ⟨62, _, st2, loop_nextg (n := 61) (id := 0) rfl (evG_le hev (by omega)) (ht.trans ht2.symm) (loop_stopg (n := 60) hev2 (fun h => by cases h)), .inl rfl, ?_⟩
          have en : ((d.drop o).take 64).drop 64 = [] := List.drop_eq_nil_of_le (by simp; omega)
          rw [b3, absorb_more (s := s) (l := (d.drop o).take 64) (by omega), et, en, absorb_end (by simp)]
          simp [restV, restH]
theorem z_takeNo (n : Int) (d Rc : List AV) (hd : d.all (isInt .u8) = true) (hR : Rc.all (isInt .u8) = true) : ∀ (f m o q : Nat) (s : Nat → Int), m ≤ f → o + m ≤ d.length →
    ∃ N e st', evG Try.prog SB0 3 F36 N (.inl (.loop p36_l0)) (z_CTo (.sl (some (1, o)) m (.rel q)) (.sl none 0 (.fix 0)) s n d Rc) = some (e, st') ∧ (e = .exit 0 ∨ e = .ret) ∧
      st'.2 = z_hTo (absorb s ((d.drop o).take m)).1 (restV 3 (absorb s ((d.drop o).take m)).2) n d Rc ++ restH (absorb s ((d.drop o).take m)).2 := by
  intro f
  induction f with
  | zero =>
    intro m o q s h1 h2
    obtain rfl : m = 0 := by omega
    have h := z_x0o s n d Rc o 0 q 0
    simp only [Option.map_eq_some_iff] at h
    obtain ⟨⟨⟨e, st'⟩, hs', cl⟩, a1, a2⟩ := h
    simp only [Prod.mk.injEq] at a2
    obtain ⟨rfl, a3, rfl⟩ := a2
    refine ⟨_, _, st', loop_stopg (evVg_ok _ _ _ _ cvB_ok _ _ a1 (by simp [hd, hR])) (fun h => by cases h), .inl rfl, ?_⟩
    rw [a3, List.take_zero, absorb_end (by simp)]
    simp [restV, restH]
  | succ f ih =>
    intro m o q s h1 h2
    have hl : ((d.drop o).take m).length = m := by simp; omega
    rcases Nat.eq_zero_or_pos m with rfl | hpos
    · exact ih 0 o q s (by omega) h2
    · rcases Nat.lt_or_ge m 64 with g | g
      · have h := z_x2o s n d Rc o m q 0
        simp only [Option.map_eq_some_iff] at h
        obtain ⟨⟨⟨e, st'⟩, hs', cl⟩, a1, a2⟩ := h
        simp only [Prod.mk.injEq] at a2
        obtain ⟨rfl, a3, rfl⟩ := a2
        have ew : IntKind.wrap .i64 (0 + ((min m 64 : Nat) : Int)) = (m : Int) := by rw [IntKind.wrap_i64]; omega
        have hone : List.all (List.take (m * 1) (List.drop o d)) AV.one = true := ints_one (k := .u8) (all_sub hd fun v hv => List.mem_of_mem_drop (List.mem_of_mem_take hv))
        refine ⟨_, _, st', loop_stopg (evVg_ok _ _ _ _ cvB_ok _ _ a1 ?_) (fun h => by cases h), .inr rfl, ?_⟩
        · rw [ew]
          simp only [hd, hR, hone, z3, ints_length, List.all_cons, List.all_nil, id, Bool.and_true, Bool.and_eq_true, decide_eq_true_eq, beq_iff_eq, decide_eq_false_iff_not, Bool.not_eq_true']
          simp
          omega
        · rw [a3, ew, absorb_end (by rw [hl]; exact g)]
          have e1 : List.take (min m 64 * 1) (List.take (m * 1) (List.drop o d)) = (d.drop o).take m := by
            rw [Nat.mul_one, Nat.mul_one, Nat.min_eq_left (by omega), List.take_take, Nat.min_self]
          rw [e1]
          have hne : (d.drop o).take m ≠ [] := fun h => by rw [h] at hl; simp at hl; omega
          obtain ⟨a, l, hal⟩ : ∃ a l, (d.drop o).take m = a :: l := by
            cases hx : (d.drop o).take m with
            | nil => exact absurd hx hne
            | cons a l => exact ⟨a, l, rfl⟩
          rw [hal] at hl
          rw [hal]
          simp only [restV, restH, hl, Int.toNat_natCast]
      · have hint : isInts IntKind.u8 64 (List.take 64 (List.drop o d)) = true := by
          simp only [isInts, Bool.and_eq_true, beq_iff_eq]
          exact ⟨by simp; omega, all_sub hd fun v hv => List.mem_of_mem_drop (List.mem_of_mem_take hv)⟩
        have et : ((d.drop o).take m).take 64 = (d.drop o).take 64 := by rw [List.take_take, Nat.min_eq_left g]
        rcases Nat.lt_or_ge 64 m with g2 | g2
        · have h := z_x1to s n d Rc o m q 0
          simp only [Option.map_eq_some_iff] at h
          obtain ⟨⟨⟨e, st'⟩, hs', cl⟩, a1, a2⟩ := h
          simp only [Prod.mk.injEq] at a2
          obtain ⟨rfl, a3, a4, rfl⟩ := a2
          have hev := evVg_ok _ _ _ _ cvB_ok _ _ a1 (by
            simp only [hd, hR, hint, List.all_cons, List.all_nil, id, Bool.and_true, Bool.and_eq_true, decide_eq_true_eq, beq_iff_eq]
            simp
            omega)
          have ht := tidyV_ok (sy := sy123) (b := 3) (t := F36 0) (st := st') (by rw [a4]; simp [hd, hR])
          rw [a3] at ht
          have hc := z_tios (BL s ((d.drop o).take 64)) n d Rc (o + 64 * 1) (q + 64) (m - 64)
          simp only [Prod.mk.injEq] at hc
          have ht2 := tidyV_ok (sy := sy123) (b := 3) (t := F36 0) (st := z_CTo (.sl (some (1, o + 64 * 1)) (m - 64) (.rel (q + 64))) (.sl none 0 (.fix 0)) (BL s ((d.drop o).take 64)) n d Rc) (by rw [hc.2]; simp [hd, hR])
          rw [hc.1] at ht2
          obtain ⟨N, e2, st2, b1, b2, b3⟩ := ih (m - 64) (o + 64 * 1) (q + 64) (BL s ((d.drop o).take 64)) (by omega) (by omega)
          refine ⟨max 60 N + 1, e2, st2, loop_nextg (id := 0) rfl (evG_le hev (by omega)) (ht.trans ht2.symm) (evG_le b1 (by omega)), b2, ?_⟩
          have el : ((d.drop o).take m).drop 64 = (d.drop (o + 64 * 1)).take (m - 64) := by rw [List.drop_take, List.drop_drop]
          rw [absorb_more (s := s) (l := (d.drop o).take m) (by omega), el, et]
          exact b3
        · obtain rfl : m = 64 := by omega
          have h := z_x1fo s n d Rc o 64 q 0
          simp only [Option.map_eq_some_iff] at h
          obtain ⟨⟨⟨e, st'⟩, hs', cl⟩, a1, a2⟩ := h
          simp only [Prod.mk.injEq] at a2
          obtain ⟨rfl, a3, a4, rfl⟩ := a2
          have hev := evVg_ok _ _ _ _ cvB_ok _ _ a1 (by
            simp only [hd, hR, hint, List.all_cons, List.all_nil, id, Bool.and_true, Bool.and_eq_true, decide_eq_true_eq, beq_iff_eq]
            simp
            omega)
          have ht := tidyV_ok (sy := sy123) (b := 3) (t := F36 0) (st := st') (by rw [a4]; simp [hd, hR])
          rw [a3] at ht
          have hc := z_tioe (BL s ((d.drop o).take 64)) n d Rc o q 64
          simp only [Prod.mk.injEq] at hc
          have ht2 := tidyV_ok (sy := sy123) (b := 3) (t := F36 0) (st := z_CTo (.slE 1 o q 64 1) (.sl none 0 (.fix 0)) (BL s ((d.drop o).take 64)) n d Rc) (by rw [hc.2]; simp [hd, hR])
          rw [hc.1] at ht2
          have h0 := z_xeo (BL s ((d.drop o).take 64)) n d Rc o 64 q 0
          simp only [Option.map_eq_some_iff] at h0
          obtain ⟨⟨⟨e, st2⟩, hs2, cl2⟩, b1, b2⟩ := h0
          simp only [Prod.mk.injEq] at b2
          obtain ⟨rfl, b3, rfl⟩ := b2
          have hev2 := evVg_ok _ _ _ _ cvB_ok _ _ b1 (by simp [hd, hR])
          refine ⟨62, _, st2, loop_nextg (n := 61) (id := 0) rfl (evG_le hev (by omega)) (ht.trans ht2.symm) (loop_stopg (n := 60) hev2 (fun h => by cases h)), .inl rfl, ?_⟩
          have en : ((d.drop o).take 64).drop 64 = [] := List.drop_eq_nil_of_le (by simp; omega)
          rw [b3, absorb_more (s := s) (l := (d.drop o).take 64) (by omega), et, en, absorb_end (by simp)]
          simp [restV, restH]
theorem z_takeSo (n : Int) (d : List AV) (hd : d.all (isInt .u8) = true) (l : List AV) (hl : l.all (isInt .u8) = true) (h0 : 0 < l.length) (h64 : l.length < 64) (m o q : Nat) (s : Nat → Int) (hm : 0 < m) (ho : o + m ≤ d.length) :
    ∃ N e st', evG Try.prog SB0 3 F36 N (.inl (.loop p36_l0)) (z_CTo (.sl (some (1, o)) m (.rel q)) (.sl (some (2, 0)) l.length (.fix 64)) s n d (R64 l)) = some (e, st') ∧ (e = .exit 0 ∨ e = .ret) ∧
      st'.2 = z_hTo (absorb s (l ++ (d.drop o).take m)).1 (restV 3 (absorb s (l ++ (d.drop o).take m)).2) n d (R64 l) ++ restH (absorb s (l ++ (d.drop o).take m)).2 := by
  obtain ⟨q1, q2⟩ := R64_take h64
  have hR := R64_ints hl
  have mk : min l.length 64 = l.length := by omega
  have hne : ¬ l.length = 64 := by omega
  have hnil : l ≠ [] := fun h => by rw [h] at h0; simp at h0
  have hz : (z3 .u8 64).length = 64 := by simp [z3, ints_length]
  have hint : ((d.drop o).take m).all (isInt .u8) = true := all_sub hd fun v hv => List.mem_of_mem_drop (List.mem_of_mem_take hv)
  have hall : (l ++ (d.drop o).take m).all (isInt .u8) = true := by rw [List.all_append, hl, hint]; rfl
  obtain ⟨hB, hLen⟩ := blk_eq (l := l) (d := d) (o := o) (m := m) h64 ho
  have o1 : List.all (List.take (l.length * 1) (List.drop 0 (R64 l))) AV.one = true := ints_one (k := .u8) (all_sub hR fun v hv => List.mem_of_mem_drop (List.mem_of_mem_take hv))
  have o2 : List.all (List.take (m * 1) (List.drop o d)) AV.one = true := ints_one (k := .u8) (all_sub hd fun v hv => List.mem_of_mem_drop (List.mem_of_mem_take hv))
  have len1 : (spliceA (z3 .u8 64) 0 (List.take (min l.length 64 * 1) (List.take (l.length * 1) (List.drop 0 (R64 l))))).length = 64 := by
    rw [splice_len _ _ _ (by simp; omega), hz]
  have len1' : (spliceA (z3 .u8 64) 0 (List.take l.length (List.take l.length (R64 l)))).length = 64 := by
    rw [splice_len _ _ _ (by simp; omega), hz]
  have hBi : isInts .u8 64 (R64 ((l ++ (d.drop o).take m).take 64)) = true := R64_all (all_sub hall fun v hv => List.mem_of_mem_take hv) (by simp; omega)
  have hBi' := hBi
  simp only [isInts, Bool.and_eq_true, beq_iff_eq] at hBi'
  have hXi : isInts .u8 64 (List.take 64 (List.drop 0 (R64 ((l ++ (d.drop o).take m).take 64)))) = true := by
    rw [List.drop_zero, List.take_of_length_le (by omega)]
    exact hBi
  rcases Nat.lt_or_ge (l.length + m) 64 with g | g
  · have h := z_x4o s n d (R64 l) o m q l.length
    simp only [Option.map_eq_some_iff] at h
    obtain ⟨⟨⟨e, st'⟩, hs', cl⟩, a1, a2⟩ := h
    simp only [Prod.mk.injEq] at a2
    obtain ⟨rfl, a3, rfl⟩ := a2
    rw [hB] at a3
    have mm : min m (64 - l.length) = m := by omega
    have ew : IntKind.wrap .i64 ((l.length : Int) + (m : Int)) = ((l.length + m : Nat) : Int) := by rw [IntKind.wrap_i64]; omega
    refine ⟨_, _, st', loop_stopg (evVg_ok _ _ _ _ cvB_ok _ _ a1 ?_) (fun h => by cases h), .inr rfl, ?_⟩
    · simp only [mk, mm, ew, if_neg hne, hd, hR, o1, o2, len1, hz, q2, List.all_cons, List.all_nil, id, Bool.and_true, Bool.true_and, Bool.and_eq_true, decide_eq_true_eq, beq_iff_eq, Bool.not_eq_true', decide_eq_false_iff_not]
      simp [hnil, len1']
      omega
    · rw [a3, mk, mm, ew, absorb_end (by rw [hLen]; exact g)]
      obtain ⟨a, l', hal⟩ : ∃ a l', l ++ (d.drop o).take m = a :: l' := by
        cases hx : l ++ (d.drop o).take m with
        | nil => simp [hnil] at hx
        | cons a l' => exact ⟨a, l', rfl⟩
      rw [List.take_of_length_le (by omega), ← hLen, hal]
      simp only [restV, restH, Int.toNat_natCast]
  · have e64 : ((l ++ (d.drop o).take m).take 64).length = 64 := by simp; omega
    have eX : List.take 64 (List.drop 0 (R64 ((l ++ (d.drop o).take m).take 64))) = (l ++ (d.drop o).take m).take 64 := by
      rw [R64_full e64, List.drop_zero, List.take_take, Nat.min_self]
    have ew : IntKind.wrap .i64 ((l.length : Int) + ((64 - l.length : Nat) : Int)) = 64 := by rw [IntKind.wrap_i64]; omega
    have mm : min m (64 - l.length) = 64 - l.length := by omega
    rcases Nat.lt_or_ge 64 (l.length + m) with g2 | g2
    · have h := z_x3to s n d (R64 l) o m q l.length
      simp only [Option.map_eq_some_iff] at h
      obtain ⟨⟨⟨e, st'⟩, hs', cl⟩, a1, a2⟩ := h
      simp only [Prod.mk.injEq] at a2
      obtain ⟨rfl, a3, a4, rfl⟩ := a2
      rw [hB] at a1 a3 a4
      have hev := evVg_ok _ _ _ _ cvB_ok _ _ a1 (by
        simp only [mk, mm, if_neg hne, hd, hR, o1, o2, len1, hz, ew, hXi, hBi'.1, q2, List.all_cons, List.all_nil, id, Bool.and_true, Bool.true_and, Bool.and_eq_true, decide_eq_true_eq, beq_iff_eq, Bool.not_eq_true', decide_eq_false_iff_not]
        simp [hnil, len1']
        omega)
      have ht := tidyV_ok (sy := sy123) (b := 3) (t := F36 0) (st := st') (by rw [a4]; simp only [hd, hR, hBi'.2, List.all_cons, List.all_nil, id, Bool.and_self])
      rw [a3, eX] at ht
      simp only [mk, mm, Nat.mul_one] at ht
      have hc := z_tios (BL s ((l ++ (d.drop o).take m).take 64)) n d (R64 l) (o + (64 - l.length)) (q + (64 - l.length)) (m - (64 - l.length))
      simp only [Prod.mk.injEq] at hc
      have ht2 := tidyV_ok (sy := sy123) (b := 3) (t := F36 0) (st := z_CTo (.sl (some (1, o + (64 - l.length))) (m - (64 - l.length)) (.rel (q + (64 - l.length)))) (.sl none 0 (.fix 0)) (BL s ((l ++ (d.drop o).take m).take 64)) n d (R64 l)) (by rw [hc.2]; simp only [hd, hR, List.all_cons, List.all_nil, id, Bool.and_self])
      rw [hc.1] at ht2
      obtain ⟨N, e2, st2, b1, b2, b3⟩ := z_takeNo n d (R64 l) hd hR (m - (64 - l.length)) (m - (64 - l.length)) (o + (64 - l.length)) (q + (64 - l.length)) (BL s ((l ++ (d.drop o).take m).take 64)) (Nat.le_refl _) (by omega)
      refine ⟨max 60 N + 1, e2, st2, loop_nextg (id := 0) rfl (evG_le hev (by omega)) (ht.trans ht2.symm) (evG_le b1 (by omega)), b2, ?_⟩
      have el : (l ++ (d.drop o).take m).drop 64 = (d.drop (o + (64 - l.length))).take (m - (64 - l.length)) := by
        rw [List.drop_append, List.drop_eq_nil_of_le (by omega : l.length ≤ 64), List.nil_append, List.drop_take, List.drop_drop]
      rw [absorb_more (l := l ++ (d.drop o).take m) (by omega), el]
      exact b3
    · have h := z_x3fo s n d (R64 l) o m q l.length
      simp only [Option.map_eq_some_iff] at h
      obtain ⟨⟨⟨e, st'⟩, hs', cl⟩, a1, a2⟩ := h
      simp only [Prod.mk.injEq] at a2
      obtain ⟨rfl, a3, a4, rfl⟩ := a2
      rw [hB] at a1 a3 a4
      have hev := evVg_ok _ _ _ _ cvB_ok _ _ a1 (by
        simp only [mk, mm, if_neg hne, hd, hR, o1, o2, len1, hz, ew, hXi, hBi'.1, q2, List.all_cons, List.all_nil, id, Bool.and_true, Bool.true_and, Bool.and_eq_true, decide_eq_true_eq, beq_iff_eq, Bool.not_eq_true', decide_eq_false_iff_not]
        simp [hnil, len1']
        omega)
      have ht := tidyV_ok (sy := sy123) (b := 3) (t := F36 0) (st := st') (by rw [a4]; simp only [hd, hR, hBi'.2, List.all_cons, List.all_nil, id, Bool.and_self])
      rw [a3, eX] at ht
      have hc := z_tioe (BL s ((l ++ (d.drop o).take m).take 64)) n d (R64 l) o q (min m (64 - min l.length 64))
      simp only [Prod.mk.injEq] at hc
      have ht2 := tidyV_ok (sy := sy123) (b := 3) (t := F36 0) (st := z_CTo (.slE 1 o q (min m (64 - min l.length 64)) 1) (.sl none 0 (.fix 0)) (BL s ((l ++ (d.drop o).take m).take 64)) n d (R64 l)) (by rw [hc.2]; simp only [hd, hR, List.all_cons, List.all_nil, id, Bool.and_self])
      rw [hc.1] at ht2
      have h0 := z_xeo (BL s ((l ++ (d.drop o).take m).take 64)) n d (R64 l) o (min m (64 - min l.length 64)) q 0
      simp only [Option.map_eq_some_iff] at h0
      obtain ⟨⟨⟨e, st2⟩, hs2, cl2⟩, b1, b2⟩ := h0
      simp only [Prod.mk.injEq] at b2
      obtain ⟨rfl, b3, rfl⟩ := b2
      have hev2 := evVg_ok _ _ _ _ cvB_ok _ _ b1 (by simp [hd, hR])
      refine ⟨62, _, st2, loop_nextg (n := 61) (id := 0) rfl (evG_le hev (by omega)) (ht.trans ht2.symm) (loop_stopg (n := 60) hev2 (fun h => by cases h)), .inl rfl, ?_⟩
      have en : (l ++ (d.drop o).take m).drop 64 = [] := List.drop_eq_nil_of_le (by omega)
      rw [b3, absorb_more (l := l ++ (d.drop o).take m) (by omega), en, absorb_end (by simp)]
      simp [restV, restH]
theorem z_runN (n : Int) (d : List AV) (hd : d.all (isInt .u8) = true) (m o q : Nat) (l : List AV) (s : Nat → Int) (ho : o + m ≤ d.length) :
    ∃ N, runG Try.prog SB0 F36 N p36 [.ptr (some (0, 0)), .sl (some (1, o)) m (.rel q)] (z_hT s (.sl none 0 (.fix 0)) n d) =
      some (.tup [], z_hT (absorb s ((d.drop o).take m)).1 (restV 2 (absorb s ((d.drop o).take m)).2) n d ++ restH (absorb s ((d.drop o).take m)).2) := by
  obtain ⟨N, e, st', a1, a2, a3⟩ := z_takeN n d (R64 l) hd m m o q s (Nat.le_refl _) ho
  have a1' : evG Try.prog SB0 (z_hT s (.sl none 0 (.fix 0)) n d).length F36 N (.inl (.loop p36_l0)) ([.ptr (some (0, 0)), .sl (some (1, o)) m (.rel q)] ++ List.replicate (p36.ntmps - [AV.ptr (some (0, 0)), .sl (some (1, o)) m (.rel q)].length) .any, z_hT s (.sl none 0 (.fix 0)) n d) = some (e, st') := a1
  rw [← a3]
  rcases a2 with rfl | rfl
  · exact ⟨N + 1, by unfold runG; rw [show p36.body = .block 0 (.loop p36_l0) from rfl, block_stopg a1']; rfl⟩
  · exact ⟨N + 1, by unfold runG; rw [show p36.body = .block 0 (.loop p36_l0) from rfl, block_passg a1']; rfl⟩
theorem z_runSo (n : Int) (d : List AV) (hd : d.all (isInt .u8) = true) (m o q : Nat) (l : List AV) (hl : l.all (isInt .u8) = true) (h0 : 0 < l.length) (h64 : l.length < 64) (hm : 0 < m) (s : Nat → Int) (ho : o + m ≤ d.length) :
    ∃ N, runG Try.prog SB0 F36 N p36 [.ptr (some (0, 0)), .sl (some (1, o)) m (.rel q)] (z_hTo s (.sl (some (2, 0)) l.length (.fix 64)) n d (R64 l)) =
      some (.tup [], z_hTo (absorb s (l ++ (d.drop o).take m)).1 (restV 3 (absorb s (l ++ (d.drop o).take m)).2) n d (R64 l) ++ restH (absorb s (l ++ (d.drop o).take m)).2) := by
  obtain ⟨N, e, st', a1, a2, a3⟩ := z_takeSo n d hd l hl h0 h64 m o q s hm ho
  have a1' : evG Try.prog SB0 (z_hTo s (.sl (some (2, 0)) l.length (.fix 64)) n d (R64 l)).length F36 N (.inl (.loop p36_l0)) ([.ptr (some (0, 0)), .sl (some (1, o)) m (.rel q)] ++ List.replicate (p36.ntmps - [AV.ptr (some (0, 0)), .sl (some (1, o)) m (.rel q)].length) .any, z_hTo s (.sl (some (2, 0)) l.length (.fix 64)) n d (R64 l)) = some (e, st') := a1
  rw [← a3]
  rcases a2 with rfl | rfl
  · exact ⟨N + 1, by unfold runG; rw [show p36.body = .block 0 (.loop p36_l0) from rfl, block_stopg a1']; rfl⟩
  · exact ⟨N + 1, by unfold runG; rw [show p36.body = .block 0 (.loop p36_l0) from rfl, block_passg a1']; rfl⟩
theorem z_e18a (s s' : Nat → Int) (n : Int) (d Rc Rc' : List AV) (o m q k k' : Nat) : runVg Try.prog SB1 (sy0 [1, 2]) (cvE [(36, ([.ptr (some (0, 0)), .sl (some (1, o)) m (.rel q)], (z_hT s (.sl none 0 (.fix 0)) n d)), (.tup [], z_hT s' (.sl none 0 (.fix 0)) n d))]) FNo 60 p18 [.ptr (some (0, 0)), .sl (some (1, o)) m (.rel q)] (z_hT s (.sl none 0 (.fix 0)) n d) [.lit, .is false] = some ((.int .i64 0, z_hT s' (.sl none 0 (.fix 0)) (IntKind.i64.wrap (n + (m : Int))) d), [decide ((m : Int) > IntKind.i64.wrap (1152921504606846976 - n)) == false, sameH ([.ptr (some (0, 0)), .sl (some (1, o)) m (.rel q)], (z_hT s (.sl none 0 (.fix 0)) n d)) ([.ptr (some (0, 0)), .sl (some (1, o)) m (.rel q)], (z_hT s (.sl none 0 (.fix 0)) n d)), true, true]) := by kernel_rfl
theorem z_e18b (s s' : Nat → Int) (n : Int) (d Rc Rc' : List AV) (o m q k k' : Nat) : runVg Try.prog SB1 (sy0 [1, 2]) (cvE [(36, ([.ptr (some (0, 0)), .sl (some (1, o)) m (.rel q)], (z_hT s (.sl none 0 (.fix 0)) n d)), (.tup [], z_hT s' (.sl (some (2, 0)) k' (.fix 64)) n d ++ [.row 26 64 Rc']))]) FNo 60 p18 [.ptr (some (0, 0)), .sl (some (1, o)) m (.rel q)] (z_hT s (.sl none 0 (.fix 0)) n d) [.lit, .is false] = some ((.int .i64 0, z_hT s' (.sl (some (2, 0)) k' (.fix 64)) (IntKind.i64.wrap (n + (m : Int))) d ++ [.row 26 64 Rc']), [decide ((m : Int) > IntKind.i64.wrap (1152921504606846976 - n)) == false, sameH ([.ptr (some (0, 0)), .sl (some (1, o)) m (.rel q)], (z_hT s (.sl none 0 (.fix 0)) n d)) ([.ptr (some (0, 0)), .sl (some (1, o)) m (.rel q)], (z_hT s (.sl none 0 (.fix 0)) n d)), true, true]) := by kernel_rfl
theorem z_e18c (s s' : Nat → Int) (n : Int) (d Rc Rc' : List AV) (o m q k k' : Nat) : runVg Try.prog SB1 (sy0 [1, 2]) (cvE [(36, ([.ptr (some (0, 0)), .sl (some (1, o)) m (.rel q)], (z_hTo s (.sl (some (2, 0)) k (.fix 64)) n d Rc)), (.tup [], z_hTo s' (.sl none 0 (.fix 0)) n d Rc))]) FNo 60 p18 [.ptr (some (0, 0)), .sl (some (1, o)) m (.rel q)] (z_hTo s (.sl (some (2, 0)) k (.fix 64)) n d Rc) [.lit, .is false] = some ((.int .i64 0, z_hTo s' (.sl none 0 (.fix 0)) (IntKind.i64.wrap (n + (m : Int))) d Rc), [decide ((m : Int) > IntKind.i64.wrap (1152921504606846976 - n)) == false, sameH ([.ptr (some (0, 0)), .sl (some (1, o)) m (.rel q)], (z_hTo s (.sl (some (2, 0)) k (.fix 64)) n d Rc)) ([.ptr (some (0, 0)), .sl (some (1, o)) m (.rel q)], (z_hTo s (.sl (some (2, 0)) k (.fix 64)) n d Rc)), true, true]) := by kernel_rfl
theorem z_e18d (s s' : Nat → Int) (n : Int) (d Rc Rc' : List AV) (o m q k k' : Nat) : runVg Try.prog SB1 (sy0 [1, 2]) (cvE [(36, ([.ptr (some (0, 0)), .sl (some (1, o)) m (.rel q)], (z_hTo s (.sl (some (2, 0)) k (.fix 64)) n d Rc)), (.tup [], z_hTo s' (.sl (some (3, 0)) k' (.fix 64)) n d Rc ++ [.row 26 64 Rc']))]) FNo 60 p18 [.ptr (some (0, 0)), .sl (some (1, o)) m (.rel q)] (z_hTo s (.sl (some (2, 0)) k (.fix 64)) n d Rc) [.lit, .is false] = some ((.int .i64 0, z_hTo s' (.sl (some (3, 0)) k' (.fix 64)) (IntKind.i64.wrap (n + (m : Int))) d Rc ++ [.row 26 64 Rc']), [decide ((m : Int) > IntKind.i64.wrap (1152921504606846976 - n)) == false, sameH ([.ptr (some (0, 0)), .sl (some (1, o)) m (.rel q)], (z_hTo s (.sl (some (2, 0)) k (.fix 64)) n d Rc)) ([.ptr (some (0, 0)), .sl (some (1, o)) m (.rel q)], (z_hTo s (.sl (some (2, 0)) k (.fix 64)) n d Rc)), true, true]) := by kernel_rfl
theorem z_w18_0 (s : Nat → Int) (n : Int) (d : List AV) (hd : d.all (isInt .u8) = true) (m o q : Nat) (h0 : 0 ≤ n) (hr : n + m ≤ 1152921504606846976) (ho : o + m ≤ d.length) :
    limG Try.prog SB1 FNo p18 [.ptr (some (0, 0)), .sl (some (1, o)) m (.rel q)] (z_hT s (.sl none 0 (.fix 0)) n d) = some (.int .i64 0, z_hT (absorb s ((d.drop o).take m)).1 (restV 2 (absorb s ((d.drop o).take m)).2) (n + m) d ++ restH (absorb s ((d.drop o).take m)).2) := by
  obtain ⟨N, hrun⟩ := z_runN n d hd m o q [] s ho
  obtain ⟨r1, r2⟩ := room_ok h0 hr
  have hl36 := limG_of hrun
  generalize absorb s ((d.drop o).take m) = A at *
  obtain ⟨A1, A2⟩ := A
  cases A2 with
  | nil =>
    have h36 := cv1_ok (a := (_, _)) (r := (_, _)) (hl36.trans (by rw [show restH [] = [] from rfl, List.append_nil]; rfl) : limG Try.prog SB0 F36 p36 _ _ = some (.tup [], z_hT A1 (.sl none 0 (.fix 0)) n d))
    rw [← r2]
    rw [show restH [] = [] from rfl, List.append_nil]
    exact limG_of (runVg_ok Try.prog SB1 (sy0 [1, 2]) _ h36 (z_e18a s A1 n d [] [] o m q 0 0) (by simp only [r1, sameH_self, List.all_cons, List.all_nil, id, Bool.and_self]))
  | cons a l' =>
    have h36 := cv1_ok (a := (_, _)) (r := (_, _)) (hl36 : limG Try.prog SB0 F36 p36 _ _ = some (.tup [], z_hT A1 (.sl (some (2, 0)) (a :: l').length (.fix 64)) n d ++ [.row 26 64 (R64 (a :: l'))]))
    rw [← r2]
    exact limG_of (runVg_ok Try.prog SB1 (sy0 [1, 2]) _ h36 (z_e18b s A1 n d [] (R64 (a :: l')) o m q 0 (a :: l').length) (by simp only [r1, sameH_self, List.all_cons, List.all_nil, id, Bool.and_self]))
theorem z_w18_S (s : Nat → Int) (n : Int) (d : List AV) (hd : d.all (isInt .u8) = true) (m o q : Nat) (l : List AV) (hl : l.all (isInt .u8) = true) (hl0 : 0 < l.length) (h64 : l.length < 64) (hm : 0 < m) (h0 : 0 ≤ n) (hr : n + m ≤ 1152921504606846976) (ho : o + m ≤ d.length) :
    limG Try.prog SB1 FNo p18 [.ptr (some (0, 0)), .sl (some (1, o)) m (.rel q)] (z_hTo s (.sl (some (2, 0)) l.length (.fix 64)) n d (R64 l)) = some (.int .i64 0, z_hTo (absorb s (l ++ (d.drop o).take m)).1 (restV 3 (absorb s (l ++ (d.drop o).take m)).2) (n + m) d (R64 l) ++ restH (absorb s (l ++ (d.drop o).take m)).2) := by
  obtain ⟨N, hrun⟩ := z_runSo n d hd m o q l hl hl0 h64 hm s ho
  obtain ⟨r1, r2⟩ := room_ok h0 hr
  have hl36 := limG_of hrun
  generalize absorb s (l ++ (d.drop o).take m) = A at *
  obtain ⟨A1, A2⟩ := A
  cases A2 with
  | nil =>
    have h36 := cv1_ok (a := (_, _)) (r := (_, _)) (hl36.trans (by rw [show restH [] = [] from rfl, List.append_nil]; rfl) : limG Try.prog SB0 F36 p36 _ _ = some (.tup [], z_hTo A1 (.sl none 0 (.fix 0)) n d (R64 l)))
    rw [← r2]
    rw [show restH [] = [] from rfl, List.append_nil]
    exact limG_of (runVg_ok Try.prog SB1 (sy0 [1, 2]) _ h36 (z_e18c s A1 n d (R64 l) [] o m q l.length 0) (by simp only [r1, sameH_self, List.all_cons, List.all_nil, id, Bool.and_self]))
  | cons a l' =>
    have h36 := cv1_ok (a := (_, _)) (r := (_, _)) (hl36 : limG Try.prog SB0 F36 p36 _ _ = some (.tup [], z_hTo A1 (.sl (some (3, 0)) (a :: l').length (.fix 64)) n d (R64 l) ++ [.row 26 64 (R64 (a :: l'))]))
    rw [← r2]
    exact limG_of (runVg_ok Try.prog SB1 (sy0 [1, 2]) _ h36 (z_e18d s A1 n d (R64 l) (R64 (a :: l')) o m q l.length (a :: l').length) (by simp only [r1, sameH_self, List.all_cons, List.all_nil, id, Bool.and_self]))
theorem z_write_fr0 {h : AHeap} {i j o m q : Nat} {s : Nat → Int} {n : Int} {d : List AV} (hi : h[i]? = some (hrow s (.sl none 0 (.fix 0)) n)) (hj : h[j]? = some (.ro d)) (hij : i ≠ j) (hd : d.all (isInt .u8) = true) (hn0 : 0 ≤ n) (hnm : n + m ≤ 1152921504606846976) (ho : o + m ≤ d.length) :
    framedS 1 sW [.ptr (some (i, 0)), .sl (some (j, o)) m (.rel q)] h = some (.int .i64 0, h.set i (hrow (absorb s ((d.drop o).take m)).1 (restV h.length (absorb s ((d.drop o).take m)).2) (n + m)) ++ restH (absorb s ((d.drop o).take m)).2) := by
  obtain ⟨gi, li⟩ := getD_at hi
  obtain ⟨gj, lj⟩ := getD_at hj
  have hl := z_w18_0 s n d hd m o q hn0 hnm ho
  have hint : ((d.drop o).take m).all (isInt .u8) = true := all_sub hd fun v hv => List.mem_of_mem_drop (List.mem_of_mem_take hv)
  obtain ⟨a1, a2⟩ := absorb_int s hint
  generalize hA : absorb s ((d.drop o).take m) = A at *
  have hs : sW [.ptr (some (0, 0)), .sl (some (1, o)) m (.rel q)] (hrow s (.sl none 0 (.fix 0)) n :: [j].map fun k => h.getD k .dead) = some (.int .i64 0, (hrow A.1 (restV 2 A.2) (n + m) :: [j].map fun k => h.getD k .dead) ++ restH A.2, (List.range (restH A.2).length).map ([j].length + 1 + ·)) := by
    simp only [List.map_cons, List.map_nil, gj]
    unfold sW
    rw [show ([hrow s (.sl none 0 (.fix 0)) n, .ro d] : AHeap) = z_hT s (.sl none 0 (.fix 0)) n d from rfl, hl]
    simp only [Option.map_some, z_hT, List.cons_append, List.nil_append, List.getD_cons_zero, List.length_cons, List.length_nil, Nat.zero_add, Option.some.injEq, Prod.mk.injEq, true_and]
    exact new_names
  have hres := framed_one (d := 1) (s := sW) (args := [.ptr (some (i, 0)), .sl (some (j, o)) m (.rel q)]) (a := [.ptr (some (0, 0)), .sl (some (1, o)) m (.rel q)]) (h := h) (i := i) (ks := [j]) (o0 := hrow s (.sl none 0 (.fix 0)) n) (reach_ps hij (by rw [gi, hrow_names]; rfl) (by rw [gj]; exact (row_names (t := 5) (z := 1) hd).2)) (by simp [hij]) li (by rw [gi]; rfl)
    (by simp only [AV.renL, AV.ren, (idx2 hij).1, (idx2 hij).2, Option.map_some]) (by rw [gi]; exact hrow_ren rfl)
    (fun k hk => by rw [List.mem_singleton] at hk; subst hk; rw [gj]; exact (num_int (t := 5) (s := 1) hd).2) hs rfl
  rw [hres, restH_own _ a1 (by omega)]
  congr 4
  obtain ⟨A1, A2⟩ := A
  cases A2 with
  | nil => exact hrow_ren rfl
  | cons x l => exact hrow_ren (restV_ren (tau_new rfl 0 (by simp [restH])) _)
theorem z_write_frS {h : AHeap} {i j k o m q : Nat} {s : Nat → Int} {n : Int} {d l : List AV} (hi : h[i]? = some (hrow s (.sl (some (k, 0)) l.length (.fix 64)) n)) (hj : h[j]? = some (.ro d)) (hk : h[k]? = some (.row 26 64 (R64 l))) (hij : i ≠ j) (hik : i ≠ k) (hjk : j ≠ k) (hd : d.all (isInt .u8) = true) (hl : l.all (isInt .u8) = true) (h0 : 0 < l.length) (h64 : l.length < 64) (hm : 0 < m) (hn0 : 0 ≤ n) (hnm : n + m ≤ 1152921504606846976) (ho : o + m ≤ d.length) :
    framedS 1 sW [.ptr (some (i, 0)), .sl (some (j, o)) m (.rel q)] h = some (.int .i64 0, h.set i (hrow (absorb s (l ++ (d.drop o).take m)).1 (restV h.length (absorb s (l ++ (d.drop o).take m)).2) (n + m)) ++ restH (absorb s (l ++ (d.drop o).take m)).2) := by
  obtain ⟨gi, li⟩ := getD_at hi
  obtain ⟨gj, lj⟩ := getD_at hj
  obtain ⟨gk, lk⟩ := getD_at hk
  have hR := R64_ints hl
  have hint : (l ++ (d.drop o).take m).all (isInt .u8) = true := by rw [List.all_append, hl, all_sub hd fun v hv => List.mem_of_mem_drop (List.mem_of_mem_take hv)]; rfl
  obtain ⟨a1, a2⟩ := absorb_int s hint
  have hlim := z_w18_S s n d hd m o q l hl h0 h64 hm hn0 hnm ho
  generalize hA : absorb s (l ++ (d.drop o).take m) = A at *
  have hs : sW [.ptr (some (0, 0)), .sl (some (1, o)) m (.rel q)] (hrow s (.sl (some (2, 0)) l.length (.fix 64)) n :: [j, k].map fun k => h.getD k .dead) = some (.int .i64 0, (hrow A.1 (restV 3 A.2) (n + m) :: [j, k].map fun k => h.getD k .dead) ++ restH A.2, (List.range (restH A.2).length).map ([j, k].length + 1 + ·)) := by
    simp only [List.map_cons, List.map_nil, gj, gk]
    unfold sW
    rw [show ([hrow s (.sl (some (2, 0)) l.length (.fix 64)) n, .ro d, .row 26 64 (R64 l)] : AHeap) = z_hTo s (.sl (some (2, 0)) l.length (.fix 64)) n d (R64 l) from rfl, hlim]
    simp only [Option.map_some, z_hTo, List.cons_append, List.nil_append, List.getD_cons_zero, List.length_cons, List.length_nil, Nat.zero_add, Option.some.injEq, Prod.mk.injEq, true_and]
    exact new_names
  have hres := framed_one (d := 1) (s := sW) (args := [.ptr (some (i, 0)), .sl (some (j, o)) m (.rel q)]) (a := [.ptr (some (0, 0)), .sl (some (1, o)) m (.rel q)]) (h := h) (i := i) (ks := [j, k]) (o0 := hrow s (.sl (some (2, 0)) l.length (.fix 64)) n) (reach_psr hij hik hjk (by rw [gi, hrow_names]; rfl) (by rw [gj]; exact (row_names (t := 5) (z := 1) hd).2)) (by simp [hij, hik, hjk]) li (by rw [gi]; rfl)
    (by simp only [AV.renL, AV.ren, (idx3 hij hik hjk).1, (idx3 hij hik hjk).2.1, Option.map_some]) (by rw [gi]; exact hrow_ren (by simp only [AV.ren, (idx3 hij hik hjk).2.2, Option.map_some]))
    (fun x hx => by
      simp only [List.mem_cons, List.not_mem_nil, or_false] at hx
      rcases hx with rfl | rfl
      · rw [gj]; exact (num_int (t := 5) (s := 1) hd).2
      · rw [gk]; exact (num_int (t := 26) (s := 64) hR).1) hs rfl
  rw [hres, restH_own _ a1 (by omega)]
  congr 4
  obtain ⟨A1, A2⟩ := A
  cases A2 with
  | nil => exact hrow_ren rfl
  | cons x l => exact hrow_ren (restV_ren (tau_new rfl 0 (by simp [restH])) _)

end Go.Proofs.Ytiijphmpkmmpjaa
