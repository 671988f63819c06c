import Derived.Test.YtiijphmpkmmpjaaShaWm
import Derived.Test.YtiijphmpkmmpjaaAmZd
namespace Go.Proofs.Ytiijphmpkmmpjaa
open Go Go.Am
set_option maxRecDepth 100000
set_option linter.unusedVariables false
set_option linter.unusedSimpArgs false
/- takes over the small memory of what its arguments reach, paths. -/

/-- The small memories of takes: a hash, what comes, what was left over. -/
def hT (s : Nat → Int) (rest : AV) (n : Int) (d : List AV) : AHeap := [hrow s rest n, .row 5 1 d]
def hTo (s : Nat → Int) (rest : AV) (n : Int) (d Rc : List AV) : AHeap := [hrow s rest n, .row 5 1 d, .row 26 64 Rc]
def hTr (s : Nat → Int) (rest : AV) (n : Int) (d Rc : List AV) : AHeap := [hrow s rest n, .row 5 1 d, .ro Rc]
def CT (data rest : AV) (s : Nat → Int) (n : Int) (d : List AV) : St := ([.ptr (some (0, 0)), data, .any, .any, .any, .any, .any, .any, .any, .any, .any, .any, .any, .any, .any, .any, .any, .any, .any, .any, .any, .any, .any, .any, .any, .any, .any, .any, .any, .any, .any, .any, .any, .any, .any, .any, .any, .any, .any, .any, .any, .any, .any, .any, .any, .any, .any, .any, .any, .any, .any, .any, .any, .any, .any, .any, .any, .any, .any, .any, .any, .any, .any, .any, .any, .any, .any, .any, .any, .any, .any], hT s rest n d)
def CTo (data rest : AV) (s : Nat → Int) (n : Int) (d Rc : List AV) : St := ([.ptr (some (0, 0)), data, .any, .any, .any, .any, .any, .any, .any, .any, .any, .any, .any, .any, .any, .any, .any, .any, .any, .any, .any, .any, .any, .any, .any, .any, .any, .any, .any, .any, .any, .any, .any, .any, .any, .any, .any, .any, .any, .any, .any, .any, .any, .any, .any, .any, .any, .any, .any, .any, .any, .any, .any, .any, .any, .any, .any, .any, .any, .any, .any, .any, .any, .any, .any, .any, .any, .any, .any, .any, .any], hTo s rest n d Rc)
def CTr (data rest : AV) (s : Nat → Int) (n : Int) (d Rc : List AV) : St := ([.ptr (some (0, 0)), data, .any, .any, .any, .any, .any, .any, .any, .any, .any, .any, .any, .any, .any, .any, .any, .any, .any, .any, .any, .any, .any, .any, .any, .any, .any, .any, .any, .any, .any, .any, .any, .any, .any, .any, .any, .any, .any, .any, .any, .any, .any, .any, .any, .any, .any, .any, .any, .any, .any, .any, .any, .any, .any, .any, .any, .any, .any, .any, .any, .any, .any, .any, .any, .any, .any, .any, .any, .any, .any], hTr s rest n d Rc)
abbrev sy1 : Sy := sy0 [1]
abbrev sy12 : Sy := sy0 [1, 2]
abbrev sy123 : Sy := sy0 [1, 2, 3]
theorem x0 (s : Nat → Int) (n : Int) (d Rc : List AV) (o m q k : Nat) : (evVg Try.prog SB0 sy1 cvB 2 F36 60 (.inl p36_l0) (CT (.sl (some (1, o)) m (.rel q)) (.sl none 0 (.fix 0)) s n d) [Hint.is false]).map (fun r => (r.1.1, r.1.2.2, r.2.2)) = some (.exit 0, hT s (.sl none 0 (.fix 0)) n d, [List.all d (isInt IntKind.u8), List.all d (isInt IntKind.u8), decide ((↑m : Int) > 0) == false]) := by kernel_rfl
theorem xe (s : Nat → Int) (n : Int) (d Rc : List AV) (o m q k : Nat) : (evVg Try.prog SB0 sy1 cvB 2 F36 60 (.inl p36_l0) (CT (.slE 1 o q m 1) (.sl none 0 (.fix 0)) s n d) [Hint.lit]).map (fun r => (r.1.1, r.1.2.2, r.2.2)) = some (.exit 0, hT s (.sl none 0 (.fix 0)) n d, [List.all d (isInt IntKind.u8), List.all d (isInt IntKind.u8)]) := by kernel_rfl
theorem x1t (s : Nat → Int) (n : Int) (d Rc : List AV) (o m q k : Nat) : (evVg Try.prog SB0 sy1 cvB 2 F36 60 (.inl p36_l0) (CT (.sl (some (1, o)) m (.rel q)) (.sl none 0 (.fix 0)) s n d) [Hint.is true, Hint.lit, Hint.is true, Hint.is true]).map (fun r => (r.1.1, (tidyV sy1 2 (F36 0) r.1.2).1, (tidyV sy1 2 (F36 0) r.1.2).2, r.2.2)) = some (.normal, CT (.sl (some (1, o + 64 * 1)) (m - 64) (.rel (q + 64))) (.sl none 0 (.fix 0)) (BL s (List.take 64 (List.drop o d))) n d, [d.all (isInt .u8), d.all (isInt .u8)], [List.all d (isInt IntKind.u8), List.all d (isInt IntKind.u8), decide ((↑m : Int) > 0) == true, decide ((↑m : Int) ≥ 64) == true, true, decide (64 ≤ (↑m : Int)), true, true, decide (o + 64 ≤ List.length d), true, isInts IntKind.u8 64 (List.take 64 (List.drop o d)), true, true, true, decide (64 ≤ (↑m : Int)), decide (64 < m)]) := by kernel_rfl
theorem x1f (s : Nat → Int) (n : Int) (d Rc : List AV) (o m q k : Nat) : (evVg Try.prog SB0 sy1 cvB 2 F36 60 (.inl p36_l0) (CT (.sl (some (1, o)) m (.rel q)) (.sl none 0 (.fix 0)) s n d) [Hint.is true, Hint.lit, Hint.is true, Hint.is false]).map (fun r => (r.1.1, (tidyV sy1 2 (F36 0) r.1.2).1, (tidyV sy1 2 (F36 0) r.1.2).2, r.2.2)) = some (.normal, CT (.slE 1 o q 64 1) (.sl none 0 (.fix 0)) (BL s (List.take 64 (List.drop o d))) n d, [d.all (isInt .u8), d.all (isInt .u8)], [List.all d (isInt IntKind.u8), List.all d (isInt IntKind.u8), decide ((↑m : Int) > 0) == true, decide ((↑m : Int) ≥ 64) == true, true, decide (64 ≤ (↑m : Int)), true, true, decide (o + 64 ≤ List.length d), true, isInts IntKind.u8 64 (List.take 64 (List.drop o d)), true, true, true, decide (64 ≤ (↑m : Int)), decide (64 = m), true]) := by kernel_rfl
theorem x2 (s : Nat → Int) (n : Int) (d Rc : List AV) (o m q k : Nat) : (evVg Try.prog SB0 sy12 cvB 2 F36 60 (.inl p36_l0) (CT (.sl (some (1, o)) m (.rel q)) (.sl none 0 (.fix 0)) s n d) [Hint.is true, Hint.lit, Hint.is false, Hint.is false, Hint.is true]).map (fun r => (r.1.1, r.1.2.2, r.2.2)) = some (.ret, hT s (.sl (some (2, 0)) (Int.toNat (IntKind.wrap .i64 (0 + ((min m 64 : Nat) : Int)))) (.fix 64)) n d ++ [.row 26 64 (R64 (List.take (min m 64 * 1) (List.take (m * 1) (List.drop o d))))], [List.all d (isInt IntKind.u8), List.all d (isInt IntKind.u8), decide ((↑m : Int) > 0) == true, decide ((↑m : Int) ≥ 64) == false, true, true, true, true, true, decide (o + m * 1 ≤ List.length d), List.all (List.take (m * 1) (List.drop o d)) AV.one, decide (0 + min m 64 * 1 ≤ List.length (z3 .u8 64)), true, decide ((↑(min m 64) : Int) ≤ (↑m : Int)), decide (min m 64 = m), !decide (min m 64 = 0), decide (IntKind.wrap IntKind.i64 (0 + (↑(min m 64) : Int)) < 64) == true, decide (0 ≤ IntKind.wrap IntKind.i64 (0 + (↑(min m 64) : Int))), decide (IntKind.wrap IntKind.i64 (0 + (↑(min m 64) : Int)) ≤ (↑64 : Int)), true, true, true]) := by kernel_rfl
theorem x0o (s : Nat → Int) (n : Int) (d Rc : List AV) (o m q k : Nat) : (evVg Try.prog SB0 sy123 cvB 3 F36 60 (.inl p36_l0) (CTo (.sl (some (1, o)) m (.rel q)) (.sl none 0 (.fix 0)) s n d Rc) [Hint.is false]).map (fun r => (r.1.1, r.1.2.2, r.2.2)) = some (.exit 0, hTo s (.sl none 0 (.fix 0)) n d Rc, [List.all d (isInt IntKind.u8), List.all Rc (isInt IntKind.u8), List.all d (isInt IntKind.u8), List.all Rc (isInt IntKind.u8), decide ((↑m : Int) > 0) == false]) := by kernel_rfl
theorem xeo (s : Nat → Int) (n : Int) (d Rc : List AV) (o m q k : Nat) : (evVg Try.prog SB0 sy123 cvB 3 F36 60 (.inl p36_l0) (CTo (.slE 1 o q m 1) (.sl none 0 (.fix 0)) s n d Rc) [Hint.lit]).map (fun r => (r.1.1, r.1.2.2, r.2.2)) = some (.exit 0, hTo s (.sl none 0 (.fix 0)) n d Rc, [List.all d (isInt IntKind.u8), List.all Rc (isInt IntKind.u8), List.all d (isInt IntKind.u8), List.all Rc (isInt IntKind.u8)]) := by kernel_rfl
theorem x1to (s : Nat → Int) (n : Int) (d Rc : List AV) (o m q k : Nat) : (evVg Try.prog SB0 sy123 cvB 3 F36 60 (.inl p36_l0) (CTo (.sl (some (1, o)) m (.rel q)) (.sl none 0 (.fix 0)) s n d Rc) [Hint.is true, Hint.lit, Hint.is true, Hint.is true]).map (fun r => (r.1.1, (tidyV sy123 3 (F36 0) r.1.2).1, (tidyV sy123 3 (F36 0) r.1.2).2, r.2.2)) = some (.normal, CTo (.sl (some (1, o + 64 * 1)) (m - 64) (.rel (q + 64))) (.sl none 0 (.fix 0)) (BL s (List.take 64 (List.drop o d))) n d Rc, [d.all (isInt .u8), Rc.all (isInt .u8), d.all (isInt .u8), Rc.all (isInt .u8)], [List.all d (isInt IntKind.u8), List.all Rc (isInt IntKind.u8), List.all d (isInt IntKind.u8), List.all Rc (isInt IntKind.u8), decide ((↑m : Int) > 0) == true, decide ((↑m : Int) ≥ 64) == true, true, decide (64 ≤ (↑m : Int)), true, true, decide (o + 64 ≤ List.length d), true, isInts IntKind.u8 64 (List.take 64 (List.drop o d)), true, true, true, decide (64 ≤ (↑m : Int)), decide (64 < m)]) := by kernel_rfl
theorem x1fo (s : Nat → Int) (n : Int) (d Rc : List AV) (o m q k : Nat) : (evVg Try.prog SB0 sy123 cvB 3 F36 60 (.inl p36_l0) (CTo (.sl (some (1, o)) m (.rel q)) (.sl none 0 (.fix 0)) s n d Rc) [Hint.is true, Hint.lit, Hint.is true, Hint.is false]).map (fun r => (r.1.1, (tidyV sy123 3 (F36 0) r.1.2).1, (tidyV sy123 3 (F36 0) r.1.2).2, r.2.2)) = some (.normal, CTo (.slE 1 o q 64 1) (.sl none 0 (.fix 0)) (BL s (List.take 64 (List.drop o d))) n d Rc, [d.all (isInt .u8), Rc.all (isInt .u8), d.all (isInt .u8), Rc.all (isInt .u8)], [List.all d (isInt IntKind.u8), List.all Rc (isInt IntKind.u8), List.all d (isInt IntKind.u8), List.all Rc (isInt IntKind.u8), decide ((↑m : Int) > 0) == true, decide ((↑m : Int) ≥ 64) == true, true, decide (64 ≤ (↑m : Int)), true, true, decide (o + 64 ≤ List.length d), true, isInts IntKind.u8 64 (List.take 64 (List.drop o d)), true, true, true, decide (64 ≤ (↑m : Int)), decide (64 = m), true]) := by kernel_rfl
theorem x2o (s : Nat → Int) (n : Int) (d Rc : List AV) (o m q k : Nat) : (evVg Try.prog SB0 sy123 cvB 3 F36 60 (.inl p36_l0) (CTo (.sl (some (1, o)) m (.rel q)) (.sl none 0 (.fix 0)) s n d Rc) [Hint.is true, Hint.lit, Hint.is false, Hint.is false, Hint.is true]).map (fun r => (r.1.1, r.1.2.2, r.2.2)) = some (.ret, hTo s (.sl (some (3, 0)) (Int.toNat (IntKind.wrap .i64 (0 + ((min m 64 : Nat) : Int)))) (.fix 64)) n d Rc ++ [.row 26 64 (R64 (List.take (min m 64 * 1) (List.take (m * 1) (List.drop o d))))], [List.all d (isInt IntKind.u8), List.all Rc (isInt IntKind.u8), List.all d (isInt IntKind.u8), List.all Rc (isInt IntKind.u8), decide ((↑m : Int) > 0) == true, decide ((↑m : Int) ≥ 64) == false, true, true, true, true, true, decide (o + m * 1 ≤ List.length d), List.all (List.take (m * 1) (List.drop o d)) AV.one, decide (0 + min m 64 * 1 ≤ List.length (z3 .u8 64)), true, decide ((↑(min m 64) : Int) ≤ (↑m : Int)), decide (min m 64 = m), !decide (min m 64 = 0), decide (IntKind.wrap IntKind.i64 (0 + (↑(min m 64) : Int)) < 64) == true, decide (0 ≤ IntKind.wrap IntKind.i64 (0 + (↑(min m 64) : Int))), decide (IntKind.wrap IntKind.i64 (0 + (↑(min m 64) : Int)) ≤ (↑64 : Int)), true, true, true]) := by kernel_rfl
theorem x4o (s : Nat → Int) (n : Int) (d Rc : List AV) (o m q k : Nat) : (evVg Try.prog SB0 sy123 cvB 3 F36 60 (.inl p36_l0) (CTo (.sl (some (1, o)) m (.rel q)) (.sl (some (2, 0)) k (.fix 64)) s n d Rc) [Hint.is true, Hint.is false, Hint.is false, Hint.is true]).map (fun r => (r.1.1, r.1.2.2, r.2.2)) = some (.ret, hTo s (.sl (some (3, 0)) (Int.toNat (IntKind.wrap .i64 (((min k 64 : Nat) : Int) + (((min m (64 - min k 64)) : Nat) : Int)))) (.fix 64)) n d Rc ++ [.row 26 64 (spliceA (spliceA (z3 .u8 64) 0 (List.take (min k 64 * 1) (List.take (k * 1) (List.drop 0 Rc)))) (if min k 64 = 64 then 0 else 0 + min k 64 * 1) (List.take (min m (64 - min k 64) * 1) (List.take (m * 1) (List.drop o d))))], [List.all d (isInt IntKind.u8), List.all Rc (isInt IntKind.u8), List.all d (isInt IntKind.u8), List.all Rc (isInt IntKind.u8), decide ((↑m : Int) > 0) == true, ((↑k : Int) == 0) == false, true, decide (0 + k * 1 ≤ List.length Rc), List.all (List.take (k * 1) (List.drop 0 Rc)) AV.one, decide (0 + min k 64 * 1 ≤ List.length (z3 .u8 64)), true, decide ((↑(min k 64) : Int) ≤ (↑64 : Int)), decide (o + m * 1 ≤ List.length d), List.all (List.take (m * 1) (List.drop o d)) AV.one, decide ((if min k 64 = 64 then 0 else 0 + min k 64 * 1) + min m (64 - min k 64) * 1 ≤ List.length (spliceA (z3 .u8 64) 0 (List.take (min k 64 * 1) (List.take (k * 1) (List.drop 0 Rc))))), true, decide ((↑(min m (64 - min k 64)) : Int) ≤ (↑m : Int)), decide (min m (64 - min k 64) = m), !decide (min m (64 - min k 64) = 0), decide (IntKind.wrap IntKind.i64 ((↑(min k 64) : Int) + (↑(min m (64 - min k 64)) : Int)) < 64) == true, decide (0 ≤ IntKind.wrap IntKind.i64 ((↑(min k 64) : Int) + (↑(min m (64 - min k 64)) : Int))), decide (IntKind.wrap IntKind.i64 ((↑(min k 64) : Int) + (↑(min m (64 - min k 64)) : Int)) ≤ (↑64 : Int)), true, true, true]) := by kernel_rfl
theorem x5o (s : Nat → Int) (n : Int) (d Rc : List AV) (o m q k : Nat) : (evVg Try.prog SB0 sy123 cvB 3 F36 60 (.inl p36_l0) (CTo (.sl (some (1, o)) m (.rel q)) (.sl (some (2, 0)) k (.fix 64)) s n d Rc) [Hint.is false]).map (fun r => (r.1.1, r.1.2.2, r.2.2)) = some (.exit 0, hTo s (.sl (some (2, 0)) k (.fix 64)) n d Rc, [List.all d (isInt IntKind.u8), List.all Rc (isInt IntKind.u8), List.all d (isInt IntKind.u8), List.all Rc (isInt IntKind.u8), decide ((↑m : Int) > 0) == false]) := by kernel_rfl
theorem x3to (s : Nat → Int) (n : Int) (d Rc : List AV) (o m q k : Nat) : (evVg Try.prog SB0 sy123 cvB 3 F36 60 (.inl p36_l0) (CTo (.sl (some (1, o)) m (.rel q)) (.sl (some (2, 0)) k (.fix 64)) s n d Rc) [Hint.is true, Hint.is false, Hint.is true, Hint.is false]).map (fun r => (r.1.1, (tidyV sy123 3 (F36 0) r.1.2).1, (tidyV sy123 3 (F36 0) r.1.2).2, r.2.2)) = some (.normal, CTo (.sl (some (1, o + (min m (64 - min k 64)) * 1)) (m - (min m (64 - min k 64))) (.rel (q + (min m (64 - min k 64))))) (.sl none 0 (.fix 0)) (BL s (List.take 64 (List.drop 0 (spliceA (spliceA (z3 .u8 64) 0 (List.take (min k 64 * 1) (List.take (k * 1) (List.drop 0 Rc)))) (if min k 64 = 64 then 0 else 0 + min k 64 * 1) (List.take (min m (64 - min k 64) * 1) (List.take (m * 1) (List.drop o d))))))) n d Rc, [d.all (isInt .u8), Rc.all (isInt .u8), (spliceA (spliceA (z3 .u8 64) 0 (List.take (min k 64 * 1) (List.take (k * 1) (List.drop 0 Rc)))) (if min k 64 = 64 then 0 else 0 + min k 64 * 1) (List.take (min m (64 - min k 64) * 1) (List.take (m * 1) (List.drop o d)))).all (isInt .u8), d.all (isInt .u8), Rc.all (isInt .u8)], [List.all d (isInt IntKind.u8), List.all Rc (isInt IntKind.u8), List.all d (isInt IntKind.u8), List.all Rc (isInt IntKind.u8), decide ((↑m : Int) > 0) == true, ((↑k : Int) == 0) == false, true, decide (0 + k * 1 ≤ List.length Rc), List.all (List.take (k * 1) (List.drop 0 Rc)) AV.one, decide (0 + min k 64 * 1 ≤ List.length (z3 .u8 64)), true, decide ((↑(min k 64) : Int) ≤ (↑64 : Int)), decide (o + m * 1 ≤ List.length d), List.all (List.take (m * 1) (List.drop o d)) AV.one, decide ((if min k 64 = 64 then 0 else 0 + min k 64 * 1) + min m (64 - min k 64) * 1 ≤ List.length (spliceA (z3 .u8 64) 0 (List.take (min k 64 * 1) (List.take (k * 1) (List.drop 0 Rc))))), true, decide ((↑(min m (64 - min k 64)) : Int) ≤ (↑m : Int)), decide (min m (64 - min k 64) < m), decide (IntKind.wrap IntKind.i64 ((↑(min k 64) : Int) + (↑(min m (64 - min k 64)) : Int)) < 64) == false, decide (0 + 64 ≤ List.length (spliceA (spliceA (z3 .u8 64) 0 (List.take (min k 64 * 1) (List.take (k * 1) (List.drop 0 Rc)))) (if min k 64 = 64 then 0 else 0 + min k 64 * 1) (List.take (min m (64 - min k 64) * 1) (List.take (m * 1) (List.drop o d))))), true, isInts IntKind.u8 64 (List.take 64 (List.drop 0 (spliceA (spliceA (z3 .u8 64) 0 (List.take (min k 64 * 1) (List.take (k * 1) (List.drop 0 Rc)))) (if min k 64 = 64 then 0 else 0 + min k 64 * 1) (List.take (min m (64 - min k 64) * 1) (List.take (m * 1) (List.drop o d)))))), true, true, true, true]) := by kernel_rfl
theorem x3fo (s : Nat → Int) (n : Int) (d Rc : List AV) (o m q k : Nat) : (evVg Try.prog SB0 sy123 cvB 3 F36 60 (.inl p36_l0) (CTo (.sl (some (1, o)) m (.rel q)) (.sl (some (2, 0)) k (.fix 64)) s n d Rc) [Hint.is true, Hint.is false, Hint.is false, Hint.is false]).map (fun r => (r.1.1, (tidyV sy123 3 (F36 0) r.1.2).1, (tidyV sy123 3 (F36 0) r.1.2).2, r.2.2)) = some (.normal, CTo (.slE 1 o q (min m (64 - min k 64)) 1) (.sl none 0 (.fix 0)) (BL s (List.take 64 (List.drop 0 (spliceA (spliceA (z3 .u8 64) 0 (List.take (min k 64 * 1) (List.take (k * 1) (List.drop 0 Rc)))) (if min k 64 = 64 then 0 else 0 + min k 64 * 1) (List.take (min m (64 - min k 64) * 1) (List.take (m * 1) (List.drop o d))))))) n d Rc, [d.all (isInt .u8), Rc.all (isInt .u8), (spliceA (spliceA (z3 .u8 64) 0 (List.take (min k 64 * 1) (List.take (k * 1) (List.drop 0 Rc)))) (if min k 64 = 64 then 0 else 0 + min k 64 * 1) (List.take (min m (64 - min k 64) * 1) (List.take (m * 1) (List.drop o d)))).all (isInt .u8), d.all (isInt .u8), Rc.all (isInt .u8)], [List.all d (isInt IntKind.u8), List.all Rc (isInt IntKind.u8), List.all d (isInt IntKind.u8), List.all Rc (isInt IntKind.u8), decide ((↑m : Int) > 0) == true, ((↑k : Int) == 0) == false, true, decide (0 + k * 1 ≤ List.length Rc), List.all (List.take (k * 1) (List.drop 0 Rc)) AV.one, decide (0 + min k 64 * 1 ≤ List.length (z3 .u8 64)), true, decide ((↑(min k 64) : Int) ≤ (↑64 : Int)), decide (o + m * 1 ≤ List.length d), List.all (List.take (m * 1) (List.drop o d)) AV.one, decide ((if min k 64 = 64 then 0 else 0 + min k 64 * 1) + min m (64 - min k 64) * 1 ≤ List.length (spliceA (z3 .u8 64) 0 (List.take (min k 64 * 1) (List.take (k * 1) (List.drop 0 Rc))))), true, decide ((↑(min m (64 - min k 64)) : Int) ≤ (↑m : Int)), decide (min m (64 - min k 64) = m), !decide (min m (64 - min k 64) = 0), decide (IntKind.wrap IntKind.i64 ((↑(min k 64) : Int) + (↑(min m (64 - min k 64)) : Int)) < 64) == false, decide (0 + 64 ≤ List.length (spliceA (spliceA (z3 .u8 64) 0 (List.take (min k 64 * 1) (List.take (k * 1) (List.drop 0 Rc)))) (if min k 64 = 64 then 0 else 0 + min k 64 * 1) (List.take (min m (64 - min k 64) * 1) (List.take (m * 1) (List.drop o d))))), true, isInts IntKind.u8 64 (List.take 64 (List.drop 0 (spliceA (spliceA (z3 .u8 64) 0 (List.take (min k 64 * 1) (List.take (k * 1) (List.drop 0 Rc)))) (if min k 64 = 64 then 0 else 0 + min k 64 * 1) (List.take (min m (64 - min k 64) * 1) (List.take (m * 1) (List.drop o d)))))), true, true, true, true]) := by kernel_rfl
theorem x0r (s : Nat → Int) (n : Int) (d Rc : List AV) (o m q k : Nat) : (evVg Try.prog SB0 sy123 cvB 3 F36 60 (.inl p36_l0) (CTr (.sl (some (1, o)) m (.rel q)) (.sl none 0 (.fix 0)) s n d Rc) [Hint.is false]).map (fun r => (r.1.1, r.1.2.2, r.2.2)) = some (.exit 0, hTr s (.sl none 0 (.fix 0)) n d Rc, [List.all d (isInt IntKind.u8), List.all Rc (isInt IntKind.u8), List.all d (isInt IntKind.u8), List.all Rc (isInt IntKind.u8), decide ((↑m : Int) > 0) == false]) := by kernel_rfl
theorem xer (s : Nat → Int) (n : Int) (d Rc : List AV) (o m q k : Nat) : (evVg Try.prog SB0 sy123 cvB 3 F36 60 (.inl p36_l0) (CTr (.slE 1 o q m 1) (.sl none 0 (.fix 0)) s n d Rc) [Hint.lit]).map (fun r => (r.1.1, r.1.2.2, r.2.2)) = some (.exit 0, hTr s (.sl none 0 (.fix 0)) n d Rc, [List.all d (isInt IntKind.u8), List.all Rc (isInt IntKind.u8), List.all d (isInt IntKind.u8), List.all Rc (isInt IntKind.u8)]) := by kernel_rfl
theorem x1tr (s : Nat → Int) (n : Int) (d Rc : List AV) (o m q k : Nat) : (evVg Try.prog SB0 sy123 cvB 3 F36 60 (.inl p36_l0) (CTr (.sl (some (1, o)) m (.rel q)) (.sl none 0 (.fix 0)) s n d Rc) [Hint.is true, Hint.lit, Hint.is true, Hint.is true]).map (fun r => (r.1.1, (tidyV sy123 3 (F36 0) r.1.2).1, (tidyV sy123 3 (F36 0) r.1.2).2, r.2.2)) = some (.normal, CTr (.sl (some (1, o + 64 * 1)) (m - 64) (.rel (q + 64))) (.sl none 0 (.fix 0)) (BL s (List.take 64 (List.drop o d))) n d Rc, [d.all (isInt .u8), Rc.all (isInt .u8), d.all (isInt .u8), Rc.all (isInt .u8)], [List.all d (isInt IntKind.u8), List.all Rc (isInt IntKind.u8), List.all d (isInt IntKind.u8), List.all Rc (isInt IntKind.u8), decide ((↑m : Int) > 0) == true, decide ((↑m : Int) ≥ 64) == true, true, decide (64 ≤ (↑m : Int)), true, true, decide (o + 64 ≤ List.length d), true, isInts IntKind.u8 64 (List.take 64 (List.drop o d)), true, true, true, decide (64 ≤ (↑m : Int)), decide (64 < m)]) := by kernel_rfl
theorem x1fr (s : Nat → Int) (n : Int) (d Rc : List AV) (o m q k : Nat) : (evVg Try.prog SB0 sy123 cvB 3 F36 60 (.inl p36_l0) (CTr (.sl (some (1, o)) m (.rel q)) (.sl none 0 (.fix 0)) s n d Rc) [Hint.is true, Hint.lit, Hint.is true, Hint.is false]).map (fun r => (r.1.1, (tidyV sy123 3 (F36 0) r.1.2).1, (tidyV sy123 3 (F36 0) r.1.2).2, r.2.2)) = some (.normal, CTr (.slE 1 o q 64 1) (.sl none 0 (.fix 0)) (BL s (List.take 64 (List.drop o d))) n d Rc, [d.all (isInt .u8), Rc.all (isInt .u8), d.all (isInt .u8), Rc.all (isInt .u8)], [List.all d (isInt IntKind.u8), List.all Rc (isInt IntKind.u8), List.all d (isInt IntKind.u8), List.all Rc (isInt IntKind.u8), decide ((↑m : Int) > 0) == true, decide ((↑m : Int) ≥ 64) == true, true, decide (64 ≤ (↑m : Int)), true, true, decide (o + 64 ≤ List.length d), true, isInts IntKind.u8 64 (List.take 64 (List.drop o d)), true, true, true, decide (64 ≤ (↑m : Int)), decide (64 = m), true]) := by kernel_rfl
theorem x2r (s : Nat → Int) (n : Int) (d Rc : List AV) (o m q k : Nat) : (evVg Try.prog SB0 sy123 cvB 3 F36 60 (.inl p36_l0) (CTr (.sl (some (1, o)) m (.rel q)) (.sl none 0 (.fix 0)) s n d Rc) [Hint.is true, Hint.lit, Hint.is false, Hint.is false, Hint.is true]).map (fun r => (r.1.1, r.1.2.2, r.2.2)) = some (.ret, hTr s (.sl (some (3, 0)) (Int.toNat (IntKind.wrap .i64 (0 + ((min m 64 : Nat) : Int)))) (.fix 64)) n d Rc ++ [.row 26 64 (R64 (List.take (min m 64 * 1) (List.take (m * 1) (List.drop o d))))], [List.all d (isInt IntKind.u8), List.all Rc (isInt IntKind.u8), List.all d (isInt IntKind.u8), List.all Rc (isInt IntKind.u8), decide ((↑m : Int) > 0) == true, decide ((↑m : Int) ≥ 64) == false, true, true, true, true, true, decide (o + m * 1 ≤ List.length d), List.all (List.take (m * 1) (List.drop o d)) AV.one, decide (0 + min m 64 * 1 ≤ List.length (z3 .u8 64)), true, decide ((↑(min m 64) : Int) ≤ (↑m : Int)), decide (min m 64 = m), !decide (min m 64 = 0), decide (IntKind.wrap IntKind.i64 (0 + (↑(min m 64) : Int)) < 64) == true, decide (0 ≤ IntKind.wrap IntKind.i64 (0 + (↑(min m 64) : Int))), decide (IntKind.wrap IntKind.i64 (0 + (↑(min m 64) : Int)) ≤ (↑64 : Int)), true, true, true]) := by kernel_rfl
theorem x4r (s : Nat → Int) (n : Int) (d Rc : List AV) (o m q k : Nat) : (evVg Try.prog SB0 sy123 cvB 3 F36 60 (.inl p36_l0) (CTr (.sl (some (1, o)) m (.rel q)) (.sl (some (2, 0)) k (.fix 64)) s n d Rc) [Hint.is true, Hint.is false, Hint.is false, Hint.is true]).map (fun r => (r.1.1, r.1.2.2, r.2.2)) = some (.ret, hTr s (.sl (some (3, 0)) (Int.toNat (IntKind.wrap .i64 (((min k 64 : Nat) : Int) + (((min m (64 - min k 64)) : Nat) : Int)))) (.fix 64)) n d Rc ++ [.row 26 64 (spliceA (spliceA (z3 .u8 64) 0 (List.take (min k 64 * 1) (List.take (k * 1) (List.drop 0 Rc)))) (if min k 64 = 64 then 0 else 0 + min k 64 * 1) (List.take (min m (64 - min k 64) * 1) (List.take (m * 1) (List.drop o d))))], [List.all d (isInt IntKind.u8), List.all Rc (isInt IntKind.u8), List.all d (isInt IntKind.u8), List.all Rc (isInt IntKind.u8), decide ((↑m : Int) > 0) == true, ((↑k : Int) == 0) == false, true, decide (0 + k * 1 ≤ List.length Rc), List.all (List.take (k * 1) (List.drop 0 Rc)) AV.one, decide (0 + min k 64 * 1 ≤ List.length (z3 .u8 64)), true, decide ((↑(min k 64) : Int) ≤ (↑64 : Int)), decide (o + m * 1 ≤ List.length d), List.all (List.take (m * 1) (List.drop o d)) AV.one, decide ((if min k 64 = 64 then 0 else 0 + min k 64 * 1) + min m (64 - min k 64) * 1 ≤ List.length (spliceA (z3 .u8 64) 0 (List.take (min k 64 * 1) (List.take (k * 1) (List.drop 0 Rc))))), true, decide ((↑(min m (64 - min k 64)) : Int) ≤ (↑m : Int)), decide (min m (64 - min k 64) = m), !decide (min m (64 - min k 64) = 0), decide (IntKind.wrap IntKind.i64 ((↑(min k 64) : Int) + (↑(min m (64 - min k 64)) : Int)) < 64) == true, decide (0 ≤ IntKind.wrap IntKind.i64 ((↑(min k 64) : Int) + (↑(min m (64 - min k 64)) : Int))), decide (IntKind.wrap IntKind.i64 ((↑(min k 64) : Int) + (↑(min m (64 - min k 64)) : Int)) ≤ (↑64 : Int)), true, true, true]) := by kernel_rfl
theorem x5r (s : Nat → Int) (n : Int) (d Rc : List AV) (o m q k : Nat) : (evVg Try.prog SB0 sy123 cvB 3 F36 60 (.inl p36_l0) (CTr (.sl (some (1, o)) m (.rel q)) (.sl (some (2, 0)) k (.fix 64)) s n d Rc) [Hint.is false]).map (fun r => (r.1.1, r.1.2.2, r.2.2)) = some (.exit 0, hTr s (.sl (some (2, 0)) k (.fix 64)) n d Rc, [List.all d (isInt IntKind.u8), List.all Rc (isInt IntKind.u8), List.all d (isInt IntKind.u8), List.all Rc (isInt IntKind.u8), decide ((↑m : Int) > 0) == false]) := by kernel_rfl
theorem x3tr (s : Nat → Int) (n : Int) (d Rc : List AV) (o m q k : Nat) : (evVg Try.prog SB0 sy123 cvB 3 F36 60 (.inl p36_l0) (CTr (.sl (some (1, o)) m (.rel q)) (.sl (some (2, 0)) k (.fix 64)) s n d Rc) [Hint.is true, Hint.is false, Hint.is true, Hint.is false]).map (fun r => (r.1.1, (tidyV sy123 3 (F36 0) r.1.2).1, (tidyV sy123 3 (F36 0) r.1.2).2, r.2.2)) = some (.normal, CTr (.sl (some (1, o + (min m (64 - min k 64)) * 1)) (m - (min m (64 - min k 64))) (.rel (q + (min m (64 - min k 64))))) (.sl none 0 (.fix 0)) (BL s (List.take 64 (List.drop 0 (spliceA (spliceA (z3 .u8 64) 0 (List.take (min k 64 * 1) (List.take (k * 1) (List.drop 0 Rc)))) (if min k 64 = 64 then 0 else 0 + min k 64 * 1) (List.take (min m (64 - min k 64) * 1) (List.take (m * 1) (List.drop o d))))))) n d Rc, [d.all (isInt .u8), Rc.all (isInt .u8), (spliceA (spliceA (z3 .u8 64) 0 (List.take (min k 64 * 1) (List.take (k * 1) (List.drop 0 Rc)))) (if min k 64 = 64 then 0 else 0 + min k 64 * 1) (List.take (min m (64 - min k 64) * 1) (List.take (m * 1) (List.drop o d)))).all (isInt .u8), d.all (isInt .u8), Rc.all (isInt .u8)], [List.all d (isInt IntKind.u8), List.all Rc (isInt IntKind.u8), List.all d (isInt IntKind.u8), List.all Rc (isInt IntKind.u8), decide ((↑m : Int) > 0) == true, ((↑k : Int) == 0) == false, true, decide (0 + k * 1 ≤ List.length Rc), List.all (List.take (k * 1) (List.drop 0 Rc)) AV.one, decide (0 + min k 64 * 1 ≤ List.length (z3 .u8 64)), true, decide ((↑(min k 64) : Int) ≤ (↑64 : Int)), decide (o + m * 1 ≤ List.length d), List.all (List.take (m * 1) (List.drop o d)) AV.one, decide ((if min k 64 = 64 then 0 else 0 + min k 64 * 1) + min m (64 - min k 64) * 1 ≤ List.length (spliceA (z3 .u8 64) 0 (List.take (min k 64 * 1) (List.take (k * 1) (List.drop 0 Rc))))), true, decide ((↑(min m (64 - min k 64)) : Int) ≤ (↑m : Int)), decide (min m (64 - min k 64) < m), decide (IntKind.wrap IntKind.i64 ((↑(min k 64) : Int) + (↑(min m (64 - min k 64)) : Int)) < 64) == false, decide (0 + 64 ≤ List.length (spliceA (spliceA (z3 .u8 64) 0 (List.take (min k 64 * 1) (List.take (k * 1) (List.drop 0 Rc)))) (if min k 64 = 64 then 0 else 0 + min k 64 * 1) (List.take (min m (64 - min k 64) * 1) (List.take (m * 1) (List.drop o d))))), true, isInts IntKind.u8 64 (List.take 64 (List.drop 0 (spliceA (spliceA (z3 .u8 64) 0 (List.take (min k 64 * 1) (List.take (k * 1) (List.drop 0 Rc)))) (if min k 64 = 64 then 0 else 0 + min k 64 * 1) (List.take (min m (64 - min k 64) * 1) (List.take (m * 1) (List.drop o d)))))), true, true, true, true]) := by kernel_rfl
theorem x3fr (s : Nat → Int) (n : Int) (d Rc : List AV) (o m q k : Nat) : (evVg Try.prog SB0 sy123 cvB 3 F36 60 (.inl p36_l0) (CTr (.sl (some (1, o)) m (.rel q)) (.sl (some (2, 0)) k (.fix 64)) s n d Rc) [Hint.is true, Hint.is false, Hint.is false, Hint.is false]).map (fun r => (r.1.1, (tidyV sy123 3 (F36 0) r.1.2).1, (tidyV sy123 3 (F36 0) r.1.2).2, r.2.2)) = some (.normal, CTr (.slE 1 o q (min m (64 - min k 64)) 1) (.sl none 0 (.fix 0)) (BL s (List.take 64 (List.drop 0 (spliceA (spliceA (z3 .u8 64) 0 (List.take (min k 64 * 1) (List.take (k * 1) (List.drop 0 Rc)))) (if min k 64 = 64 then 0 else 0 + min k 64 * 1) (List.take (min m (64 - min k 64) * 1) (List.take (m * 1) (List.drop o d))))))) n d Rc, [d.all (isInt .u8), Rc.all (isInt .u8), (spliceA (spliceA (z3 .u8 64) 0 (List.take (min k 64 * 1) (List.take (k * 1) (List.drop 0 Rc)))) (if min k 64 = 64 then 0 else 0 + min k 64 * 1) (List.take (min m (64 - min k 64) * 1) (List.take (m * 1) (List.drop o d)))).all (isInt .u8), d.all (isInt .u8), Rc.all (isInt .u8)], [List.all d (isInt IntKind.u8), List.all Rc (isInt IntKind.u8), List.all d (isInt IntKind.u8), List.all Rc (isInt IntKind.u8), decide ((↑m : Int) > 0) == true, ((↑k : Int) == 0) == false, true, decide (0 + k * 1 ≤ List.length Rc), List.all (List.take (k * 1) (List.drop 0 Rc)) AV.one, decide (0 + min k 64 * 1 ≤ List.length (z3 .u8 64)), true, decide ((↑(min k 64) : Int) ≤ (↑64 : Int)), decide (o + m * 1 ≤ List.length d), List.all (List.take (m * 1) (List.drop o d)) AV.one, decide ((if min k 64 = 64 then 0 else 0 + min k 64 * 1) + min m (64 - min k 64) * 1 ≤ List.length (spliceA (z3 .u8 64) 0 (List.take (min k 64 * 1) (List.take (k * 1) (List.drop 0 Rc))))), true, decide ((↑(min m (64 - min k 64)) : Int) ≤ (↑m : Int)), decide (min m (64 - min k 64) = m), !decide (min m (64 - min k 64) = 0), decide (IntKind.wrap IntKind.i64 ((↑(min k 64) : Int) + (↑(min m (64 - min k 64)) : Int)) < 64) == false, decide (0 + 64 ≤ List.length (spliceA (spliceA (z3 .u8 64) 0 (List.take (min k 64 * 1) (List.take (k * 1) (List.drop 0 Rc)))) (if min k 64 = 64 then 0 else 0 + min k 64 * 1) (List.take (min m (64 - min k 64) * 1) (List.take (m * 1) (List.drop o d))))), true, isInts IntKind.u8 64 (List.take 64 (List.drop 0 (spliceA (spliceA (z3 .u8 64) 0 (List.take (min k 64 * 1) (List.take (k * 1) (List.drop 0 Rc)))) (if min k 64 = 64 then 0 else 0 + min k 64 * 1) (List.take (min m (64 - min k 64) * 1) (List.take (m * 1) (List.drop o d)))))), true, true, true, true]) := by kernel_rfl
theorem tie (s : Nat → Int) (n : Int) (d Rc : List AV) (o q m : Nat) : ((tidyV sy1 2 (F36 0) (CT (.slE 1 o q m 1) (.sl none 0 (.fix 0)) s n d)).1, (tidyV sy1 2 (F36 0) (CT (.slE 1 o q m 1) (.sl none 0 (.fix 0)) s n d)).2) = (CT (.slE 1 o q m 1) (.sl none 0 (.fix 0)) s n d, [d.all (isInt .u8), d.all (isInt .u8)]) := by kernel_rfl
theorem tis (s : Nat → Int) (n : Int) (d Rc : List AV) (o q m : Nat) : ((tidyV sy1 2 (F36 0) (CT (.sl (some (1, o)) m (.rel q)) (.sl none 0 (.fix 0)) s n d)).1, (tidyV sy1 2 (F36 0) (CT (.sl (some (1, o)) m (.rel q)) (.sl none 0 (.fix 0)) s n d)).2) = (CT (.sl (some (1, o)) m (.rel q)) (.sl none 0 (.fix 0)) s n d, [d.all (isInt .u8), d.all (isInt .u8)]) := by kernel_rfl
theorem tioe (s : Nat → Int) (n : Int) (d Rc : List AV) (o q m : Nat) : ((tidyV sy123 3 (F36 0) (CTo (.slE 1 o q m 1) (.sl none 0 (.fix 0)) s n d Rc)).1, (tidyV sy123 3 (F36 0) (CTo (.slE 1 o q m 1) (.sl none 0 (.fix 0)) s n d Rc)).2) = (CTo (.slE 1 o q m 1) (.sl none 0 (.fix 0)) s n d Rc, [d.all (isInt .u8), Rc.all (isInt .u8), d.all (isInt .u8), Rc.all (isInt .u8)]) := by kernel_rfl
theorem tios (s : Nat → Int) (n : Int) (d Rc : List AV) (o q m : Nat) : ((tidyV sy123 3 (F36 0) (CTo (.sl (some (1, o)) m (.rel q)) (.sl none 0 (.fix 0)) s n d Rc)).1, (tidyV sy123 3 (F36 0) (CTo (.sl (some (1, o)) m (.rel q)) (.sl none 0 (.fix 0)) s n d Rc)).2) = (CTo (.sl (some (1, o)) m (.rel q)) (.sl none 0 (.fix 0)) s n d Rc, [d.all (isInt .u8), Rc.all (isInt .u8), d.all (isInt .u8), Rc.all (isInt .u8)]) := by kernel_rfl
theorem tire (s : Nat → Int) (n : Int) (d Rc : List AV) (o q m : Nat) : ((tidyV sy123 3 (F36 0) (CTr (.slE 1 o q m 1) (.sl none 0 (.fix 0)) s n d Rc)).1, (tidyV sy123 3 (F36 0) (CTr (.slE 1 o q m 1) (.sl none 0 (.fix 0)) s n d Rc)).2) = (CTr (.slE 1 o q m 1) (.sl none 0 (.fix 0)) s n d Rc, [d.all (isInt .u8), Rc.all (isInt .u8), d.all (isInt .u8), Rc.all (isInt .u8)]) := by kernel_rfl
theorem tirs (s : Nat → Int) (n : Int) (d Rc : List AV) (o q m : Nat) : ((tidyV sy123 3 (F36 0) (CTr (.sl (some (1, o)) m (.rel q)) (.sl none 0 (.fix 0)) s n d Rc)).1, (tidyV sy123 3 (F36 0) (CTr (.sl (some (1, o)) m (.rel q)) (.sl none 0 (.fix 0)) s n d Rc)).2) = (CTr (.sl (some (1, o)) m (.rel q)) (.sl none 0 (.fix 0)) s n d Rc, [d.all (isInt .u8), Rc.all (isInt .u8), d.all (isInt .u8), Rc.all (isInt .u8)]) := by kernel_rfl

/- takes over the small memory of what its arguments reach: what it comes to. -/

theorem takeN (n : Int) (d Rc : List AV) (hd : d.all (isInt .u8) = true) : ∀ (f m o q : Nat) (s : Nat → Int), m ≤ f → o + m ≤ d.length →
    ∃ N e st', evG Try.prog SB0 2 F36 N (.inl (.loop p36_l0)) (CT (.sl (some (1, o)) m (.rel q)) (.sl none 0 (.fix 0)) s n d) = some (e, st') ∧ (e = .exit 0 ∨ e = .ret) ∧
      st'.2 = hT (absorb s ((d.drop o).take m)).1 (restV 2 (absorb s ((d.drop o).take m)).2) n d ++ restH (absorb s ((d.drop o).take m)).2 := by
  intro f
  induction f with
  | zero =>
    intro m o q s h1 h2
    obtain rfl : m = 0 := by omega
    have h := x0 s n d Rc o 0 q 0
    simp only [Option.map_eq_some_iff] at h
    obtain ⟨⟨⟨e, st'⟩, hs', cl⟩, a1, a2⟩ := h
    simp only [Prod.mk.injEq] at a2
    obtain ⟨rfl, a3, rfl⟩ := a2
    refine ⟨_, _, st', loop_stopg (evVg_ok _ _ _ _ cvB_ok _ _ a1 (by simp [hd])) (fun h => by cases h), .inl rfl, ?_⟩
    rw [a3, List.take_zero, absorb_end (by simp)]
    simp [restV, restH]
  | succ f ih =>
    intro m o q s h1 h2
    have hl : ((d.drop o).take m).length = m := by simp; omega
    rcases Nat.eq_zero_or_pos m with rfl | hpos
    · exact ih 0 o q s (by omega) h2
    · rcases Nat.lt_or_ge m 64 with g | g
      · have h := x2 s n d Rc o m q 0
        simp only [Option.map_eq_some_iff] at h
        obtain ⟨⟨⟨e, st'⟩, hs', cl⟩, a1, a2⟩ := h
        simp only [Prod.mk.injEq] at a2
        obtain ⟨rfl, a3, rfl⟩ := a2
        have ew : IntKind.wrap .i64 (0 + ((min m 64 : Nat) : Int)) = (m : Int) := by rw [IntKind.wrap_i64]; omega
        have hone : List.all (List.take (m * 1) (List.drop o d)) AV.one = true := ints_one (k := .u8) (all_sub hd fun v hv => List.mem_of_mem_drop (List.mem_of_mem_take hv))
        refine ⟨_, _, st', loop_stopg (evVg_ok _ _ _ _ cvB_ok _ _ a1 ?_) (fun h => by cases h), .inr rfl, ?_⟩
        · rw [ew]
          simp only [hd, hone, z3, ints_length, List.all_cons, List.all_nil, id, Bool.and_true, Bool.and_eq_true, decide_eq_true_eq, beq_iff_eq, decide_eq_false_iff_not, Bool.not_eq_true']
          simp
          omega
        · rw [a3, ew, absorb_end (by rw [hl]; exact g)]
          have e1 : List.take (min m 64 * 1) (List.take (m * 1) (List.drop o d)) = (d.drop o).take m := by
            rw [Nat.mul_one, Nat.mul_one, Nat.min_eq_left (by omega), List.take_take, Nat.min_self]
          rw [e1]
          have hne : (d.drop o).take m ≠ [] := fun h => by rw [h] at hl; simp at hl; omega
          obtain ⟨a, l, hal⟩ : ∃ a l, (d.drop o).take m = a :: l := by
            cases hx : (d.drop o).take m with
            | nil => exact absurd hx hne
            | cons a l => exact ⟨a, l, rfl⟩
          rw [hal] at hl
          rw [hal]
          simp only [restV, restH, hl, Int.toNat_natCast]
      · have hint : isInts IntKind.u8 64 (List.take 64 (List.drop o d)) = true := by
          simp only [isInts, Bool.and_eq_true, beq_iff_eq]
          exact ⟨by simp; omega, all_sub hd fun v hv => List.mem_of_mem_drop (List.mem_of_mem_take hv)⟩
        have et : ((d.drop o).take m).take 64 = (d.drop o).take 64 := by rw [List.take_take, Nat.min_eq_left g]
        rcases Nat.lt_or_ge 64 m with g2 | g2
        · have h := x1t s n d Rc o m q 0
          simp only [Option.map_eq_some_iff] at h
          obtain ⟨⟨⟨e, st'⟩, hs', cl⟩, a1, a2⟩ := h
          simp only [Prod.mk.injEq] at a2
          obtain ⟨rfl, a3, a4, rfl⟩ := a2
          have hev := evVg_ok _ _ _ _ cvB_ok _ _ a1 (by
            simp only [hd, hint, List.all_cons, List.all_nil, id, Bool.and_true, Bool.and_eq_true, decide_eq_true_eq, beq_iff_eq]
            simp
            omega)
          have ht := tidyV_ok (sy := sy1) (b := 2) (t := F36 0) (st := st') (by rw [a4]; simp [hd])
          rw [a3] at ht
          have hc := tis (BL s ((d.drop o).take 64)) n d Rc (o + 64 * 1) (q + 64) (m - 64)
          simp only [Prod.mk.injEq] at hc
          have ht2 := tidyV_ok (sy := sy1) (b := 2) (t := F36 0) (st := CT (.sl (some (1, o + 64 * 1)) (m - 64) (.rel (q + 64))) (.sl none 0 (.fix 0)) (BL s ((d.drop o).take 64)) n d) (by rw [hc.2]; simp [hd])
          rw [hc.1] at ht2
          obtain ⟨N, e2, st2, b1, b2, b3⟩ := ih (m - 64) (o + 64 * 1) (q + 64) (BL s ((d.drop o).take 64)) (by omega) (by omega)
          refine ⟨max 60 N + 1, e2, st2, loop_nextg (id := 0) rfl (evG_le hev (by omega)) (ht.trans ht2.symm) (evG_le b1 (by omega)), b2, ?_⟩
          have el : ((d.drop o).take m).drop 64 = (d.drop (o + 64 * 1)).take (m - 64) := by rw [List.drop_take, List.drop_drop]
          rw [absorb_more (s := s) (l := (d.drop o).take m) (by omega), el, et]
          exact b3
        · obtain rfl : m = 64 := by omega
          have h := x1f s n d Rc o 64 q 0
          simp only [Option.map_eq_some_iff] at h
          obtain ⟨⟨⟨e, st'⟩, hs', cl⟩, a1, a2⟩ := h
          simp only [Prod.mk.injEq] at a2
          obtain ⟨rfl, a3, a4, rfl⟩ := a2
          have hev := evVg_ok _ _ _ _ cvB_ok _ _ a1 (by
            simp only [hd, hint, List.all_cons, List.all_nil, id, Bool.and_true, Bool.and_eq_true, decide_eq_true_eq, beq_iff_eq]
            simp
            omega)
          have ht := tidyV_ok (sy := sy1) (b := 2) (t := F36 0) (st := st') (by rw [a4]; simp [hd])
          rw [a3] at ht
          have hc := tie (BL s ((d.drop o).take 64)) n d Rc o q 64
          simp only [Prod.mk.injEq] at hc
          have ht2 := tidyV_ok (sy := sy1) (b := 2) (t := F36 0) (st := CT (.slE 1 o q 64 1) (.sl none 0 (.fix 0)) (BL s ((d.drop o).take 64)) n d) (by rw [hc.2]; simp [hd])
          rw [hc.1] at ht2
          have h0 := xe (BL s ((d.drop o).take 64)) n d Rc o 64 q 0
          simp only [Option.map_eq_some_iff] at h0
          obtain ⟨⟨⟨e, st2⟩, hs2, cl2⟩, b1, b2⟩ := h0
          simp only [Prod.mk.injEq] at b2
          obtain ⟨rfl, b3, rfl⟩ := b2
          have hev2 := evVg_ok _ _ _ _ cvB_ok _ _ b1 (by simp [hd])
          refine ⟨62, _, st2, loop_nextg (n := 61) (id := 0) rfl (evG_le hev (by omega)) (ht.trans ht2.symm) (loop_stopg (n := 60) hev2 (fun h => by cases h)), .inl rfl, ?_⟩
          have en : ((d.drop o).take 64).drop 64 = [] := List.drop_eq_nil_of_le (by simp; omega)
          rw [b3, absorb_more (s := s) (l := (d.drop o).take 64) (by omega), et, en, absorb_end (by simp)]
          simp [restV, restH]
theorem takeNo (n : Int) (d Rc : List AV) (hd : d.all (isInt .u8) = true) (hR : Rc.all (isInt .u8) = true) : ∀ (f m o q : Nat) (s : Nat → Int), m ≤ f → o + m ≤ d.length →
    ∃ N e st', evG Try.prog SB0 3 F36 N (.inl (.loop p36_l0)) (CTo (.sl (some (1, o)) m (.rel q)) (.sl none 0 (.fix 0)) s n d Rc) = some (e, st') ∧ (e = .exit 0 ∨ e = .ret) ∧
      st'.2 = hTo (absorb s ((d.drop o).take m)).1 (restV 3 (absorb s ((d.drop o).take m)).2) n d Rc ++ restH (absorb s ((d.drop o).take m)).2 := by
  intro f
  induction f with
  | zero =>
    intro m o q s h1 h2
    obtain rfl : m = 0 := by omega
    have h := x0o s n d Rc o 0 q 0
    simp only [Option.map_eq_some_iff] at h
    obtain ⟨⟨⟨e, st'⟩, hs', cl⟩, a1, a2⟩ := h
    simp only [Prod.mk.injEq] at a2
    obtain ⟨rfl, a3, rfl⟩ := a2
    refine ⟨_, _, st', loop_stopg (evVg_ok _ _ _ _ cvB_ok _ _ a1 (by simp [hd, hR])) (fun h => by cases h), .inl rfl, ?_⟩
    rw [a3, List.take_zero, absorb_end (by simp)]
    simp [restV, restH]
  | succ f ih =>
    intro m o q s h1 h2
    have hl : ((d.drop o).take m).length = m := by simp; omega
    rcases Nat.eq_zero_or_pos m with rfl | hpos
    · exact ih 0 o q s (by omega) h2
    · rcases Nat.lt_or_ge m 64 with g | g
      · have h := x2o s n d Rc o m q 0
        simp only [Option.map_eq_some_iff] at h
        obtain ⟨⟨⟨e, st'⟩, hs', cl⟩, a1, a2⟩ := h
        simp only [Prod.mk.injEq] at a2
        obtain ⟨rfl, a3, rfl⟩ := a2
        have ew : IntKind.wrap .i64 (0 + ((min m 64 : Nat) : Int)) = (m : Int) := by rw [IntKind.wrap_i64]; omega
        have hone : List.all (List.take (m * 1) (List.drop o d)) AV.one = true := ints_one (k := .u8) (all_sub hd fun v hv => List.mem_of_mem_drop (List.mem_of_mem_take hv))
        refine ⟨_, _, st', loop_stopg (evVg_ok _ _ _ _ cvB_ok _ _ a1 ?_) (fun h => by cases h), .inr rfl, ?_⟩
        · rw [ew]
          simp only [hd, hR, hone, z3, ints_length, List.all_cons, List.all_nil, id, Bool.and_true, Bool.and_eq_true, decide_eq_true_eq, beq_iff_eq, decide_eq_false_iff_not, Bool.not_eq_true']
          simp
          omega
        · rw [a3, ew, absorb_end (by rw [hl]; exact g)]
          have e1 : List.take (min m 64 * 1) (List.take (m * 1) (List.drop o d)) = (d.drop o).take m := by
            rw [Nat.mul_one, Nat.mul_one, Nat.min_eq_left (by omega), List.take_take, Nat.min_self]
          rw [e1]
          have hne : (d.drop o).take m ≠ [] := fun h => by rw [h] at hl; simp at hl; omega
          obtain ⟨a, l, hal⟩ : ∃ a l, (d.drop o).take m = a :: l := by
            cases hx : (d.drop o).take m with
            | nil => exact absurd hx hne
            | cons a l => exact ⟨a, l, rfl⟩
          rw [hal] at hl
          rw [hal]
          simp only [restV, restH, hl, Int.toNat_natCast]
      · have hint : isInts IntKind.u8 64 (List.take 64 (List.drop o d)) = true := by
          simp only [isInts, Bool.and_eq_true, beq_iff_eq]
          exact ⟨by simp; omega, all_sub hd fun v hv => List.mem_of_mem_drop (List.mem_of_mem_take hv)⟩
        have et : ((d.drop o).take m).take 64 = (d.drop o).take 64 := by rw [List.take_take, Nat.min_eq_left g]
        rcases Nat.lt_or_ge 64 m with g2 | g2
        · have h := x1to s n d Rc o m q 0
          simp only [Option.map_eq_some_iff] at h
          obtain ⟨⟨⟨e, st'⟩, hs', cl⟩, a1, a2⟩ := h
          simp only [Prod.mk.injEq] at a2
          obtain ⟨rfl, a3, a4, rfl⟩ := a2
          have hev := evVg_ok _ _ _ _ cvB_ok _ _ a1 (by
            simp only [hd, hR, hint, List.all_cons, List.all_nil, id, Bool.and_true, Bool.and_eq_true, decide_eq_true_eq, beq_iff_eq]
            simp
            omega)
          have ht := tidyV_ok (sy := sy123) (b := 3) (t := F36 0) (st := st') (by rw [a4]; simp [hd, hR])
          rw [a3] at ht
          have hc := tios (BL s ((d.drop o).take 64)) n d Rc (o + 64 * 1) (q + 64) (m - 64)
          simp only [Prod.mk.injEq] at hc
          have ht2 := tidyV_ok (sy := sy123) (b := 3) (t := F36 0) (st := CTo (.sl (some (1, o + 64 * 1)) (m - 64) (.rel (q + 64))) (.sl none 0 (.fix 0)) (BL s ((d.drop o).take 64)) n d Rc) (by rw [hc.2]; simp [hd, hR])
          rw [hc.1] at ht2
          obtain ⟨N, e2, st2, b1, b2, b3⟩ := ih (m - 64) (o + 64 * 1) (q + 64) (BL s ((d.drop o).take 64)) (by omega) (by omega)
          refine ⟨max 60 N + 1, e2, st2, loop_nextg (id := 0) rfl (evG_le hev (by omega)) (ht.trans ht2.symm) (evG_le b1 (by omega)), b2, ?_⟩
          have el : ((d.drop o).take m).drop 64 = (d.drop (o + 64 * 1)).take (m - 64) := by rw [List.drop_take, List.drop_drop]
          rw [absorb_more (s := s) (l := (d.drop o).take m) (by omega), el, et]
          exact b3
        · obtain rfl : m = 64 := by omega
          have h := x1fo s n d Rc o 64 q 0
          simp only [Option.map_eq_some_iff] at h
          obtain ⟨⟨⟨e, st'⟩, hs', cl⟩, a1, a2⟩ := h
          simp only [Prod.mk.injEq] at a2
          obtain ⟨rfl, a3, a4, rfl⟩ := a2
          have hev := evVg_ok _ _ _ _ cvB_ok _ _ a1 (by
            simp only [hd, hR, hint, List.all_cons, List.all_nil, id, Bool.and_true, Bool.and_eq_true, decide_eq_true_eq, beq_iff_eq]
            simp
            omega)
          have ht := tidyV_ok (sy := sy123) (b := 3) (t := F36 0) (st := st') (by rw [a4]; simp [hd, hR])
          rw [a3] at ht
          have hc := tioe (BL s ((d.drop o).take 64)) n d Rc o q 64
          simp only [Prod.mk.injEq] at hc
          have ht2 := tidyV_ok (sy := sy123) (b := 3) (t := F36 0) (st := CTo (.slE 1 o q 64 1) (.sl none 0 (.fix 0)) (BL s ((d.drop o).take 64)) n d Rc) (by rw [hc.2]; simp [hd, hR])
          rw [hc.1] at ht2
          have h0 := xeo (BL s ((d.drop o).take 64)) n d Rc o 64 q 0
          simp only [Option.map_eq_some_iff] at h0
          obtain ⟨⟨⟨e, st2⟩, hs2, cl2⟩, b1, b2⟩ := h0
          simp only [Prod.mk.injEq] at b2
          obtain ⟨rfl, b3, rfl⟩ := b2
          have hev2 := evVg_ok _ _ _ _ cvB_ok _ _ b1 (by simp [hd, hR])
          refine ⟨62, _, st2, loop_nextg (n := 61) (id := 0) rfl (evG_le hev (by omega)) (ht.trans ht2.symm) (loop_stopg (n := 60) hev2 (fun h => by cases h)), .inl rfl, ?_⟩
          have en : ((d.drop o).take 64).drop 64 = [] := List.drop_eq_nil_of_le (by simp; omega)
          rw [b3, absorb_more (s := s) (l := (d.drop o).take 64) (by omega), et, en, absorb_end (by simp)]
          simp [restV, restH]
theorem takeNr (n : Int) (d Rc : List AV) (hd : d.all (isInt .u8) = true) (hR : Rc.all (isInt .u8) = true) : ∀ (f m o q : Nat) (s : Nat → Int), m ≤ f → o + m ≤ d.length →
    ∃ N e st', evG Try.prog SB0 3 F36 N (.inl (.loop p36_l0)) (CTr (.sl (some (1, o)) m (.rel q)) (.sl none 0 (.fix 0)) s n d Rc) = some (e, st') ∧ (e = .exit 0 ∨ e = .ret) ∧
      st'.2 = hTr (absorb s ((d.drop o).take m)).1 (restV 3 (absorb s ((d.drop o).take m)).2) n d Rc ++ restH (absorb s ((d.drop o).take m)).2 := by
  intro f
  induction f with
  | zero =>
    intro m o q s h1 h2
    obtain rfl : m = 0 := by omega
    have h := x0r s n d Rc o 0 q 0
    simp only [Option.map_eq_some_iff] at h
    obtain ⟨⟨⟨e, st'⟩, hs', cl⟩, a1, a2⟩ := h
    simp only [Prod.mk.injEq] at a2
    obtain ⟨rfl, a3, rfl⟩ := a2
    refine ⟨_, _, st', loop_stopg (evVg_ok _ _ _ _ cvB_ok _ _ a1 (by simp [hd, hR])) (fun h => by cases h), .inl rfl, ?_⟩
    rw [a3, List.take_zero, absorb_end (by simp)]
    simp [restV, restH]
  | succ f ih =>
    intro m o q s h1 h2
    have hl : ((d.drop o).take m).length = m := by simp; omega
    rcases Nat.eq_zero_or_pos m with rfl | hpos
    · exact ih 0 o q s (by omega) h2
    · rcases Nat.lt_or_ge m 64 with g | g
      · have h := x2r s n d Rc o m q 0
        simp only [Option.map_eq_some_iff] at h
        obtain ⟨⟨⟨e, st'⟩, hs', cl⟩, a1, a2⟩ := h
        simp only [Prod.mk.injEq] at a2
        obtain ⟨rfl, a3, rfl⟩ := a2
        have ew : IntKind.wrap .i64 (0 + ((min m 64 : Nat) : Int)) = (m : Int) := by rw [IntKind.wrap_i64]; omega
        have hone : List.all (List.take (m * 1) (List.drop o d)) AV.one = true := ints_one (k := .u8) (all_sub hd fun v hv => List.mem_of_mem_drop (List.mem_of_mem_take hv))
        refine ⟨_, _, st', loop_stopg (evVg_ok _ _ _ _ cvB_ok _ _ a1 ?_) (fun h => by cases h), .inr rfl, ?_⟩
        · rw [ew]
          simp only [hd, hR, hone, z3, ints_length, List.all_cons, List.all_nil, id, Bool.and_true, Bool.and_eq_true, decide_eq_true_eq, beq_iff_eq, decide_eq_false_iff_not, Bool.not_eq_true']
          simp
          omega
        · rw [a3, ew, absorb_end (by rw [hl]; exact g)]
          have e1 : List.take (min m 64 * 1) (List.take (m * 1) (List.drop o d)) = (d.drop o).take m := by
            rw [Nat.mul_one, Nat.mul_one, Nat.min_eq_left (by omega), List.take_take, Nat.min_self]
          rw [e1]
          have hne : (d.drop o).take m ≠ [] := fun h => by rw [h] at hl; simp at hl; omega
          obtain ⟨a, l, hal⟩ : ∃ a l, (d.drop o).take m = a :: l := by
            cases hx : (d.drop o).take m with
            | nil => exact absurd hx hne
            | cons a l => exact ⟨a, l, rfl⟩
          rw [hal] at hl
          rw [hal]
          simp only [restV, restH, hl, Int.toNat_natCast]
      · have hint : isInts IntKind.u8 64 (List.take 64 (List.drop o d)) = true := by
          simp only [isInts, Bool.and_eq_true, beq_iff_eq]
          exact ⟨by simp; omega, all_sub hd fun v hv => List.mem_of_mem_drop (List.mem_of_mem_take hv)⟩
        have et : ((d.drop o).take m).take 64 = (d.drop o).take 64 := by rw [List.take_take, Nat.min_eq_left g]
        rcases Nat.lt_or_ge 64 m with g2 | g2
        · have h := x1tr s n d Rc o m q 0
          simp only [Option.map_eq_some_iff] at h
          obtain ⟨⟨⟨e, st'⟩, hs', cl⟩, a1, a2⟩ := h
          simp only [Prod.mk.injEq] at a2
          obtain ⟨rfl, a3, a4, rfl⟩ := a2
          have hev := evVg_ok _ _ _ _ cvB_ok _ _ a1 (by
            simp only [hd, hR, hint, List.all_cons, List.all_nil, id, Bool.and_true, Bool.and_eq_true, decide_eq_true_eq, beq_iff_eq]
            simp
            omega)
          have ht := tidyV_ok (sy := sy123) (b := 3) (t := F36 0) (st := st') (by rw [a4]; simp [hd, hR])
          rw [a3] at ht
          have hc := tirs (BL s ((d.drop o).take 64)) n d Rc (o + 64 * 1) (q + 64) (m - 64)
          simp only [Prod.mk.injEq] at hc
          have ht2 := tidyV_ok (sy := sy123) (b := 3) (t := F36 0) (st := CTr (.sl (some (1, o + 64 * 1)) (m - 64) (.rel (q + 64))) (.sl none 0 (.fix 0)) (BL s ((d.drop o).take 64)) n d Rc) (by rw [hc.2]; simp [hd, hR])
          rw [hc.1] at ht2
          obtain ⟨N, e2, st2, b1, b2, b3⟩ := ih (m - 64) (o + 64 * 1) (q + 64) (BL s ((d.drop o).take 64)) (by omega) (by omega)
          refine ⟨max 60 N + 1, e2, st2, loop_nextg (id := 0) rfl (evG_le hev (by omega)) (ht.trans ht2.symm) (evG_le b1 (by omega)), b2, ?_⟩
          have el : ((d.drop o).take m).drop 64 = (d.drop (o + 64 * 1)).take (m - 64) := by rw [List.drop_take, List.drop_drop]
          rw [absorb_more (s := s) (l := (d.drop o).take m) (by omega), el, et]
          exact b3
        · obtain rfl : m = 64 := by omega
          have h := x1fr s n d Rc o 64 q 0
          simp only [Option.map_eq_some_iff] at h
          obtain ⟨⟨⟨e, st'⟩, hs', cl⟩, a1, a2⟩ := h
          simp only [Prod.mk.injEq] at a2
          obtain ⟨rfl, a3, a4, rfl⟩ := a2
          have hev := evVg_ok _ _ _ _ cvB_ok _ _ a1 (by
            simp only [hd, hR, hint, List.all_cons, List.all_nil, id, Bool.and_true, Bool.and_eq_true, decide_eq_true_eq, beq_iff_eq]
            simp
            omega)
          have ht := tidyV_ok (sy := sy123) (b := 3) (t := F36 0) (st := st') (by rw [a4]; simp [hd, hR])
          rw [a3] at ht
          have hc := tire (BL s ((d.drop o).take 64)) n d Rc o q 64
          simp only [Prod.mk.injEq] at hc
          have ht2 := tidyV_ok (sy := sy123) (b := 3) (t := F36 0) (st := CTr (.slE 1 o q 64 1) (.sl none 0 (.fix 0)) (BL s ((d.drop o).take 64)) n d Rc) (by rw [hc.2]; simp [hd, hR])
          rw [hc.1] at ht2
          have h0 := xer (BL s ((d.drop o).take 64)) n d Rc o 64 q 0
          simp only [Option.map_eq_some_iff] at h0
          obtain ⟨⟨⟨e, st2⟩, hs2, cl2⟩, b1, b2⟩ := h0
          simp only [Prod.mk.injEq] at b2
          obtain ⟨rfl, b3, rfl⟩ := b2
          have hev2 := evVg_ok _ _ _ _ cvB_ok _ _ b1 (by simp [hd, hR])
          refine ⟨62, _, st2, loop_nextg (n := 61) (id := 0) rfl (evG_le hev (by omega)) (ht.trans ht2.symm) (loop_stopg (n := 60) hev2 (fun h => by cases h)), .inl rfl, ?_⟩
          have en : ((d.drop o).take 64).drop 64 = [] := List.drop_eq_nil_of_le (by simp; omega)
          rw [b3, absorb_more (s := s) (l := (d.drop o).take 64) (by omega), et, en, absorb_end (by simp)]
          simp [restV, restH]

/- takes over the small memory, with bytes left over; the whole. -/

theorem blk_eq {l d : List AV} {o m : Nat} (h : l.length < 64) (ho : o + m ≤ d.length) : (spliceA (spliceA (z3 .u8 64) 0 (List.take (min l.length 64 * 1) (List.take (l.length * 1) (List.drop 0 (R64 l))))) (if min l.length 64 = 64 then 0 else 0 + min l.length 64 * 1) (List.take (min m (64 - min l.length 64) * 1) (List.take (m * 1) (List.drop o d)))) = R64 ((l ++ (d.drop o).take m).take 64) ∧ (l ++ (d.drop o).take m).length = l.length + m := by
  obtain ⟨h1, h2⟩ := R64_take h
  have mk : min l.length 64 = l.length := by omega
  have hz : (z3 .u8 64).length = 64 := by simp [z3, ints_length]
  refine ⟨?_, by simp; omega⟩
  simp only [mk, List.drop_zero, Nat.mul_one, h1, Nat.zero_add, if_neg (show ¬ l.length = 64 by omega), List.take_length]
  have e2 : List.take (min m (64 - l.length)) (List.take m (List.drop o d)) = ((d.drop o).take m).take (64 - l.length) := by
    rw [List.take_take, List.take_take]
    congr 1
    omega
  rw [e2]
  generalize hx : (d.drop o).take m = x
  have e3 : (l ++ x).take 64 = l ++ x.take (64 - l.length) := by rw [List.take_append, List.take_of_length_le (l := l) (by omega)]
  rw [e3]
  simp only [R64, spliceA, hz, List.take_zero, List.nil_append, Nat.zero_add, List.length_append]
  rw [List.take_append_of_le_length (Nat.le_refl _), List.take_length, List.drop_append, List.drop_eq_nil_of_le (by omega : l.length ≤ l.length + (List.take (64 - l.length) x).length), List.nil_append, List.drop_drop]
  congr 2
  omega
theorem R64_all {l : List AV} (hi : l.all (isInt .u8) = true) (h : l.length ≤ 64) : isInts .u8 64 (R64 l) = true := by
  simp only [isInts, Bool.and_eq_true, beq_iff_eq]
  have hz : (z3 .u8 64).length = 64 := by simp [z3, ints_length]
  exact ⟨by rw [R64, splice_len _ _ _ (by omega), hz], R64_ints hi⟩
theorem R64_full {l : List AV} (h : l.length = 64) : R64 l = l := by
  have hz : (z3 .u8 64).length = 64 := by simp [z3, ints_length]
  simp only [R64, spliceA, List.take_zero, List.nil_append, h, Nat.zero_add]
  rw [List.drop_eq_nil_of_le (by omega), List.append_nil]
theorem takeSo (n : Int) (d : List AV) (hd : d.all (isInt .u8) = true) (l : List AV) (hl : l.all (isInt .u8) = true) (h0 : 0 < l.length) (h64 : l.length < 64) (m o q : Nat) (s : Nat → Int) (hm : 0 < m) (ho : o + m ≤ d.length) :
    ∃ N e st', evG Try.prog SB0 3 F36 N (.inl (.loop p36_l0)) (CTo (.sl (some (1, o)) m (.rel q)) (.sl (some (2, 0)) l.length (.fix 64)) s n d (R64 l)) = some (e, st') ∧ (e = .exit 0 ∨ e = .ret) ∧
      st'.2 = hTo (absorb s (l ++ (d.drop o).take m)).1 (restV 3 (absorb s (l ++ (d.drop o).take m)).2) n d (R64 l) ++ restH (absorb s (l ++ (d.drop o).take m)).2 := by
  obtain ⟨q1, q2⟩ := R64_take h64
  have hR := R64_ints hl
  have mk : min l.length 64 = l.length := by omega
  have hne : ¬ l.length = 64 := by omega
  have hnil : l ≠ [] := fun h => by rw [h] at h0; simp at h0
  have hz : (z3 .u8 64).length = 64 := by simp [z3, ints_length]
  have hint : ((d.drop o).take m).all (isInt .u8) = true := all_sub hd fun v hv => List.mem_of_mem_drop (List.mem_of_mem_take hv)
  have hall : (l ++ (d.drop o).take m).all (isInt .u8) = true := by rw [List.all_append, hl, hint]; rfl
  obtain ⟨hB, hLen⟩ := blk_eq (l := l) (d := d) (o := o) (m := m) h64 ho
  have o1 : List.all (List.take (l.length * 1) (List.drop 0 (R64 l))) AV.one = true := ints_one (k := .u8) (all_sub hR fun v hv => List.mem_of_mem_drop (List.mem_of_mem_take hv))
  have o2 : List.all (List.take (m * 1) (List.drop o d)) AV.one = true := ints_one (k := .u8) (all_sub hd fun v hv => List.mem_of_mem_drop (List.mem_of_mem_take hv))
  have len1 : (spliceA (z3 .u8 64) 0 (List.take (min l.length 64 * 1) (List.take (l.length * 1) (List.drop 0 (R64 l))))).length = 64 := by
    rw [splice_len _ _ _ (by simp; omega), hz]
  have len1' : (spliceA (z3 .u8 64) 0 (List.take l.length (List.take l.length (R64 l)))).length = 64 := by
    rw [splice_len _ _ _ (by simp; omega), hz]
  have hBi : isInts .u8 64 (R64 ((l ++ (d.drop o).take m).take 64)) = true := R64_all (all_sub hall fun v hv => List.mem_of_mem_take hv) (by simp; omega)
  have hBi' := hBi
  simp only [isInts, Bool.and_eq_true, beq_iff_eq] at hBi'
  have hXi : isInts .u8 64 (List.take 64 (List.drop 0 (R64 ((l ++ (d.drop o).take m).take 64)))) = true := by
    rw [List.drop_zero, List.take_of_length_le (by omega)]
    exact hBi
  rcases Nat.lt_or_ge (l.length + m) 64 with g | g
  · have h := x4o s n d (R64 l) o m q l.length
    simp only [Option.map_eq_some_iff] at h
    obtain ⟨⟨⟨e, st'⟩, hs', cl⟩, a1, a2⟩ := h
    simp only [Prod.mk.injEq] at a2
    obtain ⟨rfl, a3, rfl⟩ := a2
    rw [hB] at a3
    have mm : min m (64 - l.length) = m := by omega
    have ew : IntKind.wrap .i64 ((l.length : Int) + (m : Int)) = ((l.length + m : Nat) : Int) := by rw [IntKind.wrap_i64]; omega
    refine ⟨_, _, st', loop_stopg (evVg_ok _ _ _ _ cvB_ok _ _ a1 ?_) (fun h => by cases h), .inr rfl, ?_⟩
    · simp only [mk, mm, ew, if_neg hne, hd, hR, o1, o2, len1, hz, q2, List.all_cons, List.all_nil, id, Bool.and_true, Bool.true_and, Bool.and_eq_true, decide_eq_true_eq, beq_iff_eq, Bool.not_eq_true', decide_eq_false_iff_not]
      simp [hnil, len1']
      omega
    · rw [a3, mk, mm, ew, absorb_end (by rw [hLen]; exact g)]
      obtain ⟨a, l', hal⟩ : ∃ a l', l ++ (d.drop o).take m = a :: l' := by
        cases hx : l ++ (d.drop o).take m with
        | nil => simp [hnil] at hx
        | cons a l' => exact ⟨a, l', rfl⟩
      rw [List.take_of_length_le (by omega), ← hLen, hal]
      simp only [restV, restH, Int.toNat_natCast]
  · have e64 : ((l ++ (d.drop o).take m).take 64).length = 64 := by simp; omega
    have eX : List.take 64 (List.drop 0 (R64 ((l ++ (d.drop o).take m).take 64))) = (l ++ (d.drop o).take m).take 64 := by
      rw [R64_full e64, List.drop_zero, List.take_take, Nat.min_self]
    have ew : IntKind.wrap .i64 ((l.length : Int) + ((64 - l.length : Nat) : Int)) = 64 := by rw [IntKind.wrap_i64]; omega
    have mm : min m (64 - l.length) = 64 - l.length := by omega
    rcases Nat.lt_or_ge 64 (l.length + m) with g2 | g2
    · have h := x3to s n d (R64 l) o m q l.length
      simp only [Option.map_eq_some_iff] at h
      obtain ⟨⟨⟨e, st'⟩, hs', cl⟩, a1, a2⟩ := h
      simp only [Prod.mk.injEq] at a2
      obtain ⟨rfl, a3, a4, rfl⟩ := a2
      rw [hB] at a1 a3 a4
      have hev := evVg_ok _ _ _ _ cvB_ok _ _ a1 (by
        simp only [mk, mm, if_neg hne, hd, hR, o1, o2, len1, hz, ew, hXi, hBi'.1, q2, List.all_cons, List.all_nil, id, Bool.and_true, Bool.true_and, Bool.and_eq_true, decide_eq_true_eq, beq_iff_eq, Bool.not_eq_true', decide_eq_false_iff_not]
        simp [hnil, len1']
        omega)
      have ht := tidyV_ok (sy := sy123) (b := 3) (t := F36 0) (st := st') (by rw [a4]; simp only [hd, hR, hBi'.2, List.all_cons, List.all_nil, id, Bool.and_self])
      rw [a3, eX] at ht
      simp only [mk, mm, Nat.mul_one] at ht
      have hc := tios (BL s ((l ++ (d.drop o).take m).take 64)) n d (R64 l) (o + (64 - l.length)) (q + (64 - l.length)) (m - (64 - l.length))
      simp only [Prod.mk.injEq] at hc
      have ht2 := tidyV_ok (sy := sy123) (b := 3) (t := F36 0) (st := CTo (.sl (some (1, o + (64 - l.length))) (m - (64 - l.length)) (.rel (q + (64 - l.length)))) (.sl none 0 (.fix 0)) (BL s ((l ++ (d.drop o).take m).take 64)) n d (R64 l)) (by rw [hc.2]; simp only [hd, hR, List.all_cons, List.all_nil, id, Bool.and_self])
      rw [hc.1] at ht2
      obtain ⟨N, e2, st2, b1, b2, b3⟩ := takeNo n d (R64 l) hd hR (m - (64 - l.length)) (m - (64 - l.length)) (o + (64 - l.length)) (q + (64 - l.length)) (BL s ((l ++ (d.drop o).take m).take 64)) (Nat.le_refl _) (by omega)
      refine ⟨max 60 N + 1, e2, st2, loop_nextg (id := 0) rfl (evG_le hev (by omega)) (ht.trans ht2.symm) (evG_le b1 (by omega)), b2, ?_⟩
      have el : (l ++ (d.drop o).take m).drop 64 = (d.drop (o + (64 - l.length))).take (m - (64 - l.length)) := by
        rw [List.drop_append, List.drop_eq_nil_of_le (by omega : l.length ≤ 64), List.nil_append, List.drop_take, List.drop_drop]
      rw [absorb_more (l := l ++ (d.drop o).take m) (by omega), el]
      exact b3
    · have h := x3fo s n d (R64 l) o m q l.length
      simp only [Option.map_eq_some_iff] at h
      obtain ⟨⟨⟨e, st'⟩, hs', cl⟩, a1, a2⟩ := h
      simp only [Prod.mk.injEq] at a2
      obtain ⟨rfl, a3, a4, rfl⟩ := a2
      rw [hB] at a1 a3 a4
      have hev := evVg_ok _ _ _ _ cvB_ok _ _ a1 (by
        simp only [mk, mm, if_neg hne, hd, hR, o1, o2, len1, hz, ew, hXi, hBi'.1, q2, List.all_cons, List.all_nil, id, Bool.and_true, Bool.true_and, Bool.and_eq_true, decide_eq_true_eq, beq_iff_eq, Bool.not_eq_true', decide_eq_false_iff_not]
        simp [hnil, len1']
        omega)
      have ht := tidyV_ok (sy := sy123) (b := 3) (t := F36 0) (st := st') (by rw [a4]; simp only [hd, hR, hBi'.2, List.all_cons, List.all_nil, id, Bool.and_self])
      rw [a3, eX] at ht
      have hc := tioe (BL s ((l ++ (d.drop o).take m).take 64)) n d (R64 l) o q (min m (64 - min l.length 64))
      simp only [Prod.mk.injEq] at hc
      have ht2 := tidyV_ok (sy := sy123) (b := 3) (t := F36 0) (st := CTo (.slE 1 o q (min m (64 - min l.length 64)) 1) (.sl none 0 (.fix 0)) (BL s ((l ++ (d.drop o).take m).take 64)) n d (R64 l)) (by rw [hc.2]; simp only [hd, hR, List.all_cons, List.all_nil, id, Bool.and_self])
      rw [hc.1] at ht2
      have h0 := xeo (BL s ((l ++ (d.drop o).take m).take 64)) n d (R64 l) o (min m (64 - min l.length 64)) q 0
      simp only [Option.map_eq_some_iff] at h0
      obtain ⟨⟨⟨e, st2⟩, hs2, cl2⟩, b1, b2⟩ := h0
      simp only [Prod.mk.injEq] at b2
      obtain ⟨rfl, b3, rfl⟩ := b2
      have hev2 := evVg_ok _ _ _ _ cvB_ok _ _ b1 (by simp [hd, hR])
      refine ⟨62, _, st2, loop_nextg (n := 61) (id := 0) rfl (evG_le hev (by omega)) (ht.trans ht2.symm) (loop_stopg (n := 60) hev2 (fun h => by cases h)), .inl rfl, ?_⟩
      have en : (l ++ (d.drop o).take m).drop 64 = [] := List.drop_eq_nil_of_le (by omega)
      rw [b3, absorb_more (l := l ++ (d.drop o).take m) (by omega), en, absorb_end (by simp)]
      simp [restV, restH]
theorem takeSr (n : Int) (d : List AV) (hd : d.all (isInt .u8) = true) (l : List AV) (hl : l.all (isInt .u8) = true) (h0 : 0 < l.length) (h64 : l.length < 64) (m o q : Nat) (s : Nat → Int) (hm : 0 < m) (ho : o + m ≤ d.length) :
    ∃ N e st', evG Try.prog SB0 3 F36 N (.inl (.loop p36_l0)) (CTr (.sl (some (1, o)) m (.rel q)) (.sl (some (2, 0)) l.length (.fix 64)) s n d (R64 l)) = some (e, st') ∧ (e = .exit 0 ∨ e = .ret) ∧
      st'.2 = hTr (absorb s (l ++ (d.drop o).take m)).1 (restV 3 (absorb s (l ++ (d.drop o).take m)).2) n d (R64 l) ++ restH (absorb s (l ++ (d.drop o).take m)).2 := by
  obtain ⟨q1, q2⟩ := R64_take h64
  have hR := R64_ints hl
  have mk : min l.length 64 = l.length := by omega
  have hne : ¬ l.length = 64 := by omega
  have hnil : l ≠ [] := fun h => by rw [h] at h0; simp at h0
  have hz : (z3 .u8 64).length = 64 := by simp [z3, ints_length]
  have hint : ((d.drop o).take m).all (isInt .u8) = true := all_sub hd fun v hv => List.mem_of_mem_drop (List.mem_of_mem_take hv)
  have hall : (l ++ (d.drop o).take m).all (isInt .u8) = true := by rw [List.all_append, hl, hint]; rfl
  obtain ⟨hB, hLen⟩ := blk_eq (l := l) (d := d) (o := o) (m := m) h64 ho
  have o1 : List.all (List.take (l.length * 1) (List.drop 0 (R64 l))) AV.one = true := ints_one (k := .u8) (all_sub hR fun v hv => List.mem_of_mem_drop (List.mem_of_mem_take hv))
  have o2 : List.all (List.take (m * 1) (List.drop o d)) AV.one = true := ints_one (k := .u8) (all_sub hd fun v hv => List.mem_of_mem_drop (List.mem_of_mem_take hv))
  have len1 : (spliceA (z3 .u8 64) 0 (List.take (min l.length 64 * 1) (List.take (l.length * 1) (List.drop 0 (R64 l))))).length = 64 := by
    rw [splice_len _ _ _ (by simp; omega), hz]
  have len1' : (spliceA (z3 .u8 64) 0 (List.take l.length (List.take l.length (R64 l)))).length = 64 := by
    rw [splice_len _ _ _ (by simp; omega), hz]
  have hBi : isInts .u8 64 (R64 ((l ++ (d.drop o).take m).take 64)) = true := R64_all (all_sub hall fun v hv => List.mem_of_mem_take hv) (by simp; omega)
  have hBi' := hBi
  simp only [isInts, Bool.and_eq_true, beq_iff_eq] at hBi'
  have hXi : isInts .u8 64 (List.take 64 (List.drop 0 (R64 ((l ++ (d.drop o).take m).take 64)))) = true := by
    rw [List.drop_zero, List.take_of_length_le (by omega)]
    exact hBi
  rcases Nat.lt_or_ge (l.length + m) 64 with g | g
  · have h := x4r s n d (R64 l) o m q l.length
    simp only [Option.map_eq_some_iff] at h
    obtain ⟨⟨⟨e, st'⟩, hs', cl⟩, a1, a2⟩ := h
    simp only [Prod.mk.injEq] at a2
    obtain ⟨rfl, a3, rfl⟩ := a2
    rw [hB] at a3
    have mm : min m (64 - l.length) = m := by omega
    have ew : IntKind.wrap .i64 ((l.length : Int) + (m : Int)) = ((l.length + m : Nat) : Int) := by rw [IntKind.wrap_i64]; omega
    refine ⟨_, _, st', loop_stopg (evVg_ok _ _ _ _ cvB_ok _ _ a1 ?_) (fun h => by cases h), .inr rfl, ?_⟩
    · simp only [mk, mm, ew, if_neg hne, hd, hR, o1, o2, len1, hz, q2, List.all_cons, List.all_nil, id, Bool.and_true, Bool.true_and, Bool.and_eq_true, decide_eq_true_eq, beq_iff_eq, Bool.not_eq_true', decide_eq_false_iff_not]
      simp [hnil, len1']
      omega
    · rw [a3, mk, mm, ew, absorb_end (by rw [hLen]; exact g)]
      obtain ⟨a, l', hal⟩ : ∃ a l', l ++ (d.drop o).take m = a :: l' := by
        cases hx : l ++ (d.drop o).take m with
        | nil => simp [hnil] at hx
        | cons a l' => exact ⟨a, l', rfl⟩
      rw [List.take_of_length_le (by omega), ← hLen, hal]
      simp only [restV, restH, Int.toNat_natCast]
  · have e64 : ((l ++ (d.drop o).take m).take 64).length = 64 := by simp; omega
    have eX : List.take 64 (List.drop 0 (R64 ((l ++ (d.drop o).take m).take 64))) = (l ++ (d.drop o).take m).take 64 := by
      rw [R64_full e64, List.drop_zero, List.take_take, Nat.min_self]
    have ew : IntKind.wrap .i64 ((l.length : Int) + ((64 - l.length : Nat) : Int)) = 64 := by rw [IntKind.wrap_i64]; omega
    have mm : min m (64 - l.length) = 64 - l.length := by omega
    rcases Nat.lt_or_ge 64 (l.length + m) with g2 | g2
    · have h := x3tr s n d (R64 l) o m q l.length
      simp only [Option.map_eq_some_iff] at h
      obtain ⟨⟨⟨e, st'⟩, hs', cl⟩, a1, a2⟩ := h
      simp only [Prod.mk.injEq] at a2
      obtain ⟨rfl, a3, a4, rfl⟩ := a2
      rw [hB] at a1 a3 a4
      have hev := evVg_ok _ _ _ _ cvB_ok _ _ a1 (by
        simp only [mk, mm, if_neg hne, hd, hR, o1, o2, len1, hz, ew, hXi, hBi'.1, q2, List.all_cons, List.all_nil, id, Bool.and_true, Bool.true_and, Bool.and_eq_true, decide_eq_true_eq, beq_iff_eq, Bool.not_eq_true', decide_eq_false_iff_not]
        simp [hnil, len1']
        omega)
      have ht := tidyV_ok (sy := sy123) (b := 3) (t := F36 0) (st := st') (by rw [a4]; simp only [hd, hR, hBi'.2, List.all_cons, List.all_nil, id, Bool.and_self])
      rw [a3, eX] at ht
      simp only [mk, mm, Nat.mul_one] at ht
      have hc := tirs (BL s ((l ++ (d.drop o).take m).take 64)) n d (R64 l) (o + (64 - l.length)) (q + (64 - l.length)) (m - (64 - l.length))
      simp only [Prod.mk.injEq] at hc
      have ht2 := tidyV_ok (sy := sy123) (b := 3) (t := F36 0) (st := CTr (.sl (some (1, o + (64 - l.length))) (m - (64 - l.length)) (.rel (q + (64 - l.length)))) (.sl none 0 (.fix 0)) (BL s ((l ++ (d.drop o).take m).take 64)) n d (R64 l)) (by rw [hc.2]; simp only [hd, hR, List.all_cons, List.all_nil, id, Bool.and_self])
      rw [hc.1] at ht2
      obtain ⟨N, e2, st2, b1, b2, b3⟩ := takeNr n d (R64 l) hd hR (m - (64 - l.length)) (m - (64 - l.length)) (o + (64 - l.length)) (q + (64 - l.length)) (BL s ((l ++ (d.drop o).take m).take 64)) (Nat.le_refl _) (by omega)
      refine ⟨max 60 N + 1, e2, st2, loop_nextg (id := 0) rfl (evG_le hev (by omega)) (ht.trans ht2.symm) (evG_le b1 (by omega)), b2, ?_⟩
      have el : (l ++ (d.drop o).take m).drop 64 = (d.drop (o + (64 - l.length))).take (m - (64 - l.length)) := by
        rw [List.drop_append, List.drop_eq_nil_of_le (by omega : l.length ≤ 64), List.nil_append, List.drop_take, List.drop_drop]
      rw [absorb_more (l := l ++ (d.drop o).take m) (by omega), el]
      exact b3
    · have h := x3fr s n d (R64 l) o m q l.length
      simp only [Option.map_eq_some_iff] at h
      obtain ⟨⟨⟨e, st'⟩, hs', cl⟩, a1, a2⟩ := h
      simp only [Prod.mk.injEq] at a2
      obtain ⟨rfl, a3, a4, rfl⟩ := a2
      rw [hB] at a1 a3 a4
      have hev := evVg_ok _ _ _ _ cvB_ok _ _ a1 (by
        simp only [mk, mm, if_neg hne, hd, hR, o1, o2, len1, hz, ew, hXi, hBi'.1, q2, List.all_cons, List.all_nil, id, Bool.and_true, Bool.true_and, Bool.and_eq_true, decide_eq_true_eq, beq_iff_eq, Bool.not_eq_true', decide_eq_false_iff_not]
        simp [hnil, len1']
        omega)
      have ht := tidyV_ok (sy := sy123) (b := 3) (t := F36 0) (st := st') (by rw [a4]; simp only [hd, hR, hBi'.2, List.all_cons, List.all_nil, id, Bool.and_self])
      rw [a3, eX] at ht
      have hc := tire (BL s ((l ++ (d.drop o).take m).take 64)) n d (R64 l) o q (min m (64 - min l.length 64))
      simp only [Prod.mk.injEq] at hc
      have ht2 := tidyV_ok (sy := sy123) (b := 3) (t := F36 0) (st := CTr (.slE 1 o q (min m (64 - min l.length 64)) 1) (.sl none 0 (.fix 0)) (BL s ((l ++ (d.drop o).take m).take 64)) n d (R64 l)) (by rw [hc.2]; simp only [hd, hR, List.all_cons, List.all_nil, id, Bool.and_self])
      rw [hc.1] at ht2
      have h0 := xer (BL s ((l ++ (d.drop o).take m).take 64)) n d (R64 l) o (min m (64 - min l.length 64)) q 0
      simp only [Option.map_eq_some_iff] at h0
      obtain ⟨⟨⟨e, st2⟩, hs2, cl2⟩, b1, b2⟩ := h0
      simp only [Prod.mk.injEq] at b2
      obtain ⟨rfl, b3, rfl⟩ := b2
      have hev2 := evVg_ok _ _ _ _ cvB_ok _ _ b1 (by simp [hd, hR])
      refine ⟨62, _, st2, loop_nextg (n := 61) (id := 0) rfl (evG_le hev (by omega)) (ht.trans ht2.symm) (loop_stopg (n := 60) hev2 (fun h => by cases h)), .inl rfl, ?_⟩
      have en : (l ++ (d.drop o).take m).drop 64 = [] := List.drop_eq_nil_of_le (by omega)
      rw [b3, absorb_more (l := l ++ (d.drop o).take m) (by omega), en, absorb_end (by simp)]
      simp [restV, restH]
theorem runN (n : Int) (d : List AV) (hd : d.all (isInt .u8) = true) (m o q : Nat) (l : List AV) (s : Nat → Int) (ho : o + m ≤ d.length) :
    ∃ N, runG Try.prog SB0 F36 N p36 [.ptr (some (0, 0)), .sl (some (1, o)) m (.rel q)] (hT s (.sl none 0 (.fix 0)) n d) =
      some (.tup [], hT (absorb s ((d.drop o).take m)).1 (restV 2 (absorb s ((d.drop o).take m)).2) n d ++ restH (absorb s ((d.drop o).take m)).2) := by
  obtain ⟨N, e, st', a1, a2, a3⟩ := takeN n d (R64 l) hd m m o q s (Nat.le_refl _) ho
  have a1' : evG Try.prog SB0 (hT s (.sl none 0 (.fix 0)) n d).length F36 N (.inl (.loop p36_l0)) ([.ptr (some (0, 0)), .sl (some (1, o)) m (.rel q)] ++ List.replicate (p36.ntmps - [AV.ptr (some (0, 0)), .sl (some (1, o)) m (.rel q)].length) .any, hT s (.sl none 0 (.fix 0)) n d) = some (e, st') := a1
  rw [← a3]
  rcases a2 with rfl | rfl
  · exact ⟨N + 1, by unfold runG; rw [show p36.body = .block 0 (.loop p36_l0) from rfl, block_stopg a1']; rfl⟩
  · exact ⟨N + 1, by unfold runG; rw [show p36.body = .block 0 (.loop p36_l0) from rfl, block_passg a1']; rfl⟩
theorem runNo (n : Int) (d : List AV) (hd : d.all (isInt .u8) = true) (m o q : Nat) (l : List AV) (hl : l.all (isInt .u8) = true) (s : Nat → Int) (ho : o + m ≤ d.length) :
    ∃ N, runG Try.prog SB0 F36 N p36 [.ptr (some (0, 0)), .sl (some (1, o)) m (.rel q)] (hTo s (.sl none 0 (.fix 0)) n d (R64 l)) =
      some (.tup [], hTo (absorb s ((d.drop o).take m)).1 (restV 3 (absorb s ((d.drop o).take m)).2) n d (R64 l) ++ restH (absorb s ((d.drop o).take m)).2) := by
  obtain ⟨N, e, st', a1, a2, a3⟩ := takeNo n d (R64 l) hd (R64_ints hl) m m o q s (Nat.le_refl _) ho
  have a1' : evG Try.prog SB0 (hTo s (.sl none 0 (.fix 0)) n d (R64 l)).length F36 N (.inl (.loop p36_l0)) ([.ptr (some (0, 0)), .sl (some (1, o)) m (.rel q)] ++ List.replicate (p36.ntmps - [AV.ptr (some (0, 0)), .sl (some (1, o)) m (.rel q)].length) .any, hTo s (.sl none 0 (.fix 0)) n d (R64 l)) = some (e, st') := a1
  rw [← a3]
  rcases a2 with rfl | rfl
  · exact ⟨N + 1, by unfold runG; rw [show p36.body = .block 0 (.loop p36_l0) from rfl, block_stopg a1']; rfl⟩
  · exact ⟨N + 1, by unfold runG; rw [show p36.body = .block 0 (.loop p36_l0) from rfl, block_passg a1']; rfl⟩
theorem runSo (n : Int) (d : List AV) (hd : d.all (isInt .u8) = true) (m o q : Nat) (l : List AV) (hl : l.all (isInt .u8) = true) (h0 : 0 < l.length) (h64 : l.length < 64) (hm : 0 < m) (s : Nat → Int) (ho : o + m ≤ d.length) :
    ∃ N, runG Try.prog SB0 F36 N p36 [.ptr (some (0, 0)), .sl (some (1, o)) m (.rel q)] (hTo s (.sl (some (2, 0)) l.length (.fix 64)) n d (R64 l)) =
      some (.tup [], hTo (absorb s (l ++ (d.drop o).take m)).1 (restV 3 (absorb s (l ++ (d.drop o).take m)).2) n d (R64 l) ++ restH (absorb s (l ++ (d.drop o).take m)).2) := by
  obtain ⟨N, e, st', a1, a2, a3⟩ := takeSo n d hd l hl h0 h64 m o q s hm ho
  have a1' : evG Try.prog SB0 (hTo s (.sl (some (2, 0)) l.length (.fix 64)) n d (R64 l)).length F36 N (.inl (.loop p36_l0)) ([.ptr (some (0, 0)), .sl (some (1, o)) m (.rel q)] ++ List.replicate (p36.ntmps - [AV.ptr (some (0, 0)), .sl (some (1, o)) m (.rel q)].length) .any, hTo s (.sl (some (2, 0)) l.length (.fix 64)) n d (R64 l)) = some (e, st') := a1
  rw [← a3]
  rcases a2 with rfl | rfl
  · exact ⟨N + 1, by unfold runG; rw [show p36.body = .block 0 (.loop p36_l0) from rfl, block_stopg a1']; rfl⟩
  · exact ⟨N + 1, by unfold runG; rw [show p36.body = .block 0 (.loop p36_l0) from rfl, block_passg a1']; rfl⟩
theorem run0o (n : Int) (d : List AV) (hd : d.all (isInt .u8) = true) (o q : Nat) (l : List AV) (hl : l.all (isInt .u8) = true) (s : Nat → Int) :
    ∃ N, runG Try.prog SB0 F36 N p36 [.ptr (some (0, 0)), .sl (some (1, o)) 0 (.rel q)] (hTo s (.sl (some (2, 0)) l.length (.fix 64)) n d (R64 l)) = some (.tup [], hTo s (.sl (some (2, 0)) l.length (.fix 64)) n d (R64 l)) := by
  have hR := R64_ints hl
  have h := x5o s n d (R64 l) o 0 q l.length
  simp only [Option.map_eq_some_iff] at h
  obtain ⟨⟨⟨e, st'⟩, hs', cl⟩, a1, a2⟩ := h
  simp only [Prod.mk.injEq] at a2
  obtain ⟨rfl, a3, rfl⟩ := a2
  have a1' := loop_stopg (n := 60) (evVg_ok _ _ _ _ cvB_ok _ _ a1 (by simp only [hd, hR, List.all_cons, List.all_nil, id]; simp)) (fun h => by cases h)
  have a1'' : evG Try.prog SB0 (hTo s (.sl (some (2, 0)) l.length (.fix 64)) n d (R64 l)).length F36 61 (.inl (.loop p36_l0)) ([.ptr (some (0, 0)), .sl (some (1, o)) 0 (.rel q)] ++ List.replicate (p36.ntmps - [AV.ptr (some (0, 0)), .sl (some (1, o)) 0 (.rel q)].length) .any, hTo s (.sl (some (2, 0)) l.length (.fix 64)) n d (R64 l)) = some (.exit 0, st') := a1'
  exact ⟨62, by unfold runG; rw [show p36.body = .block 0 (.loop p36_l0) from rfl, block_stopg a1'']; exact congrArg (fun x => some (AV.tup [], x)) a3⟩
theorem runNr (n : Int) (d : List AV) (hd : d.all (isInt .u8) = true) (m o q : Nat) (l : List AV) (hl : l.all (isInt .u8) = true) (s : Nat → Int) (ho : o + m ≤ d.length) :
    ∃ N, runG Try.prog SB0 F36 N p36 [.ptr (some (0, 0)), .sl (some (1, o)) m (.rel q)] (hTr s (.sl none 0 (.fix 0)) n d (R64 l)) =
      some (.tup [], hTr (absorb s ((d.drop o).take m)).1 (restV 3 (absorb s ((d.drop o).take m)).2) n d (R64 l) ++ restH (absorb s ((d.drop o).take m)).2) := by
  obtain ⟨N, e, st', a1, a2, a3⟩ := takeNr n d (R64 l) hd (R64_ints hl) m m o q s (Nat.le_refl _) ho
  have a1' : evG Try.prog SB0 (hTr s (.sl none 0 (.fix 0)) n d (R64 l)).length F36 N (.inl (.loop p36_l0)) ([.ptr (some (0, 0)), .sl (some (1, o)) m (.rel q)] ++ List.replicate (p36.ntmps - [AV.ptr (some (0, 0)), .sl (some (1, o)) m (.rel q)].length) .any, hTr s (.sl none 0 (.fix 0)) n d (R64 l)) = some (e, st') := a1
  rw [← a3]
  rcases a2 with rfl | rfl
  · exact ⟨N + 1, by unfold runG; rw [show p36.body = .block 0 (.loop p36_l0) from rfl, block_stopg a1']; rfl⟩
  · exact ⟨N + 1, by unfold runG; rw [show p36.body = .block 0 (.loop p36_l0) from rfl, block_passg a1']; rfl⟩
theorem runSr (n : Int) (d : List AV) (hd : d.all (isInt .u8) = true) (m o q : Nat) (l : List AV) (hl : l.all (isInt .u8) = true) (h0 : 0 < l.length) (h64 : l.length < 64) (hm : 0 < m) (s : Nat → Int) (ho : o + m ≤ d.length) :
    ∃ N, runG Try.prog SB0 F36 N p36 [.ptr (some (0, 0)), .sl (some (1, o)) m (.rel q)] (hTr s (.sl (some (2, 0)) l.length (.fix 64)) n d (R64 l)) =
      some (.tup [], hTr (absorb s (l ++ (d.drop o).take m)).1 (restV 3 (absorb s (l ++ (d.drop o).take m)).2) n d (R64 l) ++ restH (absorb s (l ++ (d.drop o).take m)).2) := by
  obtain ⟨N, e, st', a1, a2, a3⟩ := takeSr n d hd l hl h0 h64 m o q s hm ho
  have a1' : evG Try.prog SB0 (hTr s (.sl (some (2, 0)) l.length (.fix 64)) n d (R64 l)).length F36 N (.inl (.loop p36_l0)) ([.ptr (some (0, 0)), .sl (some (1, o)) m (.rel q)] ++ List.replicate (p36.ntmps - [AV.ptr (some (0, 0)), .sl (some (1, o)) m (.rel q)].length) .any, hTr s (.sl (some (2, 0)) l.length (.fix 64)) n d (R64 l)) = some (e, st') := a1
  rw [← a3]
  rcases a2 with rfl | rfl
  · exact ⟨N + 1, by unfold runG; rw [show p36.body = .block 0 (.loop p36_l0) from rfl, block_stopg a1']; rfl⟩
  · exact ⟨N + 1, by unfold runG; rw [show p36.body = .block 0 (.loop p36_l0) from rfl, block_passg a1']; rfl⟩
theorem run0r (n : Int) (d : List AV) (hd : d.all (isInt .u8) = true) (o q : Nat) (l : List AV) (hl : l.all (isInt .u8) = true) (s : Nat → Int) :
    ∃ N, runG Try.prog SB0 F36 N p36 [.ptr (some (0, 0)), .sl (some (1, o)) 0 (.rel q)] (hTr s (.sl (some (2, 0)) l.length (.fix 64)) n d (R64 l)) = some (.tup [], hTr s (.sl (some (2, 0)) l.length (.fix 64)) n d (R64 l)) := by
  have hR := R64_ints hl
  have h := x5r s n d (R64 l) o 0 q l.length
  simp only [Option.map_eq_some_iff] at h
  obtain ⟨⟨⟨e, st'⟩, hs', cl⟩, a1, a2⟩ := h
  simp only [Prod.mk.injEq] at a2
  obtain ⟨rfl, a3, rfl⟩ := a2
  have a1' := loop_stopg (n := 60) (evVg_ok _ _ _ _ cvB_ok _ _ a1 (by simp only [hd, hR, List.all_cons, List.all_nil, id]; simp)) (fun h => by cases h)
  have a1'' : evG Try.prog SB0 (hTr s (.sl (some (2, 0)) l.length (.fix 64)) n d (R64 l)).length F36 61 (.inl (.loop p36_l0)) ([.ptr (some (0, 0)), .sl (some (1, o)) 0 (.rel q)] ++ List.replicate (p36.ntmps - [AV.ptr (some (0, 0)), .sl (some (1, o)) 0 (.rel q)].length) .any, hTr s (.sl (some (2, 0)) l.length (.fix 64)) n d (R64 l)) = some (.exit 0, st') := a1'
  exact ⟨62, by unfold runG; rw [show p36.body = .block 0 (.loop p36_l0) from rfl, block_stopg a1'']; exact congrArg (fun x => some (AV.tup [], x)) a3⟩

/- Write and Sum of a hash: contracts for every memory. -/

/-- The small memories of Sum. -/
def hro (s : Nat → Int) (rest : AV) (n : Int) : AObj := .ro ([.bool true] ++ ints .u32 8 s ++ [rest, .int .i64 n])
def hS0 (s : Nat → Int) (n : Int) : AHeap := [hro s (.sl none 0 (.fix 0)) n, .row 30 32 (z3 .u8 32), .row 30 32 (z3 .u8 32), hrow s (.sl none 0 (.fix 0)) n]
def hSr (k : Nat) (s : Nat → Int) (Rc : List AV) (n : Int) : AHeap := [hro s (.sl (some (1, 0)) k (.fix 64)) n, .ro Rc, .row 30 32 (z3 .u8 32), .row 30 32 (z3 .u8 32), hrow s (.sl (some (1, 0)) k (.fix 64)) n]
noncomputable def sT : List AV → List AObj → Option (AV × AHeap × List Nat) := fun args hp => (limG Try.prog SB0 F36 p36 args hp).map fun r => (r.1, r.2, (r.2.getD 0 .dead).names.filter fun x => decide (hp.length ≤ x))
theorem takes_full : FullOK Try.prog 36 (framedS 1 sT) := frame_of_body mixed SB0_ok ht36 1 fun args hp v hq ns h => by
  unfold sT at h
  simp only [Option.map_eq_some_iff] at h
  obtain ⟨⟨v1, h1⟩, h2, h3⟩ := h
  simp only [Prod.mk.injEq] at h3
  obtain ⟨rfl, rfl, -⟩ := h3
  obtain ⟨n, h4⟩ := limG_inv h2
  exact .inr ⟨_, _, runG_sound SB0_q c36 h4⟩
noncomputable def SBs : Specs := mkS Q q5 (fun g => match g with
  | 15 => some (freshS (padF F15 p15))
  | 35 => some (runG Try.prog SBq FNo 40 p35)
  | 36 => some (framedS 1 sT)
  | _ => none)
theorem SBs_ok : SBs.OK Try.prog := mkS_ok quietText q5_ok (fun g s h => by
  split at h
  · cases h; exact pad15_full
  · cases h; exact nest_ok SBq_ok SBq_q ht35 c35 _ _
  · cases h; exact takes_full
  · cases h)
theorem SBs_q : ∀ g, (SBs.q g).isSome = Q g := fun g => mkS_isSome g
theorem hrow_ren {σ : Nat → Option Nat} {s : Nat → Int} {n : Int} {rest r : AV} (h : rest.ren σ = some r) : renObj σ (hrow s rest n) = hrow s r n := by
  show renObj σ (.row 47 11 [.bool true, .int .u32 (s 0), .int .u32 (s 1), .int .u32 (s 2), .int .u32 (s 3), .int .u32 (s 4), .int .u32 (s 5), .int .u32 (s 6), .int .u32 (s 7), rest, .int .i64 n]) = _
  simp only [renObj, AV.renL, AV.ren, h]
  rfl
theorem hrow_names {s : Nat → Int} {n : Int} {rest : AV} : (hrow s rest n).names = rest.names := by
  show AV.namesL [.bool true, .int .u32 (s 0), .int .u32 (s 1), .int .u32 (s 2), .int .u32 (s 3), .int .u32 (s 4), .int .u32 (s 5), .int .u32 (s 6), .int .u32 (s 7), rest, .int .i64 n] = _
  simp [AV.namesL, AV.names]
theorem hrow_kind {s : Nat → Int} {n : Int} {rest : AV} : (hrow s rest n).kind = true := rfl
theorem row_names {t z : Nat} {k : IntKind} {cs : List AV} (h : cs.all (isInt k) = true) : (AObj.row t z cs).names = [] ∧ (AObj.ro cs).names = [] := ⟨names_num (num_int h).1, names_num (num_int (t := t) (s := z) h).2⟩
theorem restV_ren {σ : Nat → Option Nat} {p p' : Nat} (h : σ p = some p') : ∀ l, (restV p l).ren σ = some (restV p' l)
  | [] => rfl
  | a :: l => by simp only [restV, AV.ren, h, Option.map_some]
theorem restV_nil_ren {σ : Nat → Option Nat} {p p' : Nat} : (restV p []).ren σ = some (restV p' []) := rfl
theorem restV_names {p : Nat} : ∀ l, (restV p l).names = if l = [] then [] else [p]
  | [] => rfl
  | a :: l => rfl
theorem restH_own {σ : Nat → Option Nat} : ∀ l, l.all (isInt .u8) = true → l.length ≤ 64 → (restH l).map (renOwn σ) = restH l
  | [], _, _ => rfl
  | a :: l, h, _ => by
    simp only [restH, List.map_cons, List.map_nil, renOwn, renObj, renL_ints (k := .u8) _ (R64_ints h)]
theorem restH_length : ∀ l, (restH l).length = if l = [] then 0 else 1
  | [] => rfl
  | a :: l => rfl
theorem absorb_int (s : Nat → Int) {l : List AV} (h : l.all (isInt .u8) = true) : (absorb s l).2.all (isInt .u8) = true ∧ (absorb s l).2.length < 64 := by
  obtain ⟨h1, h2⟩ := absorb_len s l
  exact ⟨all_sub h h2, by omega⟩
theorem new_names {s : Nat → Int} {n : Int} {p : Nat} {l : List AV} : ((hrow s (restV p l) n).names.filter fun x => decide (p ≤ x)) = (List.range (restH l).length).map (p + ·) := by
  rw [hrow_names, restV_names, restH_length]
  split
  · rfl
  · simp [List.range_succ]
theorem takes_fr0 {h : AHeap} {i j o m q : Nat} {s : Nat → Int} {n : Int} {d : List AV} (hi : h[i]? = some (hrow s (.sl none 0 (.fix 0)) n)) (hj : h[j]? = some (.row 5 1 d)) (hij : i ≠ j) (hd : d.all (isInt .u8) = true) (ho : o + m ≤ d.length) :
    framedS 1 sT [.ptr (some (i, 0)), .sl (some (j, o)) m (.rel q)] h = some (.tup [], h.set i (hrow (absorb s ((d.drop o).take m)).1 (restV h.length (absorb s ((d.drop o).take m)).2) n) ++ restH (absorb s ((d.drop o).take m)).2) := by
  obtain ⟨gi, li⟩ := getD_at hi
  obtain ⟨gj, lj⟩ := getD_at hj
  obtain ⟨N, hr⟩ := runN n d hd m o q [] s ho
  have hint : ((d.drop o).take m).all (isInt .u8) = true := all_sub hd fun v hv => List.mem_of_mem_drop (List.mem_of_mem_take hv)
  obtain ⟨a1, a2⟩ := absorb_int s hint
  generalize hA : absorb s ((d.drop o).take m) = A at *
  have hl := limG_of hr
  have hs : sT [.ptr (some (0, 0)), .sl (some (1, o)) m (.rel q)] (hrow s (.sl none 0 (.fix 0)) n :: [j].map fun k => h.getD k .dead) = some (.tup [], (hrow A.1 (restV 2 A.2) n :: [j].map fun k => h.getD k .dead) ++ restH A.2, (List.range (restH A.2).length).map ([j].length + 1 + ·)) := by
    simp only [List.map_cons, List.map_nil, gj]
    unfold sT
    rw [show ([hrow s (.sl none 0 (.fix 0)) n, .row 5 1 d] : AHeap) = hT s (.sl none 0 (.fix 0)) n d from rfl, hl]
    simp only [Option.map_some, hT, List.cons_append, List.nil_append, List.getD_cons_zero, List.length_cons, List.length_nil, Nat.zero_add, Option.some.injEq, Prod.mk.injEq, true_and]
    exact new_names
  have hres := framed_one (d := 1) (s := sT) (args := [.ptr (some (i, 0)), .sl (some (j, o)) m (.rel q)]) (a := [.ptr (some (0, 0)), .sl (some (1, o)) m (.rel q)]) (h := h) (i := i) (ks := [j]) (o0 := hrow s (.sl none 0 (.fix 0)) n) (reach_ps hij (by rw [gi, hrow_names]; rfl) (by rw [gj]; exact (row_names hd).1)) (by simp [hij]) li (by rw [gi]; rfl)
    (by simp only [AV.renL, AV.ren, (idx2 hij).1, (idx2 hij).2, Option.map_some]) (by rw [gi]; exact hrow_ren rfl)
    (fun k hk => by rw [List.mem_singleton] at hk; subst hk; rw [gj]; exact (num_int hd).1) hs rfl
  rw [hres, restH_own _ a1 (by omega)]
  congr 4
  obtain ⟨A1, A2⟩ := A
  cases A2 with
  | nil => exact hrow_ren rfl
  | cons x l => exact hrow_ren (restV_ren (tau_new rfl 0 (by simp [restH])) _)
theorem takes_frS {h : AHeap} {i j k o m q : Nat} {s : Nat → Int} {n : Int} {d l : List AV} (hi : h[i]? = some (hrow s (.sl (some (k, 0)) l.length (.fix 64)) n)) (hj : h[j]? = some (.row 5 1 d)) (hk : h[k]? = some (.ro (R64 l))) (hij : i ≠ j) (hik : i ≠ k) (hjk : j ≠ k) (hd : d.all (isInt .u8) = true) (hl : l.all (isInt .u8) = true) (h0 : 0 < l.length) (h64 : l.length < 64) (hm : 0 < m) (ho : o + m ≤ d.length) :
    framedS 1 sT [.ptr (some (i, 0)), .sl (some (j, o)) m (.rel q)] h = some (.tup [], h.set i (hrow (absorb s (l ++ (d.drop o).take m)).1 (restV h.length (absorb s (l ++ (d.drop o).take m)).2) n) ++ restH (absorb s (l ++ (d.drop o).take m)).2) := by
  obtain ⟨gi, li⟩ := getD_at hi
  obtain ⟨gj, lj⟩ := getD_at hj
  obtain ⟨gk, lk⟩ := getD_at hk
  have hR := R64_ints hl
  have hint : (l ++ (d.drop o).take m).all (isInt .u8) = true := by rw [List.all_append, hl, all_sub hd fun v hv => List.mem_of_mem_drop (List.mem_of_mem_take hv)]; rfl
  obtain ⟨a1, a2⟩ := absorb_int s hint
  obtain ⟨N, hr⟩ := runSr n d hd m o q l hl h0 h64 hm s ho
  have hlim := limG_of hr
  generalize hA : absorb s (l ++ (d.drop o).take m) = A at *
  have hs : sT [.ptr (some (0, 0)), .sl (some (1, o)) m (.rel q)] (hrow s (.sl (some (2, 0)) l.length (.fix 64)) n :: [j, k].map fun k => h.getD k .dead) = some (.tup [], (hrow A.1 (restV 3 A.2) n :: [j, k].map fun k => h.getD k .dead) ++ restH A.2, (List.range (restH A.2).length).map ([j, k].length + 1 + ·)) := by
    simp only [List.map_cons, List.map_nil, gj, gk]
    unfold sT
    rw [show ([hrow s (.sl (some (2, 0)) l.length (.fix 64)) n, .row 5 1 d, .ro (R64 l)] : AHeap) = hTr s (.sl (some (2, 0)) l.length (.fix 64)) n d (R64 l) from rfl, hlim]
    simp only [Option.map_some, hTr, List.cons_append, List.nil_append, List.getD_cons_zero, List.length_cons, List.length_nil, Nat.zero_add, Option.some.injEq, Prod.mk.injEq, true_and]
    exact new_names
  have hres := framed_one (d := 1) (s := sT) (args := [.ptr (some (i, 0)), .sl (some (j, o)) m (.rel q)]) (a := [.ptr (some (0, 0)), .sl (some (1, o)) m (.rel q)]) (h := h) (i := i) (ks := [j, k]) (o0 := hrow s (.sl (some (2, 0)) l.length (.fix 64)) n) (reach_psr hij hik hjk (by rw [gi, hrow_names]; rfl) (by rw [gj]; exact (row_names hd).1)) (by simp [hij, hik, hjk]) li (by rw [gi]; rfl)
    (by simp only [AV.renL, AV.ren, (idx3 hij hik hjk).1, (idx3 hij hik hjk).2.1, Option.map_some]) (by rw [gi]; exact hrow_ren (by simp only [AV.ren, (idx3 hij hik hjk).2.2, Option.map_some]))
    (fun x hx => by
      simp only [List.mem_cons, List.not_mem_nil, or_false] at hx
      rcases hx with rfl | rfl
      · rw [gj]; exact (num_int hd).1
      · rw [gk]; exact (num_int (t := 26) (s := 64) hR).2) hs rfl
  rw [hres, restH_own _ a1 (by omega)]
  congr 4
  obtain ⟨A1, A2⟩ := A
  cases A2 with
  | nil => exact hrow_ren rfl
  | cons x l => exact hrow_ren (restV_ren (tau_new rfl 0 (by simp [restH])) _)
theorem e18a (s s' : Nat → Int) (n : Int) (d Rc Rc' : List AV) (o m q k k' : Nat) : runVg Try.prog SB1 (sy0 [1, 2]) (cvE [(36, ([.ptr (some (0, 0)), .sl (some (1, o)) m (.rel q)], (hT s (.sl none 0 (.fix 0)) n d)), (.tup [], hT s' (.sl none 0 (.fix 0)) n d))]) FNo 60 p18 [.ptr (some (0, 0)), .sl (some (1, o)) m (.rel q)] (hT s (.sl none 0 (.fix 0)) n d) [.lit, .is false] = some ((.int .i64 0, hT s' (.sl none 0 (.fix 0)) (IntKind.i64.wrap (n + (m : Int))) d), [decide ((m : Int) > IntKind.i64.wrap (1152921504606846976 - n)) == false, sameH ([.ptr (some (0, 0)), .sl (some (1, o)) m (.rel q)], (hT s (.sl none 0 (.fix 0)) n d)) ([.ptr (some (0, 0)), .sl (some (1, o)) m (.rel q)], (hT s (.sl none 0 (.fix 0)) n d)), true, true]) := by kernel_rfl
theorem e18b (s s' : Nat → Int) (n : Int) (d Rc Rc' : List AV) (o m q k k' : Nat) : runVg Try.prog SB1 (sy0 [1, 2]) (cvE [(36, ([.ptr (some (0, 0)), .sl (some (1, o)) m (.rel q)], (hT s (.sl none 0 (.fix 0)) n d)), (.tup [], hT s' (.sl (some (2, 0)) k' (.fix 64)) n d ++ [.row 26 64 Rc']))]) FNo 60 p18 [.ptr (some (0, 0)), .sl (some (1, o)) m (.rel q)] (hT s (.sl none 0 (.fix 0)) n d) [.lit, .is false] = some ((.int .i64 0, hT s' (.sl (some (2, 0)) k' (.fix 64)) (IntKind.i64.wrap (n + (m : Int))) d ++ [.row 26 64 Rc']), [decide ((m : Int) > IntKind.i64.wrap (1152921504606846976 - n)) == false, sameH ([.ptr (some (0, 0)), .sl (some (1, o)) m (.rel q)], (hT s (.sl none 0 (.fix 0)) n d)) ([.ptr (some (0, 0)), .sl (some (1, o)) m (.rel q)], (hT s (.sl none 0 (.fix 0)) n d)), true, true]) := by kernel_rfl
theorem e18c (s s' : Nat → Int) (n : Int) (d Rc Rc' : List AV) (o m q k k' : Nat) : runVg Try.prog SB1 (sy0 [1, 2]) (cvE [(36, ([.ptr (some (0, 0)), .sl (some (1, o)) m (.rel q)], (hTo s (.sl (some (2, 0)) k (.fix 64)) n d Rc)), (.tup [], hTo s' (.sl none 0 (.fix 0)) n d Rc))]) FNo 60 p18 [.ptr (some (0, 0)), .sl (some (1, o)) m (.rel q)] (hTo s (.sl (some (2, 0)) k (.fix 64)) n d Rc) [.lit, .is false] = some ((.int .i64 0, hTo s' (.sl none 0 (.fix 0)) (IntKind.i64.wrap (n + (m : Int))) d Rc), [decide ((m : Int) > IntKind.i64.wrap (1152921504606846976 - n)) == false, sameH ([.ptr (some (0, 0)), .sl (some (1, o)) m (.rel q)], (hTo s (.sl (some (2, 0)) k (.fix 64)) n d Rc)) ([.ptr (some (0, 0)), .sl (some (1, o)) m (.rel q)], (hTo s (.sl (some (2, 0)) k (.fix 64)) n d Rc)), true, true]) := by kernel_rfl
theorem e18d (s s' : Nat → Int) (n : Int) (d Rc Rc' : List AV) (o m q k k' : Nat) : runVg Try.prog SB1 (sy0 [1, 2]) (cvE [(36, ([.ptr (some (0, 0)), .sl (some (1, o)) m (.rel q)], (hTo s (.sl (some (2, 0)) k (.fix 64)) n d Rc)), (.tup [], hTo s' (.sl (some (3, 0)) k' (.fix 64)) n d Rc ++ [.row 26 64 Rc']))]) FNo 60 p18 [.ptr (some (0, 0)), .sl (some (1, o)) m (.rel q)] (hTo s (.sl (some (2, 0)) k (.fix 64)) n d Rc) [.lit, .is false] = some ((.int .i64 0, hTo s' (.sl (some (3, 0)) k' (.fix 64)) (IntKind.i64.wrap (n + (m : Int))) d Rc ++ [.row 26 64 Rc']), [decide ((m : Int) > IntKind.i64.wrap (1152921504606846976 - n)) == false, sameH ([.ptr (some (0, 0)), .sl (some (1, o)) m (.rel q)], (hTo s (.sl (some (2, 0)) k (.fix 64)) n d Rc)) ([.ptr (some (0, 0)), .sl (some (1, o)) m (.rel q)], (hTo s (.sl (some (2, 0)) k (.fix 64)) n d Rc)), true, true]) := by kernel_rfl
theorem e18e (s s' : Nat → Int) (n : Int) (d Rc Rc' : List AV) (o m q k k' : Nat) : runVg Try.prog SB1 (sy0 [1, 2]) (cvE [(36, ([.ptr (some (0, 0)), .sl (some (1, o)) m (.rel q)], (hTo s (.sl (some (2, 0)) k (.fix 64)) n d Rc)), (.tup [], hTo s' (.sl (some (2, 0)) k (.fix 64)) n d Rc))]) FNo 60 p18 [.ptr (some (0, 0)), .sl (some (1, o)) m (.rel q)] (hTo s (.sl (some (2, 0)) k (.fix 64)) n d Rc) [.lit, .is false] = some ((.int .i64 0, hTo s' (.sl (some (2, 0)) k (.fix 64)) (IntKind.i64.wrap (n + (m : Int))) d Rc), [decide ((m : Int) > IntKind.i64.wrap (1152921504606846976 - n)) == false, sameH ([.ptr (some (0, 0)), .sl (some (1, o)) m (.rel q)], (hTo s (.sl (some (2, 0)) k (.fix 64)) n d Rc)) ([.ptr (some (0, 0)), .sl (some (1, o)) m (.rel q)], (hTo s (.sl (some (2, 0)) k (.fix 64)) n d Rc)), true, true]) := by kernel_rfl
theorem e20a (s s' : Nat → Int) (n : Int) (Rc pd : List AV) (k L : Nat) : (runVg Try.prog SBs (sy0 [4]) (cvE [(15, ([.int .i64 n], (hS0 s n)), (.sl (some (4, 0)) L (.rel 0), ((hS0 s n) ++ [AObj.row 5 1 pd]))), (36, ([.ptr (some (3, 0)), .sl (some (4, 0)) L (.rel 0)], ((hS0 s n) ++ [AObj.row 5 1 pd])), (.tup [], ((((hS0 s n) ++ [AObj.row 5 1 pd]).set 3 (hrow s' (.sl none 0 (.fix 0)) n)) ++ [])))]) FNo 100 p20 [.ptr (some (0, 0))] ([hro s (.sl none 0 (.fix 0)) n]) (List.replicate 10 .lit)).map (fun r => (r.1.1, r.2)) = some (.agg (ints .u8 32 (outB s')), trW 2 ++ [sameH ([.int .i64 n], (hS0 s n)) ([.int .i64 n], (hS0 s n)), sameH ([.ptr (some (3, 0)), .sl (some (4, 0)) L (.rel 0)], ((hS0 s n) ++ [AObj.row 5 1 pd])) ([.ptr (some (3, 0)), .sl (some (4, 0)) L (.rel 0)], ((hS0 s n) ++ [AObj.row 5 1 pd]))] ++ trW 42) := by kernel_rfl
theorem e20b (s s' : Nat → Int) (n : Int) (Rc pd : List AV) (k L : Nat) : (runVg Try.prog SBs (sy0 [1, 5]) (cvE [(15, ([.int .i64 n], (hSr k s Rc n)), (.sl (some (5, 0)) L (.rel 0), ((hSr k s Rc n) ++ [AObj.row 5 1 pd]))), (36, ([.ptr (some (4, 0)), .sl (some (5, 0)) L (.rel 0)], ((hSr k s Rc n) ++ [AObj.row 5 1 pd])), (.tup [], ((((hSr k s Rc n) ++ [AObj.row 5 1 pd]).set 4 (hrow s' (.sl none 0 (.fix 0)) n)) ++ [])))]) FNo 100 p20 [.ptr (some (0, 0))] ([hro s (.sl (some (1, 0)) k (.fix 64)) n, .ro Rc]) (List.replicate 10 .lit)).map (fun r => (r.1.1, r.2)) = some (.agg (ints .u8 32 (outB s')), trW 2 ++ [sameH ([.int .i64 n], (hSr k s Rc n)) ([.int .i64 n], (hSr k s Rc n)), sameH ([.ptr (some (4, 0)), .sl (some (5, 0)) L (.rel 0)], ((hSr k s Rc n) ++ [AObj.row 5 1 pd])) ([.ptr (some (4, 0)), .sl (some (5, 0)) L (.rel 0)], ((hSr k s Rc n) ++ [AObj.row 5 1 pd]))] ++ trW 42) := by kernel_rfl

/- Write and Sum of a hash: contracts for every memory, second part. -/

theorem agg_cl {k : IntKind} {n : Nat} {g : Nat → Int} : (AV.agg (ints k n g)).closed = true := by
  have h := ints_isInts k n g
  simp only [isInts, Bool.and_eq_true] at h
  have h2 : (ints k n g).all AV.closed = true := (num_int (t := 0) (s := 0) h.2).1
  simp only [AV.closed, AV.refs, refsL_eq]
  exact h2
noncomputable def sW : List AV → List AObj → Option (AV × AHeap × List Nat) := fun args hp => (limG Try.prog SB1 FNo p18 args hp).map fun r => (r.1, r.2, (r.2.getD 0 .dead).names.filter fun x => decide (hp.length ≤ x))
theorem write_full : FullOK Try.prog 18 (framedS 1 sW) := frame_of_body mixed SB1_ok ht18 1 fun args hp v hq ns h => by
  unfold sW at h
  simp only [Option.map_eq_some_iff] at h
  obtain ⟨⟨v1, h1⟩, h2, h3⟩ := h
  simp only [Prod.mk.injEq] at h3
  obtain ⟨rfl, rfl, -⟩ := h3
  obtain ⟨n, h4⟩ := limG_inv h2
  exact .inr ⟨_, _, runG_sound SB1_q c18 h4⟩
theorem room_ok {n : Int} {m : Nat} (h0 : 0 ≤ n) (h : n + m ≤ 1152921504606846976) : (decide ((m : Int) > IntKind.i64.wrap (1152921504606846976 - n)) == false) = true ∧ IntKind.i64.wrap (n + (m : Int)) = n + m := by
  have e : IntKind.i64.wrap (1152921504606846976 - n) = 1152921504606846976 - n := by rw [IntKind.wrap_i64]; omega
  refine ⟨by rw [e]; simp; omega, by rw [IntKind.wrap_i64]; omega⟩
theorem cv1_ok {a : List AV × AHeap} {r : AV × AHeap} (h : limG Try.prog SB0 F36 p36 a.1 a.2 = some r) : (cvE [(36, a, r)]).OK SB1 := cvE_ok fun e he => by
  rw [List.mem_singleton] at he
  subst he
  exact (S1_36 _ _).trans h
theorem w18_0 (s : Nat → Int) (n : Int) (d : List AV) (hd : d.all (isInt .u8) = true) (m o q : Nat) (h0 : 0 ≤ n) (hr : n + m ≤ 1152921504606846976) (ho : o + m ≤ d.length) :
    limG Try.prog SB1 FNo p18 [.ptr (some (0, 0)), .sl (some (1, o)) m (.rel q)] (hT s (.sl none 0 (.fix 0)) n d) = some (.int .i64 0, hT (absorb s ((d.drop o).take m)).1 (restV 2 (absorb s ((d.drop o).take m)).2) (n + m) d ++ restH (absorb s ((d.drop o).take m)).2) := by
  obtain ⟨N, hrun⟩ := runN n d hd m o q [] s ho
  obtain ⟨r1, r2⟩ := room_ok h0 hr
  have hl36 := limG_of hrun
  generalize absorb s ((d.drop o).take m) = A at *
  obtain ⟨A1, A2⟩ := A
  cases A2 with
  | nil =>
    have h36 := cv1_ok (a := (_, _)) (r := (_, _)) (hl36.trans (by rw [show restH [] = [] from rfl, List.append_nil]; rfl) : limG Try.prog SB0 F36 p36 _ _ = some (.tup [], hT A1 (.sl none 0 (.fix 0)) n d))
    rw [← r2]
    rw [show restH [] = [] from rfl, List.append_nil]
    exact limG_of (runVg_ok Try.prog SB1 (sy0 [1, 2]) _ h36 (e18a s A1 n d [] [] o m q 0 0) (by simp only [r1, sameH_self, List.all_cons, List.all_nil, id, Bool.and_self]))
  | cons a l' =>
    have h36 := cv1_ok (a := (_, _)) (r := (_, _)) (hl36 : limG Try.prog SB0 F36 p36 _ _ = some (.tup [], hT A1 (.sl (some (2, 0)) (a :: l').length (.fix 64)) n d ++ [.row 26 64 (R64 (a :: l'))]))
    rw [← r2]
    exact limG_of (runVg_ok Try.prog SB1 (sy0 [1, 2]) _ h36 (e18b s A1 n d [] (R64 (a :: l')) o m q 0 (a :: l').length) (by simp only [r1, sameH_self, List.all_cons, List.all_nil, id, Bool.and_self]))
theorem w18_S (s : Nat → Int) (n : Int) (d : List AV) (hd : d.all (isInt .u8) = true) (m o q : Nat) (l : List AV) (hl : l.all (isInt .u8) = true) (hl0 : 0 < l.length) (h64 : l.length < 64) (hm : 0 < m) (h0 : 0 ≤ n) (hr : n + m ≤ 1152921504606846976) (ho : o + m ≤ d.length) :
    limG Try.prog SB1 FNo p18 [.ptr (some (0, 0)), .sl (some (1, o)) m (.rel q)] (hTo s (.sl (some (2, 0)) l.length (.fix 64)) n d (R64 l)) = some (.int .i64 0, hTo (absorb s (l ++ (d.drop o).take m)).1 (restV 3 (absorb s (l ++ (d.drop o).take m)).2) (n + m) d (R64 l) ++ restH (absorb s (l ++ (d.drop o).take m)).2) := by
  obtain ⟨N, hrun⟩ := runSo n d hd m o q l hl hl0 h64 hm s ho
  obtain ⟨r1, r2⟩ := room_ok h0 hr
  have hl36 := limG_of hrun
  generalize absorb s (l ++ (d.drop o).take m) = A at *
  obtain ⟨A1, A2⟩ := A
  cases A2 with
  | nil =>
    have h36 := cv1_ok (a := (_, _)) (r := (_, _)) (hl36.trans (by rw [show restH [] = [] from rfl, List.append_nil]; rfl) : limG Try.prog SB0 F36 p36 _ _ = some (.tup [], hTo A1 (.sl none 0 (.fix 0)) n d (R64 l)))
    rw [← r2]
    rw [show restH [] = [] from rfl, List.append_nil]
    exact limG_of (runVg_ok Try.prog SB1 (sy0 [1, 2]) _ h36 (e18c s A1 n d (R64 l) [] o m q l.length 0) (by simp only [r1, sameH_self, List.all_cons, List.all_nil, id, Bool.and_self]))
  | cons a l' =>
    have h36 := cv1_ok (a := (_, _)) (r := (_, _)) (hl36 : limG Try.prog SB0 F36 p36 _ _ = some (.tup [], hTo A1 (.sl (some (3, 0)) (a :: l').length (.fix 64)) n d (R64 l) ++ [.row 26 64 (R64 (a :: l'))]))
    rw [← r2]
    exact limG_of (runVg_ok Try.prog SB1 (sy0 [1, 2]) _ h36 (e18d s A1 n d (R64 l) (R64 (a :: l')) o m q l.length (a :: l').length) (by simp only [r1, sameH_self, List.all_cons, List.all_nil, id, Bool.and_self]))
theorem w18_E (s : Nat → Int) (n : Int) (d : List AV) (hd : d.all (isInt .u8) = true) (o q : Nat) (l : List AV) (hl : l.all (isInt .u8) = true) (h0 : 0 ≤ n) (hr : n ≤ 1152921504606846976) :
    limG Try.prog SB1 FNo p18 [.ptr (some (0, 0)), .sl (some (1, o)) 0 (.rel q)] (hTo s (.sl (some (2, 0)) l.length (.fix 64)) n d (R64 l)) = some (.int .i64 0, hTo s (.sl (some (2, 0)) l.length (.fix 64)) n d (R64 l)) := by
  obtain ⟨N, hrun⟩ := run0o n d hd o q l hl s
  obtain ⟨r1, r2⟩ := room_ok (m := 0) h0 (by omega)
  have r3 : IntKind.i64.wrap (n + ((0 : Nat) : Int)) = n := by rw [r2]; omega
  have h36 := cv1_ok (a := (_, _)) (limG_of hrun)
  have := limG_of (runVg_ok Try.prog SB1 (sy0 [1, 2]) _ h36 (e18e s s n d (R64 l) [] o 0 q l.length 0) (by simp only [r1, sameH_self, List.all_cons, List.all_nil, id, Bool.and_self]))
  rw [r3] at this
  exact this
theorem write_fr0 {h : AHeap} {i j o m q : Nat} {s : Nat → Int} {n : Int} {d : List AV} (hi : h[i]? = some (hrow s (.sl none 0 (.fix 0)) n)) (hj : h[j]? = some (.row 5 1 d)) (hij : i ≠ j) (hd : d.all (isInt .u8) = true) (hn0 : 0 ≤ n) (hnm : n + m ≤ 1152921504606846976) (ho : o + m ≤ d.length) :
    framedS 1 sW [.ptr (some (i, 0)), .sl (some (j, o)) m (.rel q)] h = some (.int .i64 0, h.set i (hrow (absorb s ((d.drop o).take m)).1 (restV h.length (absorb s ((d.drop o).take m)).2) (n + m)) ++ restH (absorb s ((d.drop o).take m)).2) := by
  obtain ⟨gi, li⟩ := getD_at hi
  obtain ⟨gj, lj⟩ := getD_at hj
  have hl := w18_0 s n d hd m o q hn0 hnm ho
  have hint : ((d.drop o).take m).all (isInt .u8) = true := all_sub hd fun v hv => List.mem_of_mem_drop (List.mem_of_mem_take hv)
  obtain ⟨a1, a2⟩ := absorb_int s hint
  generalize hA : absorb s ((d.drop o).take m) = A at *
  have hs : sW [.ptr (some (0, 0)), .sl (some (1, o)) m (.rel q)] (hrow s (.sl none 0 (.fix 0)) n :: [j].map fun k => h.getD k .dead) = some (.int .i64 0, (hrow A.1 (restV 2 A.2) (n + m) :: [j].map fun k => h.getD k .dead) ++ restH A.2, (List.range (restH A.2).length).map ([j].length + 1 + ·)) := by
    simp only [List.map_cons, List.map_nil, gj]
    unfold sW
    rw [show ([hrow s (.sl none 0 (.fix 0)) n, .row 5 1 d] : AHeap) = hT s (.sl none 0 (.fix 0)) n d from rfl, hl]
    simp only [Option.map_some, hT, List.cons_append, List.nil_append, List.getD_cons_zero, List.length_cons, List.length_nil, Nat.zero_add, Option.some.injEq, Prod.mk.injEq, true_and]
    exact new_names
  have hres := framed_one (d := 1) (s := sW) (args := [.ptr (some (i, 0)), .sl (some (j, o)) m (.rel q)]) (a := [.ptr (some (0, 0)), .sl (some (1, o)) m (.rel q)]) (h := h) (i := i) (ks := [j]) (o0 := hrow s (.sl none 0 (.fix 0)) n) (reach_ps hij (by rw [gi, hrow_names]; rfl) (by rw [gj]; exact (row_names hd).1)) (by simp [hij]) li (by rw [gi]; rfl)
    (by simp only [AV.renL, AV.ren, (idx2 hij).1, (idx2 hij).2, Option.map_some]) (by rw [gi]; exact hrow_ren rfl)
    (fun k hk => by rw [List.mem_singleton] at hk; subst hk; rw [gj]; exact (num_int hd).1) hs rfl
  rw [hres, restH_own _ a1 (by omega)]
  congr 4
  obtain ⟨A1, A2⟩ := A
  cases A2 with
  | nil => exact hrow_ren rfl
  | cons x l => exact hrow_ren (restV_ren (tau_new rfl 0 (by simp [restH])) _)
theorem write_frS {h : AHeap} {i j k o m q : Nat} {s : Nat → Int} {n : Int} {d l : List AV} (hi : h[i]? = some (hrow s (.sl (some (k, 0)) l.length (.fix 64)) n)) (hj : h[j]? = some (.row 5 1 d)) (hk : h[k]? = some (.row 26 64 (R64 l))) (hij : i ≠ j) (hik : i ≠ k) (hjk : j ≠ k) (hd : d.all (isInt .u8) = true) (hl : l.all (isInt .u8) = true) (h0 : 0 < l.length) (h64 : l.length < 64) (hm : 0 < m) (hn0 : 0 ≤ n) (hnm : n + m ≤ 1152921504606846976) (ho : o + m ≤ d.length) :
    framedS 1 sW [.ptr (some (i, 0)), .sl (some (j, o)) m (.rel q)] h = some (.int .i64 0, h.set i (hrow (absorb s (l ++ (d.drop o).take m)).1 (restV h.length (absorb s (l ++ (d.drop o).take m)).2) (n + m)) ++ restH (absorb s (l ++ (d.drop o).take m)).2) := by
  obtain ⟨gi, li⟩ := getD_at hi
  obtain ⟨gj, lj⟩ := getD_at hj
  obtain ⟨gk, lk⟩ := getD_at hk
  have hR := R64_ints hl
  have hint : (l ++ (d.drop o).take m).all (isInt .u8) = true := by rw [List.all_append, hl, all_sub hd fun v hv => List.mem_of_mem_drop (List.mem_of_mem_take hv)]; rfl
  obtain ⟨a1, a2⟩ := absorb_int s hint
  have hlim := w18_S s n d hd m o q l hl h0 h64 hm hn0 hnm ho
  generalize hA : absorb s (l ++ (d.drop o).take m) = A at *
  have hs : sW [.ptr (some (0, 0)), .sl (some (1, o)) m (.rel q)] (hrow s (.sl (some (2, 0)) l.length (.fix 64)) n :: [j, k].map fun k => h.getD k .dead) = some (.int .i64 0, (hrow A.1 (restV 3 A.2) (n + m) :: [j, k].map fun k => h.getD k .dead) ++ restH A.2, (List.range (restH A.2).length).map ([j, k].length + 1 + ·)) := by
    simp only [List.map_cons, List.map_nil, gj, gk]
    unfold sW
    rw [show ([hrow s (.sl (some (2, 0)) l.length (.fix 64)) n, .row 5 1 d, .row 26 64 (R64 l)] : AHeap) = hTo s (.sl (some (2, 0)) l.length (.fix 64)) n d (R64 l) from rfl, hlim]
    simp only [Option.map_some, hTo, List.cons_append, List.nil_append, List.getD_cons_zero, List.length_cons, List.length_nil, Nat.zero_add, Option.some.injEq, Prod.mk.injEq, true_and]
    exact new_names
  have hres := framed_one (d := 1) (s := sW) (args := [.ptr (some (i, 0)), .sl (some (j, o)) m (.rel q)]) (a := [.ptr (some (0, 0)), .sl (some (1, o)) m (.rel q)]) (h := h) (i := i) (ks := [j, k]) (o0 := hrow s (.sl (some (2, 0)) l.length (.fix 64)) n) (reach_psr hij hik hjk (by rw [gi, hrow_names]; rfl) (by rw [gj]; exact (row_names hd).1)) (by simp [hij, hik, hjk]) li (by rw [gi]; rfl)
    (by simp only [AV.renL, AV.ren, (idx3 hij hik hjk).1, (idx3 hij hik hjk).2.1, Option.map_some]) (by rw [gi]; exact hrow_ren (by simp only [AV.ren, (idx3 hij hik hjk).2.2, Option.map_some]))
    (fun x hx => by
      simp only [List.mem_cons, List.not_mem_nil, or_false] at hx
      rcases hx with rfl | rfl
      · rw [gj]; exact (num_int hd).1
      · rw [gk]; exact (num_int (t := 26) (s := 64) hR).1) hs rfl
  rw [hres, restH_own _ a1 (by omega)]
  congr 4
  obtain ⟨A1, A2⟩ := A
  cases A2 with
  | nil => exact hrow_ren rfl
  | cons x l => exact hrow_ren (restV_ren (tau_new rfl 0 (by simp [restH])) _)
noncomputable def gS : List AV → List AObj → Option AV := fun args hp => (limG Try.prog SBs FNo p20 args hp).bind fun r => if r.1.closed then some r.1 else none
noncomputable def sumS (args : List AV) (h : AHeap) : Option AV := (impD 1 h args).bind fun r => gS r.1 r.2
theorem sum_ok : QuietOK Try.prog 20 sumS := quiet_deep mixed SBs_ok ht20 1 fun args hp v h => by
  unfold gS at h
  simp only [Option.bind_eq_some_iff] at h
  obtain ⟨⟨v1, h1⟩, h2, h3⟩ := h
  simp only at h3
  split at h3
  · rename_i hc
    cases h3
    obtain ⟨n, h4⟩ := limG_inv h2
    exact ⟨hc, .inr ⟨_, _, _, runG_sound SBs_q c20 h4⟩⟩
  · cases h3
theorem Ss_36 (vs : List AV) (h : AHeap) : (match SBs.q 36 with | some sp => (sp vs h).map (·, h) | none => (SBs.f 36).bind fun sp => sp vs h) = framedS 1 sT vs h := rfl
theorem Ss_15 (vs : List AV) (h : AHeap) : (match SBs.q 15 with | some sp => (sp vs h).map (·, h) | none => (SBs.f 15).bind fun sp => sp vs h) = freshS (padF F15 p15) vs h := rfl
theorem pad_full {n : Int} (h0 : 0 ≤ n) {l : List AV} (hl : (l.length : Int) = n % 64) : (l.length + (padL n).length) % 64 = 0 := by
  have h1 := (padL_ok n).1
  have h2 : ((padJ n : Nat) : Int) = (119 - n % 64) % 64 := by unfold padJ; omega
  omega
theorem gS_0 (s : Nat → Int) (n : Int) (h0 : 0 ≤ n) (hn : n % 64 = 0) : gS [.ptr (some (0, 0))] [hro s (.sl none 0 (.fix 0)) n] = some (.agg (ints .u8 32 (outB (absorb s (padL n)).1))) := by
  obtain ⟨p1, p2⟩ := padL_ok n
  have pf := pad_full h0 (l := []) (by simpa using hn.symm)
  obtain ⟨b1, b2⟩ := absorb_len s (padL n)
  have hnil : (absorb s (padL n)).2 = [] := List.eq_nil_of_length_eq_zero (by rw [b1]; simpa using pf)
  have e15 := pad15_eq n h0 (hS0 s n)
  have e36 := takes_fr0 (h := hS0 s n ++ [AObj.row 5 1 (padL n)]) (i := 3) (j := 4) (o := 0) (m := padJ n + 9) (q := 0) (s := s) (n := n) (d := padL n) rfl rfl (by decide) p2 (by omega)
  rw [List.drop_zero, List.take_of_length_le (by omega), hnil] at e36
  have hv := e20a s (absorb s (padL n)).1 n [] (padL n) 0 (padJ n + 9)
  simp only [Option.map_eq_some_iff] at hv
  obtain ⟨⟨⟨v, h'⟩, cs⟩, g1, g2⟩ := hv
  simp only [Prod.mk.injEq] at g2
  obtain ⟨rfl, rfl⟩ := g2
  have hr := limG_of (runVg_ok Try.prog SBs _ _ (cvE_ok (S := SBs) (fun e he => by
      rcases pair_mem he with rfl | rfl
      · exact (Ss_15 _ _).trans e15
      · exact (Ss_36 _ _).trans e36)) g1 (by simp only [trW_ok, sameH_self, List.all_append, List.all_cons, List.all_nil, id, Bool.and_self]))
  unfold gS
  rw [show ([hro s (.sl none 0 (.fix 0)) n] : List AObj) = ([hro s (.sl none 0 (.fix 0)) n] : AHeap) from rfl, hr]
  simp only [Option.bind_some, agg_cl, if_true]
theorem gS_r (s : Nat → Int) (n : Int) (l : List AV) (hl : l.all (isInt .u8) = true) (hl0 : 0 < l.length) (h64 : l.length < 64) (h0 : 0 ≤ n) (hn : (l.length : Int) = n % 64) : gS [.ptr (some (0, 0))] [hro s (.sl (some (1, 0)) l.length (.fix 64)) n, .ro (R64 l)] = some (.agg (ints .u8 32 (outB (absorb s (l ++ padL n)).1))) := by
  obtain ⟨p1, p2⟩ := padL_ok n
  have pf := pad_full h0 hn
  obtain ⟨b1, b2⟩ := absorb_len s (l ++ padL n)
  have hnil : (absorb s (l ++ padL n)).2 = [] := List.eq_nil_of_length_eq_zero (by rw [b1, List.length_append]; exact pf)
  have e15 := pad15_eq n h0 (hSr l.length s (R64 l) n)
  have e36 := takes_frS (h := hSr l.length s (R64 l) n ++ [AObj.row 5 1 (padL n)]) (i := 4) (j := 5) (k := 1) (o := 0) (m := padJ n + 9) (q := 0) (s := s) (n := n) (d := padL n) (l := l) rfl rfl rfl (by decide) (by decide) (by decide) p2 hl hl0 h64 (by omega) (by omega)
  rw [List.drop_zero, List.take_of_length_le (by omega), hnil] at e36
  have hv := e20b s (absorb s (l ++ padL n)).1 n (R64 l) (padL n) l.length (padJ n + 9)
  simp only [Option.map_eq_some_iff] at hv
  obtain ⟨⟨⟨v, h'⟩, cs⟩, g1, g2⟩ := hv
  simp only [Prod.mk.injEq] at g2
  obtain ⟨rfl, rfl⟩ := g2
  have hr := limG_of (runVg_ok Try.prog SBs _ _ (cvE_ok (S := SBs) (fun e he => by
      rcases pair_mem he with rfl | rfl
      · exact (Ss_15 _ _).trans e15
      · exact (Ss_36 _ _).trans e36)) g1 (by simp only [trW_ok, sameH_self, List.all_append, List.all_cons, List.all_nil, id, Bool.and_self]))
  unfold gS
  rw [show ([hro s (.sl (some (1, 0)) l.length (.fix 64)) n, .ro (R64 l)] : List AObj) = ([hro s (.sl (some (1, 0)) l.length (.fix 64)) n, .ro (R64 l)] : AHeap) from rfl, hr]
  simp only [Option.bind_some, agg_cl, if_true]
theorem sum_at0 {h : AHeap} {i : Nat} {s : Nat → Int} {n : Int} (hi : h[i]? = some (hrow s (.sl none 0 (.fix 0)) n)) (h0 : 0 ≤ n) (hn : n % 64 = 0) : sumS [.ptr (some (i, 0))] h = some (.agg (ints .u8 32 (outB (absorb s (padL n)).1))) := by
  obtain ⟨gi, li⟩ := getD_at hi
  have hr : reachK 1 h [.ptr (some (i, 0))] = [i] := reach_p (by rw [gi, hrow_names]; rfl)
  unfold sumS impD
  rw [hr]
  have e : AV.renL (fun x => [i].idxOf? x) [.ptr (some (i, 0))] = some [.ptr (some (0, 0))] := by simp [AV.renL, AV.ren, List.idxOf?_cons]
  simp only [List.nodup_cons, List.not_mem_nil, not_false_eq_true, List.nodup_nil, and_self, decide_true, if_true, e, Option.map_some, Option.bind_some, List.map_cons, List.map_nil, gi]
  rw [hrow_ren (rest := (.sl none 0 (.fix 0))) (r := (.sl none 0 (.fix 0))) rfl]
  exact gS_0 s n h0 hn
theorem sum_atr {h : AHeap} {i k : Nat} {s : Nat → Int} {n : Int} {l : List AV} (hi : h[i]? = some (hrow s (.sl (some (k, 0)) l.length (.fix 64)) n)) (hk : h[k]? = some (.row 26 64 (R64 l))) (hik : i ≠ k) (hl : l.all (isInt .u8) = true) (hl0 : 0 < l.length) (h64 : l.length < 64) (h0 : 0 ≤ n) (hn : (l.length : Int) = n % 64) :
    sumS [.ptr (some (i, 0))] h = some (.agg (ints .u8 32 (outB (absorb s (l ++ padL n)).1))) := by
  obtain ⟨gi, li⟩ := getD_at hi
  obtain ⟨gk, lk⟩ := getD_at hk
  have hr : reachK 1 h [.ptr (some (i, 0))] = [i, k] := reach_pr hik (by rw [gi, hrow_names]; rfl)
  unfold sumS impD
  rw [hr]
  have e : AV.renL (fun x => [i, k].idxOf? x) [.ptr (some (i, 0))] = some [.ptr (some (0, 0))] := by simp [AV.renL, AV.ren, List.idxOf?_cons]
  simp only [List.nodup_cons, List.mem_singleton, hik, List.not_mem_nil, not_false_eq_true, List.nodup_nil, and_self, decide_true, if_true, e, Option.map_some, Option.bind_some, List.map_cons, List.map_nil, gi, gk]
  rw [hrow_ren (r := (.sl (some (1, 0)) l.length (.fix 64))) (by simp only [AV.ren, (idx2 hik).2, Option.map_some]), renObj_num (num_int (R64_ints hl)).1]
  exact gS_r s n l hl hl0 h64 h0 hn
theorem sum_nilp {h : AHeap} : ∃ v, sumS [.ptr none] h = some v ∧ v = .agg (z3 .u8 32) := by
  have hv : (runG Try.prog SBs FNo 60 p20 [.ptr none] []).map (·.1) = some (.agg (z3 .u8 32)) := by kernel_rfl
  simp only [Option.map_eq_some_iff] at hv
  obtain ⟨⟨v, h'⟩, g1, g2⟩ := hv
  simp only at g2
  subst g2
  refine ⟨_, ?_, rfl⟩
  unfold sumS gS
  rw [show impD 1 h [.ptr none] = some ([.ptr none], []) from rfl]
  simp only [Option.bind_some, limG_of g1]
  exact if_pos agg_cl

/- The sum of a list of one slice; a copy of bytes: contracts for every memory. -/

noncomputable def SB12 : Specs := mkS Q q5 (fun g => match g with
  | 17 => some (runG Try.prog SBq FNo 40 p17)
  | 18 => some (framedS 1 sW)
  | 20 => some (fun a h => (sumS a h).map (·, h))
  | _ => none)
def h12 (m : Nat) (d : List AV) (s : Nat → Int) (rest : AV) (n : Int) (o : List AV) : AHeap := [.row 23 1 [.sl (some (1, 0)) m (.rel 0)], .row 5 1 d, .row 30 32 o, hrow s rest n]
theorem SB12_ok : SB12.OK Try.prog := mkS_ok quietText q5_ok (fun g s h => by
  split at h
  · cases h; exact nest_ok SBq_ok SBq_q ht17 c17 _ _
  · cases h; exact write_full
  · cases h; exact full_of_quiet sum_ok
  · cases h)
theorem SB12_q : ∀ g, (SB12.q g).isSome = Q g := fun g => mkS_isSome g
noncomputable def s12 : List AV → List AObj → Option (AV × AHeap × List Nat) := fun args hp => (limG Try.prog SB12 FNo p12 args hp).map fun r => (r.1, r.2, [])
theorem sum12_full : FullOK Try.prog 12 (framedS 1 s12) := frame_of_body mixed SB12_ok ht12 1 fun args hp v hq ns h => by
  unfold s12 at h
  simp only [Option.map_eq_some_iff] at h
  obtain ⟨⟨v1, h1⟩, h2, h3⟩ := h
  simp only [Prod.mk.injEq] at h3
  obtain ⟨rfl, rfl, -⟩ := h3
  obtain ⟨n, h4⟩ := limG_inv h2
  exact .inr ⟨_, _, runG_sound SB12_q c12 h4⟩
theorem S12_18 (vs : List AV) (h : AHeap) : (match SB12.q 18 with | some sp => (sp vs h).map (·, h) | none => (SB12.f 18).bind fun sp => sp vs h) = framedS 1 sW vs h := rfl
theorem S12_20 (vs : List AV) (h : AHeap) : (match SB12.q 20 with | some sp => (sp vs h).map (·, h) | none => (SB12.f 20).bind fun sp => sp vs h) = (sumS vs h).map (·, h) := rfl
theorem e12a (s g : Nat → Int) (n : Int) (d Rc : List AV) (m k : Nat) : runVg Try.prog SB12 (sy0 [1, 4]) (cvE [(18, ([.ptr (some (3, 0)), .sl (some (1, 0)) m (.rel 0)], (h12 m d firstI (.sl none 0 (.fix 0)) 0 (z3 .u8 32))), (.int .i64 0, (h12 m d s (.sl none 0 (.fix 0)) n (z3 .u8 32)))), (20, ([.ptr (some (3, 0))], (h12 m d s (.sl none 0 (.fix 0)) n (z3 .u8 32))), (.agg (ints .u8 32 g), (h12 m d s (.sl none 0 (.fix 0)) n (z3 .u8 32))))]) FNo 100 p12 [.sl (some (0, 0)) 1 (.rel 0)] ([.row 23 1 [.sl (some (1, 0)) m (.rel 0)], .row 5 1 d]) [.lit, .lit] = some ((.agg (ints .u8 32 g), h12 m d s (.sl none 0 (.fix 0)) n (ints .u8 32 g)), [true, true, sameH ([.ptr (some (3, 0)), .sl (some (1, 0)) m (.rel 0)], (h12 m d firstI (.sl none 0 (.fix 0)) 0 (z3 .u8 32))) ([.ptr (some (3, 0)), .sl (some (1, 0)) m (.rel 0)], (h12 m d firstI (.sl none 0 (.fix 0)) 0 (z3 .u8 32))), sameH ([.ptr (some (3, 0))], (h12 m d s (.sl none 0 (.fix 0)) n (z3 .u8 32))) ([.ptr (some (3, 0))], (h12 m d s (.sl none 0 (.fix 0)) n (z3 .u8 32))), true, true]) := by kernel_rfl
theorem e12b (s g : Nat → Int) (n : Int) (d Rc : List AV) (m k : Nat) : runVg Try.prog SB12 (sy0 [1, 4]) (cvE [(18, ([.ptr (some (3, 0)), .sl (some (1, 0)) m (.rel 0)], (h12 m d firstI (.sl none 0 (.fix 0)) 0 (z3 .u8 32))), (.int .i64 0, (h12 m d s (.sl (some (4, 0)) k (.fix 64)) n (z3 .u8 32) ++ [AObj.row 26 64 Rc]))), (20, ([.ptr (some (3, 0))], (h12 m d s (.sl (some (4, 0)) k (.fix 64)) n (z3 .u8 32) ++ [AObj.row 26 64 Rc])), (.agg (ints .u8 32 g), (h12 m d s (.sl (some (4, 0)) k (.fix 64)) n (z3 .u8 32) ++ [AObj.row 26 64 Rc])))]) FNo 100 p12 [.sl (some (0, 0)) 1 (.rel 0)] ([.row 23 1 [.sl (some (1, 0)) m (.rel 0)], .row 5 1 d]) [.lit, .lit] = some ((.agg (ints .u8 32 g), h12 m d s (.sl (some (4, 0)) k (.fix 64)) n (ints .u8 32 g) ++ [AObj.row 26 64 Rc]), [true, true, sameH ([.ptr (some (3, 0)), .sl (some (1, 0)) m (.rel 0)], (h12 m d firstI (.sl none 0 (.fix 0)) 0 (z3 .u8 32))) ([.ptr (some (3, 0)), .sl (some (1, 0)) m (.rel 0)], (h12 m d firstI (.sl none 0 (.fix 0)) 0 (z3 .u8 32))), sameH ([.ptr (some (3, 0))], (h12 m d s (.sl (some (4, 0)) k (.fix 64)) n (z3 .u8 32) ++ [AObj.row 26 64 Rc])) ([.ptr (some (3, 0))], (h12 m d s (.sl (some (4, 0)) k (.fix 64)) n (z3 .u8 32) ++ [AObj.row 26 64 Rc])), true, true]) := by kernel_rfl
/-- The sum of these bytes. -/
def shaL (l : List AV) : Nat → Int := outB (absorb firstI (l ++ padL (l.length : Int))).1
theorem sum_state {h : AHeap} {i k : Nat} {l : List AV} (hl : l.all (isInt .u8) = true) (hi : h[i]? = some (hrow (absorb firstI l).1 (restV k (absorb firstI l).2) (l.length : Int))) (hk : (absorb firstI l).2 ≠ [] → h[k]? = some (.row 26 64 (R64 (absorb firstI l).2)) ∧ i ≠ k) :
    sumS [.ptr (some (i, 0))] h = some (.agg (ints .u8 32 (shaL l))) := by
  obtain ⟨a1, a2⟩ := absorb_int firstI hl
  obtain ⟨b1, -⟩ := absorb_len firstI l
  unfold shaL
  rw [absorb_append]
  generalize absorb firstI l = A at *
  obtain ⟨A1, A2⟩ := A
  cases A2 with
  | nil => exact sum_at0 hi (by omega) (by simp only [List.length_nil] at b1; omega)
  | cons a l' =>
    obtain ⟨k1, k2⟩ := hk (by simp)
    exact sum_atr hi k1 k2 a1 (by simp) a2 (by omega) (by have b2 : (a :: l').length = l.length % 64 := b1; omega)
theorem limG12 {d : List AV} {m : Nat} (hd : d.all (isInt .u8) = true) (hm : m = d.length) (hb : m ≤ 65536) : ∃ new, limG Try.prog SB12 FNo p12 [.sl (some (0, 0)) 1 (.rel 0)] [.row 23 1 [.sl (some (1, 0)) m (.rel 0)], .row 5 1 d] = some (.agg (ints .u8 32 (shaL d)), [.row 23 1 [.sl (some (1, 0)) m (.rel 0)], .row 5 1 d] ++ new) := by
  obtain ⟨a1, a2⟩ := absorb_int firstI hd
  have hw := write_fr0 (h := h12 m d firstI (.sl none 0 (.fix 0)) 0 (z3 .u8 32)) (i := 3) (j := 1) (o := 0) (m := m) (q := 0) (s := firstI) (n := 0) (d := d) rfl rfl (by decide) hd (by omega) (by omega) (by omega)
  rw [List.drop_zero, List.take_of_length_le (by omega)] at hw
  have hst := sum_state (h := (h12 m d firstI (.sl none 0 (.fix 0)) 0 (z3 .u8 32)).set 3 (hrow (absorb firstI d).1 (restV 4 (absorb firstI d).2) (0 + (m : Int))) ++ restH (absorb firstI d).2) (i := 3) (k := 4) hd (by rw [show (d.length : Int) = 0 + (m : Int) by omega]; rfl) (fun hne => by
    refine ⟨?_, by decide⟩
    cases hx : (absorb firstI d).2 with
    | nil => exact absurd hx hne
    | cons a l => rfl)
  generalize shaL d = g at *
  generalize absorb firstI d = A at *
  obtain ⟨A1, A2⟩ := A
  cases A2 with
  | nil =>
    have hw' : framedS 1 sW [.ptr (some (3, 0)), .sl (some (1, 0)) m (.rel 0)] (h12 m d firstI (.sl none 0 (.fix 0)) 0 (z3 .u8 32)) = some (.int .i64 0, h12 m d A1 (.sl none 0 (.fix 0)) (0 + (m : Int)) (z3 .u8 32)) := hw
    have hst' : sumS [.ptr (some (3, 0))] (h12 m d A1 (.sl none 0 (.fix 0)) (0 + (m : Int)) (z3 .u8 32)) = some (.agg (ints .u8 32 g)) := hst
    have hr := limG_of (runVg_ok Try.prog SB12 _ _ (cvE_ok (S := SB12) (fun e he => by
      rcases pair_mem he with rfl | rfl
      · exact (S12_18 _ _).trans hw'
      · exact (S12_20 _ _).trans (by rw [hst']; rfl))) (e12a A1 g (0 + (m : Int)) d [] m 0) (by simp only [sameH_self, List.all_cons, List.all_nil, id, Bool.and_self]))
    exact ⟨_, hr⟩
  | cons a l =>
    have hw' : framedS 1 sW [.ptr (some (3, 0)), .sl (some (1, 0)) m (.rel 0)] (h12 m d firstI (.sl none 0 (.fix 0)) 0 (z3 .u8 32)) = some (.int .i64 0, h12 m d A1 (.sl (some (4, 0)) (a :: l).length (.fix 64)) (0 + (m : Int)) (z3 .u8 32) ++ [AObj.row 26 64 (R64 (a :: l))]) := hw
    have hst' : sumS [.ptr (some (3, 0))] (h12 m d A1 (.sl (some (4, 0)) (a :: l).length (.fix 64)) (0 + (m : Int)) (z3 .u8 32) ++ [AObj.row 26 64 (R64 (a :: l))]) = some (.agg (ints .u8 32 g)) := hst
    have hr := limG_of (runVg_ok Try.prog SB12 _ _ (cvE_ok (S := SB12) (fun e he => by
      rcases pair_mem he with rfl | rfl
      · exact (S12_18 _ _).trans hw'
      · exact (S12_20 _ _).trans (by rw [hst']; rfl))) (e12b A1 g (0 + (m : Int)) d (R64 (a :: l)) m (a :: l).length) (by simp only [sameH_self, List.all_cons, List.all_nil, id, Bool.and_self]))
    exact ⟨_, hr⟩
theorem reach_s {h : AHeap} {i j o m : Nat} {c : ACap} (hij : i ≠ j) (hi : (h.getD i .dead).names = [j]) : reachK 1 h [.sl (some (i, o)) m c] = [i, j] := by
  have hji : ¬ j = i := fun e => hij e.symm
  rw [List.getD_eq_getElem?_getD] at hi
  simp [reachK, closeK, AV.namesL, AV.names, List.eraseDups_cons, hi, hji]
/-- The sum of one slice, whatever else is in memory. -/
theorem sum12_fr {h : AHeap} {i j m : Nat} {d : List AV} (hi : h[i]? = some (.row 23 1 [.sl (some (j, 0)) m (.rel 0)])) (hj : h[j]? = some (.row 5 1 d)) (hij : i ≠ j) (hd : d.all (isInt .u8) = true) (hm : m = d.length) (hb : m ≤ 65536) :
    framedS 1 s12 [.sl (some (i, 0)) 1 (.rel 0)] h = some (.agg (ints .u8 32 (shaL d)), h) := by
  obtain ⟨gi, li⟩ := getD_at hi
  obtain ⟨gj, lj⟩ := getD_at hj
  obtain ⟨new, hr⟩ := limG12 hd hm hb
  have hs : s12 [.sl (some (0, 0)) 1 (.rel 0)] (.row 23 1 [.sl (some (1, 0)) m (.rel 0)] :: [j].map fun k => h.getD k .dead) = some (.agg (ints .u8 32 (shaL d)), (.row 23 1 [.sl (some (1, 0)) m (.rel 0)] :: [j].map fun k => h.getD k .dead) ++ new, []) := by
    simp only [List.map_cons, List.map_nil, gj]
    unfold s12
    rw [show ([.row 23 1 [.sl (some (1, 0)) m (.rel 0)], .row 5 1 d] : List AObj) = ([.row 23 1 [.sl (some (1, 0)) m (.rel 0)], .row 5 1 d] : AHeap) from rfl, hr]
    rfl
  exact framed_none (d := 1) (s := s12) (args := [.sl (some (i, 0)) 1 (.rel 0)]) (a := [.sl (some (0, 0)) 1 (.rel 0)]) (h := h) (i := i) (ks := [j]) (o0 := .row 23 1 [.sl (some (1, 0)) m (.rel 0)])
    (reach_s hij (by rw [gi]; rfl)) (by simp [hij]) li (by rw [gi]; rfl) (by simp only [AV.renL, AV.ren, (idx2 hij).1, Option.map_some])
    (by rw [gi]; simp only [renObj, AV.renL, AV.ren, (idx2 hij).2, Option.map_some]) (fun k hk => by rw [List.mem_singleton] at hk; subst hk; rw [gj]; exact (num_int hd).1)
    (by rw [gi]; simp only [renObj, AV.renL, AV.ren, tau_old (n := h.length) (ks := [i, j]) (ns := []) (j := 1) (k := j) rfl, Option.map_some]) hs agg_cl
noncomputable def clone22 (args : List AV) (hp : List AObj) : Option (AV × AHeap × List Nat) := (limG Try.prog SBq FNo p22 args hp).map fun r => (r.1, r.2, match r.1 with | .sl (some (k, _)) _ _ => [k] | _ => [])
theorem clone_full : FullOK Try.prog 22 (freshS clone22) := fresh_of_body mixed SBq_ok ht22 fun args hp v hq ks h => by
  unfold clone22 at h
  simp only [Option.map_eq_some_iff] at h
  obtain ⟨⟨v1, h1⟩, h2, h3⟩ := h
  simp only [Prod.mk.injEq] at h3
  obtain ⟨rfl, rfl, -⟩ := h3
  obtain ⟨n, h4⟩ := limG_inv h2
  exact .inr ⟨_, _, runG_sound SBq_q c22 h4⟩
theorem k22 (cs : List AV) (m c : Nat) : runVg Try.prog SBq (sy0 [0]) noCV FNo 60 p22 [.sl (some (0, 0)) m (.fix c)] [.ro cs] [.lit] = some ((.sl (some (2, 0)) (0 + m) (.rel 0), [.ro cs, .dead, .row 5 1 ([] ++ List.take (m * 1) (List.drop 0 cs))]), [decide (0 + m * 1 ≤ List.length cs), List.all (List.take (m * 1) (List.drop 0 cs)) AV.one, true, true, true, decide ((0 + m) * 1 ≤ 140737488355328), decide (0 + m ≤ 9223372036854775807)]) := by kernel_rfl
theorem clone22_eq (cs : List AV) (hcs : cs.all (isInt .u8) = true) (m c : Nat) (hm : m ≤ cs.length) (hb : m ≤ 65536) (h : AHeap) (hh : cellsAt h 0 = some cs) :
    freshS clone22 [.sl (some (0, 0)) m (.fix c)] h = some (.sl (some (h.length, 0)) m (.rel 0), h ++ [.row 5 1 (cs.take m)]) := by
  have hb1 : (cs.take m).all (isInt .u8) = true := all_sub hcs fun v hv => List.mem_of_mem_take hv
  have hcl : (cs.take m).all AV.closed = true := (num_int (t := 0) (s := 0) hb1).1
  have hi : impArgs h 0 [.sl (some (0, 0)) m (.fix c)] = some ([.sl (some (0, 0)) m (.fix c)], [.ro (cs.take m)]) := by
    simp only [impArgs, impA, hh, Option.bind_some, List.drop_zero, Nat.zero_add, hm, hcl, and_self, if_true, Option.map_some, List.append_nil]
  have hlen : (cs.take m).length = m := by simp; omega
  have e1 : List.take (m * 1) (List.drop 0 (cs.take m)) = cs.take m := by rw [List.drop_zero, Nat.mul_one, List.take_of_length_le (by omega)]
  have hr := limG_of (runVg_ok Try.prog SBq _ _ (noCV_ok _) (k22 (cs.take m) m c) (by
    rw [e1]
    simp only [ints_one hb1, List.all_cons, List.all_nil, id, Bool.and_true, Bool.true_and, Bool.and_eq_true, decide_eq_true_eq]
    omega))
  rw [e1] at hr
  unfold freshS
  rw [hi]
  simp only [Option.bind_some, clone22]
  rw [show ([.ro (cs.take m)] : List AObj) = ([.ro (cs.take m)] : AHeap) from rfl, hr]
  have hk : ([2].idxOf? 2) = some 0 := by decide
  have hro : renOwn (fun i => ([2].idxOf? i).map (h.length + ·)) (.row 5 1 (cs.take m)) = .row 5 1 (cs.take m) := by
    simp only [renOwn, renObj, renL_ints (k := .u8) _ hb1]
  simp only [Option.map_some, List.nodup_cons, List.not_mem_nil, not_false_eq_true, List.nodup_nil, and_self, decide_true, if_true, AV.ren, hk, Nat.add_zero, Nat.zero_add, List.nil_append, List.map_cons, List.map_nil, List.getD_cons_succ, List.getD_cons_zero, hro, Option.bind_some]

/- The resolved code of the two laws; contracts for calls of nothing. -/

def quiet2 : List FuncId := [9,10,11,13,14,19,20,23,24,25,26,27,28,29,31,32,33,34,35,37,38,39]
def Q2 (f : FuncId) : Bool := quiet2.contains f
-- excise/exciselaw24.ShaPieces
def p6_l0 : PC := (.seq (.ops 8 0 [⟨(some 30), .bin .lss (.tmp 29) (.tmp 28), none⟩])
    (.seq (.cond (.tmp 30)
     .skip
     (.exit 0))
    (.seq (.block 1
     (.seq (.ops 9 0 [⟨(some 31), .mov (.tmp 29), none⟩,
       ⟨(some 32), .atL 1 (.tmp 27) (.tmp 29), none⟩,
       ⟨(some 33), .load none (.tmp 32), none⟩,
       ⟨(some 10), .mov (.tmp 31), none⟩,
       ⟨(some 11), .mov (.tmp 33), none⟩])
     (.seq (.ops 10 0 [⟨(some 34), .mov (.tmp 11), none⟩,
       ⟨(some 35), .conv .i64 (.tmp 34), none⟩,
       ⟨(some 36), .mov (.tmp 9), none⟩,
       ⟨(some 37), .lenL (.tmp 36), none⟩,
       ⟨(some 38), .min [(.tmp 35), (.tmp 37)], none⟩,
       ⟨(some 12), .mov (.tmp 38), none⟩])
     (.seq (.ops 11 2 [⟨(some 39), .mov (.tmp 8), none⟩,
       ⟨(some 40), .mov (.tmp 9), none⟩,
       ⟨(some 41), .mov (.tmp 12), none⟩,
       ⟨(some 42), .sliceL 1 (.tmp 40) none (some (.tmp 41)), none⟩,
       ⟨(some 43), .bslice 23 1 1 (.sl none 0 (.fix 0)) [(0, (.tmp 42))], none⟩,
       ⟨(some 44), .append 23 1 24 (.tmp 39) (.tmp 43), none⟩,
       ⟨(some 8), .mov (.tmp 44), none⟩])
     (.seq (.seq (.ops 12 0 [⟨(some 45), .mov (.tmp 7), none⟩,
       ⟨(some 46), .mov (.tmp 9), none⟩,
       ⟨(some 47), .mov (.tmp 12), none⟩,
       ⟨(some 48), .sliceL 1 (.tmp 46) none (some (.tmp 47)), none⟩,
       ⟨(some 49), .call (.func 18) [(.tmp 45), (.tmp 48)], none⟩,
       ⟨(some 50), .bin .neq (.tmp 49) (.const (.int .i64 0)), none⟩])
     (.cond (.tmp 50)
      (.seq (.ops 13 0 [⟨(some 6), .mov (.const (.bool false)), none⟩])
      .ret)
      .skip))
     (.seq (.ops 14 0 [⟨(some 51), .mov (.tmp 9), none⟩,
       ⟨(some 52), .mov (.tmp 12), none⟩,
       ⟨(some 53), .sliceL 1 (.tmp 51) (some (.tmp 52)) none, none⟩,
       ⟨(some 9), .mov (.tmp 53), none⟩])
     (.seq (.seq (.ops 15 1 [⟨(some 54), .mov (.tmp 7), none⟩,
       ⟨(some 55), .call (.func 19) [(.tmp 54)], none⟩,
       ⟨(some 56), .mov (.tmp 0), none⟩,
       ⟨(some 57), .lenL (.tmp 56), none⟩,
       ⟨(some 58), .mov (.tmp 9), none⟩,
       ⟨(some 59), .lenL (.tmp 58), none⟩,
       ⟨(some 60), .bin .sub (.tmp 57) (.tmp 59), none⟩,
       ⟨(some 61), .bin .neq (.tmp 55) (.tmp 60), none⟩,
       ⟨(some 62), .mov (.tmp 61), none⟩,
       ⟨(some 63), .mov (.tmp 7), (some ((some 62), false))⟩,
       ⟨(some 64), .call (.func 20) [(.tmp 63)], (some ((some 62), false))⟩,
       ⟨(some 65), .mov (.tmp 0), (some ((some 62), false))⟩,
       ⟨(some 66), .mov (.tmp 0), (some ((some 62), false))⟩,
       ⟨(some 67), .lenL (.tmp 66), (some ((some 62), false))⟩,
       ⟨(some 68), .mov (.tmp 9), (some ((some 62), false))⟩,
       ⟨(some 69), .lenL (.tmp 68), (some ((some 62), false))⟩,
       ⟨(some 70), .bin .sub (.tmp 67) (.tmp 69), (some ((some 62), false))⟩,
       ⟨(some 71), .sliceL 1 (.tmp 65) none (some (.tmp 70)), (some ((some 62), false))⟩,
       ⟨(some 72), .bslice 23 1 1 (.sl none 0 (.fix 0)) [(0, (.tmp 71))], (some ((some 62), false))⟩,
       ⟨(some 73), .call (.func 12) [(.tmp 72)], (some ((some 62), false))⟩,
       ⟨(some 74), .cmp true 30 (.tmp 64) (.tmp 73), (some ((some 62), false))⟩,
       ⟨(some 75), .pick (.tmp 62) (.const (.bool true)) (.tmp 74), none⟩])
     (.cond (.tmp 75)
      (.seq (.ops 16 0 [⟨(some 6), .mov (.const (.bool false)), none⟩])
      .ret)
      .skip))
     (.seq (.ops 17 0 [⟨(some 76), .mov (.tmp 10), none⟩,
       ⟨(some 77), .mov (.tmp 2), none⟩,
       ⟨(some 78), .conv .i64 (.tmp 77), none⟩,
       ⟨(some 79), .bin .eql (.tmp 76) (.tmp 78), none⟩])
     (.cond (.tmp 79)
      (.seq (.ops 18 0 [⟨(some 80), .mov (.tmp 7), none⟩,
        ⟨(some 81), .call (.func 21) [(.tmp 80)], none⟩,
        ⟨(some 13), .mov (.tmp 81), none⟩])
      (.seq (.seq (.ops 19 1 [⟨(some 82), .mov (.tmp 13), none⟩,
        ⟨(some 83), .cmp false 37 (.tmp 82) (.const (.pointer none)), none⟩,
        ⟨(some 84), .mov (.tmp 83), none⟩,
        ⟨(some 85), .mov (.tmp 7), (some ((some 84), false))⟩,
        ⟨(some 86), .bslice 5 1 1 (.int .u8 0) [(0, (.const (.int .u8 120)))], (some ((some 84), false))⟩,
        ⟨(some 87), .ice (.tmp 86), (some ((some 84), false))⟩,
        ⟨(some 88), .call (.func 18) [(.tmp 85), (.tmp 87)], (some ((some 84), false))⟩,
        ⟨(some 89), .bin .neq (.tmp 88) (.const (.int .i64 0)), (some ((some 84), false))⟩,
        ⟨(some 90), .pick (.tmp 84) (.const (.bool true)) (.tmp 89), none⟩])
      (.cond (.tmp 90)
       (.seq (.ops 20 0 [⟨(some 6), .mov (.const (.bool false)), none⟩])
       .ret)
       .skip))
      (.ops 21 0 [⟨(some 91), .mov (.tmp 13), none⟩,
        ⟨(some 7), .mov (.tmp 91), none⟩])))
      .skip)))))))))
    (.ops 22 0 [⟨(some 92), .bin .add (.tmp 29) (.const (.int .i64 1)), none⟩,
      ⟨(some 29), .mov (.tmp 92), none⟩]))))
def p6 : PF := ⟨(.seq (.ops 0 0 [⟨(some 6), .mov (.const (.bool false)), none⟩])
  (.seq (.ops 1 0 [⟨(some 14), .mov (.tmp 0), none⟩,
    ⟨(some 15), .mov (.tmp 0), none⟩,
    ⟨(some 16), .lenL (.tmp 15), none⟩,
    ⟨(some 17), .min [(.tmp 16), (.const (.int .i64 16384))], none⟩,
    ⟨(some 18), .sliceL 1 (.tmp 14) none (some (.tmp 17)), none⟩,
    ⟨(some 0), .mov (.tmp 18), none⟩])
  (.seq (.ops 2 0 [⟨(some 19), .call (.func 17) [], none⟩,
    ⟨(some 7), .mov (.tmp 19), none⟩])
  (.seq (.seq (.ops 3 0 [⟨(some 20), .call (.func 9) [], none⟩,
    ⟨(some 21), .un .not (.tmp 20), none⟩,
    ⟨(some 22), .mov (.tmp 21), none⟩,
    ⟨(some 23), .mov (.tmp 7), (some ((some 22), false))⟩,
    ⟨(some 24), .cmp false 37 (.tmp 23) (.const (.pointer none)), (some ((some 22), false))⟩,
    ⟨(some 25), .pick (.tmp 22) (.const (.bool true)) (.tmp 24), none⟩])
  (.cond (.tmp 25)
   (.seq (.ops 4 0 [⟨(some 6), .mov (.const (.bool false)), none⟩])
   .ret)
   .skip))
  (.seq (.ops 5 0 [⟨(some 8), .mov (.const (.slice none 0 0)), none⟩])
  (.seq (.ops 6 0 [⟨(some 26), .mov (.tmp 0), none⟩,
    ⟨(some 9), .mov (.tmp 26), none⟩])
  (.seq (.seq (.ops 7 0 [⟨(some 27), .mov (.tmp 1), none⟩,
    ⟨(some 28), .lenL (.tmp 27), none⟩,
    ⟨(some 29), .mov (.const (.int .i64 0)), none⟩])
  (.block 0
   (.loop p6_l0)))
  (.seq (.ops 23 2 [⟨(some 93), .mov (.tmp 8), none⟩,
    ⟨(some 94), .mov (.tmp 9), none⟩,
    ⟨(some 95), .bslice 23 1 1 (.sl none 0 (.fix 0)) [(0, (.tmp 94))], none⟩,
    ⟨(some 96), .append 23 1 24 (.tmp 93) (.tmp 95), none⟩,
    ⟨(some 8), .mov (.tmp 96), none⟩])
  (.seq (.ops 24 2 [⟨(some 97), .mov (.tmp 7), none⟩,
    ⟨(some 98), .mov (.tmp 9), none⟩,
    ⟨(some 99), .call (.func 18) [(.tmp 97), (.tmp 98)], none⟩,
    ⟨(some 100), .bin .eql (.tmp 99) (.const (.int .i64 0)), none⟩,
    ⟨(some 101), .mov (.tmp 100), none⟩,
    ⟨(some 102), .mov (.tmp 7), (some ((some 101), true))⟩,
    ⟨(some 103), .call (.func 20) [(.tmp 102)], (some ((some 101), true))⟩,
    ⟨(some 104), .mov (.tmp 0), (some ((some 101), true))⟩,
    ⟨(some 105), .bslice 23 1 1 (.sl none 0 (.fix 0)) [(0, (.tmp 104))], (some ((some 101), true))⟩,
    ⟨(some 106), .call (.func 12) [(.tmp 105)], (some ((some 101), true))⟩,
    ⟨(some 107), .cmp false 30 (.tmp 103) (.tmp 106), (some ((some 101), true))⟩,
    ⟨(some 108), .pick (.tmp 101) (.tmp 107) (.const (.bool false)), none⟩,
    ⟨(some 109), .mov (.tmp 108), none⟩,
    ⟨(some 110), .mov (.tmp 8), (some ((some 109), true))⟩,
    ⟨(some 111), .call (.func 12) [(.tmp 110)], (some ((some 109), true))⟩,
    ⟨(some 112), .mov (.tmp 0), (some ((some 109), true))⟩,
    ⟨(some 113), .bslice 23 1 1 (.sl none 0 (.fix 0)) [(0, (.tmp 112))], (some ((some 109), true))⟩,
    ⟨(some 114), .call (.func 12) [(.tmp 113)], (some ((some 109), true))⟩,
    ⟨(some 115), .cmp false 30 (.tmp 111) (.tmp 114), (some ((some 109), true))⟩,
    ⟨(some 116), .pick (.tmp 109) (.tmp 115) (.const (.bool false)), none⟩,
    ⟨(some 6), .mov (.tmp 116), none⟩])
  .ret))))))))),
  117, [.tmp 6]⟩
-- excise/exciselaw24.ShaNone
def p7_l0 : PC := (.seq (.ops 13 0 [⟨(some 62), .bin .lss (.tmp 61) (.tmp 60), none⟩])
    (.seq (.cond (.tmp 62)
     .skip
     (.exit 2))
    (.seq (.block 3
     (.seq (.ops 14 0 [⟨(some 63), .mov (.tmp 61), none⟩,
       ⟨(some 7), .mov (.tmp 63), none⟩])
     (.ops 15 0 [⟨(some 64), .mov (.tmp 0), none⟩,
       ⟨(some 65), .mov (.tmp 7), none⟩,
       ⟨(some 66), .atL 1 (.tmp 64) (.tmp 65), none⟩,
       ⟨(some 67), .load none (.tmp 66), none⟩,
       ⟨(some 68), .bin .add (.tmp 67) (.const (.int .u8 1)), none⟩,
       ⟨(some 69), .atL 1 (.tmp 64) (.tmp 65), none⟩,
       ⟨none, .store 1 (.tmp 69) (.tmp 68), none⟩])))
    (.ops 16 0 [⟨(some 70), .bin .add (.tmp 61) (.const (.int .i64 1)), none⟩,
      ⟨(some 61), .mov (.tmp 70), none⟩]))))
def p7_l1 : PC := (.seq (.ops 3 0 [⟨(some 19), .bin .lss (.tmp 18) (.tmp 17), none⟩])
    (.seq (.cond (.tmp 19)
     .skip
     (.exit 0))
    (.seq (.block 1
     (.seq (.ops 4 0 [⟨(some 20), .atL 1 (.tmp 16) (.tmp 18), none⟩,
       ⟨(some 21), .load none (.tmp 20), none⟩,
       ⟨(some 4), .mov (.tmp 21), none⟩])
     (.seq (.ops 5 0 [⟨(some 22), .mov (.tmp 4), none⟩,
       ⟨(some 23), .mov (.tmp 0), none⟩,
       ⟨(some 24), .call (.func 18) [(.tmp 22), (.tmp 23)], none⟩,
       ⟨(some 25), .bin .neq (.tmp 24) (.const (.int .i64 2)), none⟩,
       ⟨(some 26), .mov (.tmp 25), none⟩,
       ⟨(some 27), .mov (.tmp 4), (some ((some 26), false))⟩,
       ⟨(some 28), .call (.func 20) [(.tmp 27)], (some ((some 26), false))⟩,
       ⟨(some 29), .build [(.int .u8 0), (.int .u8 0), (.int .u8 0), (.int .u8 0), (.int .u8 0), (.int .u8 0), (.int .u8 0), (.int .u8 0), (.int .u8 0), (.int .u8 0), (.int .u8 0), (.int .u8 0), (.int .u8 0), (.int .u8 0), (.int .u8 0), (.int .u8 0), (.int .u8 0), (.int .u8 0), (.int .u8 0), (.int .u8 0), (.int .u8 0), (.int .u8 0), (.int .u8 0), (.int .u8 0), (.int .u8 0), (.int .u8 0), (.int .u8 0), (.int .u8 0), (.int .u8 0), (.int .u8 0), (.int .u8 0), (.int .u8 0)] [], (some ((some 26), false))⟩,
       ⟨(some 30), .cmp true 30 (.tmp 28) (.tmp 29), (some ((some 26), false))⟩,
       ⟨(some 31), .pick (.tmp 26) (.const (.bool true)) (.tmp 30), none⟩,
       ⟨(some 32), .mov (.tmp 31), none⟩,
       ⟨(some 33), .mov (.tmp 4), (some ((some 32), false))⟩,
       ⟨(some 34), .call (.func 19) [(.tmp 33)], (some ((some 32), false))⟩,
       ⟨(some 35), .bin .neq (.tmp 34) (.const (.int .i64 0)), (some ((some 32), false))⟩,
       ⟨(some 36), .pick (.tmp 32) (.const (.bool true)) (.tmp 35), none⟩,
       ⟨(some 37), .mov (.tmp 36), none⟩,
       ⟨(some 38), .mov (.tmp 4), (some ((some 37), false))⟩,
       ⟨(some 39), .call (.func 21) [(.tmp 38)], (some ((some 37), false))⟩,
       ⟨(some 40), .cmp true 37 (.tmp 39) (.const (.pointer none)), (some ((some 37), false))⟩,
       ⟨(some 41), .pick (.tmp 37) (.const (.bool true)) (.tmp 40), none⟩])
     (.cond (.tmp 41)
      (.seq (.ops 6 0 [⟨(some 2), .mov (.const (.bool false)), none⟩])
      .ret)
      .skip))))
    (.ops 7 0 [⟨(some 42), .bin .add (.tmp 18) (.const (.int .i64 1)), none⟩,
      ⟨(some 18), .mov (.tmp 42), none⟩]))))
def p7 : PF := ⟨(.seq (.ops 0 0 [⟨(some 2), .mov (.const (.bool false)), none⟩])
  (.seq (.ops 1 0 [⟨(some 8), .mov (.tmp 0), none⟩,
    ⟨(some 9), .mov (.tmp 0), none⟩,
    ⟨(some 10), .lenL (.tmp 9), none⟩,
    ⟨(some 11), .min [(.tmp 10), (.const (.int .i64 4096))], none⟩,
    ⟨(some 12), .sliceL 1 (.tmp 8) none (some (.tmp 11)), none⟩,
    ⟨(some 13), .call (.func 22) [(.tmp 12)], none⟩,
    ⟨(some 0), .mov (.tmp 13), none⟩])
  (.seq (.seq (.ops 2 2 [⟨(some 14), .build [(.bool false), (.int .u32 0), (.int .u32 0), (.int .u32 0), (.int .u32 0), (.int .u32 0), (.int .u32 0), (.int .u32 0), (.int .u32 0), (.sl none 0 (.fix 0)), (.int .i64 0)] [], none⟩,
    ⟨(some 15), .box 47 (.tmp 14), none⟩,
    ⟨(some 16), .bslice 37 1 2 (.ptr none) [(0, (.const (.pointer none))), (1, (.tmp 15))], none⟩,
    ⟨(some 17), .lenL (.tmp 16), none⟩,
    ⟨(some 18), .mov (.const (.int .i64 0)), none⟩])
  (.block 0
   (.loop p7_l1)))
  (.seq (.ops 8 0 [⟨(some 43), .call (.func 17) [], none⟩,
    ⟨(some 5), .mov (.tmp 43), none⟩])
  (.seq (.seq (.ops 9 0 [⟨(some 44), .call (.func 9) [], none⟩,
    ⟨(some 45), .un .not (.tmp 44), none⟩,
    ⟨(some 46), .mov (.tmp 45), none⟩,
    ⟨(some 47), .mov (.tmp 5), (some ((some 46), false))⟩,
    ⟨(some 48), .cmp false 37 (.tmp 47) (.const (.pointer none)), (some ((some 46), false))⟩,
    ⟨(some 49), .pick (.tmp 46) (.const (.bool true)) (.tmp 48), none⟩,
    ⟨(some 50), .mov (.tmp 49), none⟩,
    ⟨(some 51), .mov (.tmp 5), (some ((some 50), false))⟩,
    ⟨(some 52), .mov (.tmp 0), (some ((some 50), false))⟩,
    ⟨(some 53), .call (.func 18) [(.tmp 51), (.tmp 52)], (some ((some 50), false))⟩,
    ⟨(some 54), .bin .neq (.tmp 53) (.const (.int .i64 0)), (some ((some 50), false))⟩,
    ⟨(some 55), .pick (.tmp 50) (.const (.bool true)) (.tmp 54), none⟩])
  (.cond (.tmp 55)
   (.seq (.ops 10 0 [⟨(some 2), .mov (.const (.bool false)), none⟩])
   .ret)
   .skip))
  (.seq (.ops 11 2 [⟨(some 56), .mov (.tmp 0), none⟩,
    ⟨(some 57), .bslice 23 1 1 (.sl none 0 (.fix 0)) [(0, (.tmp 56))], none⟩,
    ⟨(some 58), .call (.func 12) [(.tmp 57)], none⟩,
    ⟨(some 6), .alloc 30 (.agg [(.int .u8 0), (.int .u8 0), (.int .u8 0), (.int .u8 0), (.int .u8 0), (.int .u8 0), (.int .u8 0), (.int .u8 0), (.int .u8 0), (.int .u8 0), (.int .u8 0), (.int .u8 0), (.int .u8 0), (.int .u8 0), (.int .u8 0), (.int .u8 0), (.int .u8 0), (.int .u8 0), (.int .u8 0), (.int .u8 0), (.int .u8 0), (.int .u8 0), (.int .u8 0), (.int .u8 0), (.int .u8 0), (.int .u8 0), (.int .u8 0), (.int .u8 0), (.int .u8 0), (.int .u8 0), (.int .u8 0), (.int .u8 0)]), none⟩,
    ⟨none, .store 32 (.tmp 6) (.tmp 58), none⟩])
  (.seq (.seq (.ops 12 0 [⟨(some 59), .mov (.tmp 0), none⟩,
    ⟨(some 60), .lenL (.tmp 59), none⟩,
    ⟨(some 61), .mov (.const (.int .i64 0)), none⟩])
  (.block 2
   (.loop p7_l0)))
  (.seq (.ops 17 0 [⟨(some 71), .mov (.tmp 5), none⟩,
    ⟨(some 72), .call (.func 20) [(.tmp 71)], none⟩,
    ⟨(some 73), .load (some 32) (.tmp 6), none⟩,
    ⟨(some 74), .cmp false 30 (.tmp 72) (.tmp 73), none⟩,
    ⟨(some 2), .mov (.tmp 74), none⟩])
  .ret)))))))),
  75, [.tmp 2]⟩
theorem c6 : compF Try.prog Q2 Try.f6 = some p6 := by kernel_rfl
theorem c7 : compF Try.prog Q2 Try.f7 = some p7 := by kernel_rfl
theorem quietText2 : ∀ g, Q2 g = true → ∃ fn, HasText Try.prog g fn := by
  intro g hg
  have : g ∈ quiet2 := by simpa [Q2] using hg
  by_cases h : Q g = true
  · exact quietText g h
  · simp only [quiet2, List.mem_cons, List.not_mem_nil, or_false] at this
    rcases this with rfl | rfl | rfl | rfl | rfl | rfl | rfl | rfl | rfl | rfl | rfl | rfl | rfl | rfl | rfl | rfl | rfl | rfl | rfl | rfl | rfl | rfl
    all_goals first | (exact absurd (by decide) h) | exact ⟨_, ht19⟩ | exact ⟨_, ht20⟩ | exact ⟨_, ht35⟩
noncomputable def SB35 : Specs := mkS Q q5 (fun g => match g with
  | 35 => some (runG Try.prog SBq FNo 40 p35)
  | _ => none)
theorem SB35_ok : SB35.OK Try.prog := mkS_ok quietText q5_ok (fun g s h => by
  split at h
  · cases h; exact nest_ok SBq_ok SBq_q ht35 c35 _ _
  · cases h)
theorem SB35_q : ∀ g, (SB35.q g).isSome = Q g := fun g => mkS_isSome g
noncomputable def gL (args : List AV) (hp : List AObj) : Option AV := (runG Try.prog SB35 FNo 40 p19 args hp).bind fun q => if q.1.closed then some q.1 else none
noncomputable def lenS (args : List AV) (h : AHeap) : Option AV := (impD 1 h args).bind fun r => gL r.1 r.2
theorem len_ok : QuietOK Try.prog 19 lenS := quiet_deep mixed SB35_ok ht19 1 fun args hp v h => by
  unfold gL at h
  simp only [Option.bind_eq_some_iff] at h
  obtain ⟨⟨v1, h1⟩, h2, h3⟩ := h
  simp only at h3
  split at h3
  · rename_i hc
    cases h3
    exact ⟨hc, .inr ⟨_, _, _, runG_sound SB35_q c19 h2⟩⟩
  · cases h3
noncomputable def q7 (g : FuncId) : Option (List AV → AHeap → Option AV) := match g with
  | 9 => some fun args _ => begunS args
  | 10 => some fun args _ => blockS args
  | 11 => some fun args _ => blockS args
  | 19 => some lenS
  | 20 => some sumS
  | _ => none
theorem q7_ok (g : FuncId) (s : List AV → AHeap → Option AV) (_ : Q2 g = true) (h : q7 g = some s) : QuietOK Try.prog g s := by
  unfold q7 at h
  split at h
  · cases h; exact begun_okS
  · cases h; exact block_ok
  · cases h; exact rblock_ok
  · cases h; exact len_ok
  · cases h; exact sum_ok
  · cases h
noncomputable def SB7 : Specs := mkS Q2 q7 (fun g => match g with
  | 12 => some (framedS 1 s12)
  | 17 => some (runG Try.prog SBq FNo 40 p17)
  | 18 => some (framedS 1 sW)
  | 21 => some (runG Try.prog SB35 FNo 40 p21)
  | 22 => some (freshS clone22)
  | _ => none)
theorem SB7_ok : SB7.OK Try.prog := mkS_ok quietText2 q7_ok (fun g s h => by
  split at h
  · cases h; exact sum12_full
  · cases h; exact nest_ok SBq_ok SBq_q ht17 c17 _ _
  · cases h; exact write_full
  · cases h; exact nest_ok SB35_ok SB35_q ht21 c21 _ _
  · cases h; exact clone_full
  · cases h)
theorem SB7_q : ∀ g, (SB7.q g).isSome = Q2 g := fun g => mkS_isSome g
theorem S7_12 (vs : List AV) (h : AHeap) : callS SB7 12 vs h = framedS 1 s12 vs h := rfl
theorem S7_18 (vs : List AV) (h : AHeap) : callS SB7 18 vs h = framedS 1 sW vs h := rfl
theorem S7_20 (vs : List AV) (h : AHeap) : callS SB7 20 vs h = (sumS vs h).map (·, h) := rfl
theorem S7_22 (vs : List AV) (h : AHeap) : callS SB7 22 vs h = freshS clone22 vs h := rfl
/-- A hash that no call made. -/
abbrev urow : AObj := .row 47 11 ([.bool false] ++ ints .u32 8 (fun _ => 0) ++ [.sl none 0 (.fix 0), .int .i64 0])
theorem urow_num : urow.num = true := by decide
theorem reach_s0 {h : AHeap} {j o m : Nat} {c : ACap} (hj : (h.getD j .dead).names = []) : reachK 1 h [.ptr none, .sl (some (j, o)) m c] = [j] := by
  rw [List.getD_eq_getElem?_getD] at hj
  simp [reachK, closeK, AV.namesL, AV.names, List.eraseDups_cons, hj]
theorem none_w {d : List AV} {m : Nat} : runG Try.prog SB1 FNo 60 p18 [.ptr none, .sl (some (0, 0)) m (.rel 0)] [.row 5 1 d] = some (.int .i64 2, [.row 5 1 d]) := by kernel_rfl
theorem un_w {d : List AV} {m : Nat} : runG Try.prog SB1 FNo 60 p18 [.ptr (some (0, 0)), .sl (some (1, 0)) m (.rel 0)] [urow, .row 5 1 d] = some (.int .i64 2, [urow, .row 5 1 d]) := by kernel_rfl
theorem write_none {h : AHeap} {j m : Nat} {d : List AV} (hj : h[j]? = some (.row 5 1 d)) (hd : d.all (isInt .u8) = true) : framedS 1 sW [.ptr none, .sl (some (j, 0)) m (.rel 0)] h = some (.int .i64 2, h) := by
  obtain ⟨gj, lj⟩ := getD_at hj
  have hs : sW [.ptr none, .sl (some (0, 0)) m (.rel 0)] (.row 5 1 d :: ([] : List Nat).map fun k => h.getD k .dead) = some (.int .i64 2, (.row 5 1 d :: ([] : List Nat).map fun k => h.getD k .dead) ++ [], []) := by
    simp only [List.map_nil]
    unfold sW
    rw [show ([.row 5 1 d] : List AObj) = ([.row 5 1 d] : AHeap) from rfl, limG_of none_w]
    simp only [Option.map_some, List.getD_cons_zero, (row_names (t := 5) (z := 1) hd).1, List.filter_nil, List.append_nil]
  have hx : ([j].idxOf? j) = some 0 := by simp [List.idxOf?_cons]
  exact framed_none (d := 1) (s := sW) (args := [.ptr none, .sl (some (j, 0)) m (.rel 0)]) (a := [.ptr none, .sl (some (0, 0)) m (.rel 0)]) (h := h) (i := j) (ks := []) (o0 := .row 5 1 d)
    (reach_s0 (by rw [gj]; exact (row_names hd).1)) (by simp) lj (by rw [gj]; rfl) (by simp only [AV.renL, AV.ren, hx, Option.map_some])
    (by rw [gj]; exact renObj_num (num_int hd).1) (fun k hk => by cases hk) (by rw [gj]; exact renObj_num (num_int hd).1) hs rfl
theorem write_un {h : AHeap} {i j m : Nat} {d : List AV} (hi : h[i]? = some urow) (hj : h[j]? = some (.row 5 1 d)) (hij : i ≠ j) (hd : d.all (isInt .u8) = true) : framedS 1 sW [.ptr (some (i, 0)), .sl (some (j, 0)) m (.rel 0)] h = some (.int .i64 2, h) := by
  obtain ⟨gi, li⟩ := getD_at hi
  obtain ⟨gj, lj⟩ := getD_at hj
  have hs : sW [.ptr (some (0, 0)), .sl (some (1, 0)) m (.rel 0)] (urow :: [j].map fun k => h.getD k .dead) = some (.int .i64 2, (urow :: [j].map fun k => h.getD k .dead) ++ [], []) := by
    simp only [List.map_cons, List.map_nil, gj]
    unfold sW
    rw [show ([urow, .row 5 1 d] : List AObj) = ([urow, .row 5 1 d] : AHeap) from rfl, limG_of un_w]
    rfl
  exact framed_none (d := 1) (s := sW) (args := [.ptr (some (i, 0)), .sl (some (j, 0)) m (.rel 0)]) (a := [.ptr (some (0, 0)), .sl (some (1, 0)) m (.rel 0)]) (h := h) (i := i) (ks := [j]) (o0 := urow)
    (reach_ps hij (by rw [gi]; rfl) (by rw [gj]; exact (row_names hd).1)) (by simp [hij]) li (by rw [gi]; rfl) (by simp only [AV.renL, AV.ren, (idx2 hij).1, (idx2 hij).2, Option.map_some])
    (by rw [gi]; exact renObj_num urow_num) (fun k hk => by rw [List.mem_singleton] at hk; subst hk; rw [gj]; exact (num_int hd).1) (by rw [gi]; exact renObj_num urow_num) hs rfl
theorem sum_un {h : AHeap} {i : Nat} (hi : h[i]? = some urow) : sumS [.ptr (some (i, 0))] h = some (.agg (z3 .u8 32)) := by
  obtain ⟨gi, li⟩ := getD_at hi
  have hv : (runG Try.prog SBs FNo 60 p20 [.ptr (some (0, 0))] [roObj urow]).map (·.1) = some (.agg (z3 .u8 32)) := by kernel_rfl
  simp only [Option.map_eq_some_iff] at hv
  obtain ⟨⟨v, h'⟩, g1, g2⟩ := hv
  simp only at g2
  subst g2
  have hr : reachK 1 h [.ptr (some (i, 0))] = [i] := reach_p (by rw [gi]; rfl)
  have e : AV.renL (fun x => [i].idxOf? x) [.ptr (some (i, 0))] = some [.ptr (some (0, 0))] := by simp [AV.renL, AV.ren, List.idxOf?_cons]
  unfold sumS impD
  rw [hr]
  simp only [List.nodup_cons, List.not_mem_nil, not_false_eq_true, List.nodup_nil, and_self, decide_true, if_true, e, Option.map_some, Option.bind_some, List.map_cons, List.map_nil, gi]
  rw [renObj_num urow_num]
  unfold gS
  rw [limG_of g1, Option.bind_some]
  exact if_pos agg_cl

/- The law ShaNone as a run. -/

def F7 (id : Nat) : Tidy := if id = 2 then ⟨keepT 75 [0], .all⟩ else if id = 11 then ⟨keepT 75 [0, 5], .all⟩ else if id = 13 then ⟨keepT 75 [0, 5, 6, 60, 61], .all⟩ else if id = 17 then ⟨keepT 75 [0, 5, 6, 60, 61], .all⟩ else ⟨[], .all⟩
def mN (len : Nat) : Int := if 4096 < (len : Int) then 4096 else (len : Int)
def H7 (cs d : List AV) : AHeap := [.ro cs, .row 5 1 d]
def H7u (cs d : List AV) : AHeap := [.ro cs, .row 5 1 d, urow, .row 37 1 [.ptr none, .ptr (some (2, 0))]]
def H7w (cs d : List AV) (s : Nat → Int) (rest : AV) (n : Int) (r : List AObj) : AHeap := [.ro cs, .row 5 1 d, urow, .row 37 1 [.ptr none, .ptr (some (2, 0))], hrow s rest n] ++ r
def st7 (v : AV) (h : AHeap) : St := ([v, .any, .any, .any, .any, .any, .any, .any, .any, .any, .any, .any, .any, .any, .any, .any, .any, .any, .any, .any, .any, .any, .any, .any, .any, .any, .any, .any, .any, .any, .any, .any, .any, .any, .any, .any, .any, .any, .any, .any, .any, .any, .any, .any, .any, .any, .any, .any, .any, .any, .any, .any, .any, .any, .any, .any, .any, .any, .any, .any, .any, .any, .any, .any, .any, .any, .any, .any, .any, .any, .any, .any, .any, .any, .any], h)
def st7b (m : Nat) (h : AHeap) : St := ([.sl (some (1, 0)) m (.rel 0), .any, .any, .any, .any, .ptr (some (4, 0)), .any, .any, .any, .any, .any, .any, .any, .any, .any, .any, .any, .any, .any, .any, .any, .any, .any, .any, .any, .any, .any, .any, .any, .any, .any, .any, .any, .any, .any, .any, .any, .any, .any, .any, .any, .any, .any, .any, .any, .any, .any, .any, .any, .any, .any, .any, .any, .any, .any, .any, .any, .any, .any, .any, .any, .any, .any, .any, .any, .any, .any, .any, .any, .any, .any, .any, .any, .any, .any], h)
def st7c (m : Nat) (w : Nat) (i : Int) (h : AHeap) : St := ([.sl (some (1, 0)) m (.rel 0), .any, .any, .any, .any, .ptr (some (4, 0)), .ptr (some (w, 0)), .any, .any, .any, .any, .any, .any, .any, .any, .any, .any, .any, .any, .any, .any, .any, .any, .any, .any, .any, .any, .any, .any, .any, .any, .any, .any, .any, .any, .any, .any, .any, .any, .any, .any, .any, .any, .any, .any, .any, .any, .any, .any, .any, .any, .any, .any, .any, .any, .any, .any, .any, .any, .any, .int .i64 (m : Int), .int .i64 i, .any, .any, .any, .any, .any, .any, .any, .any, .any, .any, .any, .any, .any], h)
def p7e : PC := match restOf (cutB 4 p7.body) with | .seq _ t => t | c => c
theorem n7a1 (cs d Rc : List AV) (s g : Nat → Int) (n i : Int) (len cap m k : Nat) : (evVg Try.prog SB7 (sy0 [0, 1]) (cvK [((22, 1), ([.sl (some (0, 0)) (mN len).toNat (.fix cap)], [.ro cs]), (.sl (some (1, 0)) (mN len).toNat (.rel 0), H7 cs (cs.take (mN len).toNat)))]) 1 F7 60 (.inl (cutA 1 p7.body)) (st7 (.sl (some (0, 0)) len (.fix cap)) [.ro cs]) []).map (fun r => (r.1.1, tidy 1 (F7 2) r.1.2, r.2.2)) = some (.normal, st7 (.sl (some (1, 0)) (mN len).toNat (.rel 0)) (H7 cs (cs.take (mN len).toNat)), [decide (0 ≤ if false = true then if 4096 > (↑len : Int) then 4096 else (↑len : Int) else if 4096 < (↑len : Int) then 4096 else (↑len : Int)), decide ((if false = true then if 4096 > (↑len : Int) then 4096 else (↑len : Int) else if 4096 < (↑len : Int) then 4096 else (↑len : Int)) ≤ (↑len : Int)), true, sameArgs ([AV.sl (some (0, 0)) (Int.toNat (mN len)) (ACap.fix cap)], [AObj.ro cs]) ([AV.sl (some (0, 0)) (Int.toNat (mN len)) (ACap.fix cap)], [AObj.ro cs])]) := by kernel_rfl
theorem n7a2a (cs d Rc : List AV) (s g : Nat → Int) (n i : Int) (len cap m k : Nat) : (evVg Try.prog SB7 (sy0 [0, 1]) (cvK [((18, 0), ([.ptr none, (.sl (some (1, 0)) m (.rel 0))], (H7u cs d)), (.int .i64 2, (H7u cs d))), ((20, 0), ([.ptr none], (H7u cs d)), (.agg (z3 .u8 32), (H7u cs d))), ((18, 3), ([.ptr (some (2, 0)), (.sl (some (1, 0)) m (.rel 0))], (H7u cs d)), (.int .i64 2, (H7u cs d))), ((20, 3), ([.ptr (some (2, 0))], (H7u cs d)), (.agg (z3 .u8 32), (H7u cs d))), ((19, 0), ([.ptr none], (H7u cs d)), (.int .i64 0, (H7u cs d))), ((21, 0), ([.ptr none], (H7u cs d)), (.ptr none, (H7u cs d))), ((19, 3), ([.ptr (some (2, 0))], (H7u cs d)), (.int .i64 0, (H7u cs d))), ((21, 3), ([.ptr (some (2, 0))], (H7u cs d)), (.ptr none, (H7u cs d))), ((18, 5), ([.ptr (some (4, 0)), (.sl (some (1, 0)) m (.rel 0))], (H7w cs d firstI (.sl none 0 (.fix 0)) 0 [])), (.int .i64 0, (H7w cs d s (.sl none 0 (.fix 0)) n [])))]) 1 F7 60 (.inl (cutA 2 (cutB 1 p7.body))) (st7 (.sl (some (1, 0)) m (.rel 0)) (H7 cs d)) [Hint.lit, Hint.lit, Hint.lit, Hint.lit, Hint.lit, Hint.lit, Hint.lit, Hint.lit, Hint.lit, Hint.lit, Hint.lit, Hint.lit, Hint.lit, Hint.lit]).map (fun r => (r.1.1, tidy 1 (F7 11) r.1.2, r.2.2)) = some (.normal, st7b m (H7w cs d s (.sl none 0 (.fix 0)) n []), [true, true, sameArgs ([AV.ptr none, AV.sl (some (1, 0)) m (ACap.rel 0)], H7u cs d) ([AV.ptr none, AV.sl (some (1, 0)) m (ACap.rel 0)], H7u cs d), sameArgs ([AV.ptr none], H7u cs d) ([AV.ptr none], H7u cs d), sameArgs ([AV.ptr none], H7u cs d) ([AV.ptr none], H7u cs d), sameArgs ([AV.ptr none], H7u cs d) ([AV.ptr none], H7u cs d), true, true, sameArgs ([AV.ptr (some (2, 0)), AV.sl (some (1, 0)) m (ACap.rel 0)], H7u cs d) ([AV.ptr (some (2, 0)), AV.sl (some (1, 0)) m (ACap.rel 0)], H7u cs d), sameArgs ([AV.ptr (some (2, 0))], H7u cs d) ([AV.ptr (some (2, 0))], H7u cs d), sameArgs ([AV.ptr (some (2, 0))], H7u cs d) ([AV.ptr (some (2, 0))], H7u cs d), sameArgs ([AV.ptr (some (2, 0))], H7u cs d) ([AV.ptr (some (2, 0))], H7u cs d), sameArgs ([AV.ptr (some (4, 0)), AV.sl (some (1, 0)) m (ACap.rel 0)], H7w cs d firstI (AV.sl none 0 (ACap.fix 0)) 0 []) ([AV.ptr (some (4, 0)), AV.sl (some (1, 0)) m (ACap.rel 0)], H7w cs d firstI (AV.sl none 0 (ACap.fix 0)) 0 [])]) := by kernel_rfl
theorem n7a3a (cs d Rc : List AV) (s g : Nat → Int) (n i : Int) (len cap m k : Nat) : (evVg Try.prog SB7 (sy0 [0, 1]) (cvK [((12, 6), ([.sl (some (5, 0)) 1 (.rel 0)], ((H7w cs d s (.sl none 0 (.fix 0)) n []) ++ [AObj.row 23 1 [(.sl (some (1, 0)) m (.rel 0))], AObj.hole])), (.agg (ints .u8 32 g), ((H7w cs d s (.sl none 0 (.fix 0)) n []) ++ [AObj.row 23 1 [(.sl (some (1, 0)) m (.rel 0))], AObj.hole])))]) 1 F7 60 (.inl (headTo (cutB 4 p7.body))) (st7b m (H7w cs d s (.sl none 0 (.fix 0)) n [])) []).map (fun r => (r.1.1, tidy 1 (F7 13) r.1.2, r.2.2)) = some (.normal, st7c m 6 0 (H7w cs d s (.sl none 0 (.fix 0)) n ([] ++ [AObj.row 23 1 [(.sl (some (1, 0)) m (.rel 0))], AObj.row 30 32 (ints .u8 32 g)])), [sameArgs ([AV.sl (some (5, 0)) 1 (ACap.rel 0)], H7w cs d s (AV.sl none 0 (ACap.fix 0)) n [] ++ [AObj.row 23 1 [AV.sl (some (1, 0)) m (ACap.rel 0)], AObj.hole]) ([AV.sl (some (5, 0)) 1 (ACap.rel 0)], H7w cs d s (AV.sl none 0 (ACap.fix 0)) n [] ++ [AObj.row 23 1 [AV.sl (some (1, 0)) m (ACap.rel 0)], AObj.hole]), true, true]) := by kernel_rfl
theorem n7l1at (cs d Rc : List AV) (s g : Nat → Int) (n i : Int) (len cap m k : Nat) : (evVg Try.prog SB7 (sy0 [0, 1]) noCV 1 F7 60 (.inl p7_l0) (st7c m 6 i (H7w cs d s (.sl none 0 (.fix 0)) n ([] ++ [AObj.row 23 1 [(.sl (some (1, 0)) m (.rel 0))], AObj.row 30 32 (ints .u8 32 g)]))) [Hint.is true]).map (fun r => (r.1.1, tidy 1 (F7 13) r.1.2, r.2.2)) = some (.normal, st7c m 6 (IntKind.wrap .i64 (i + 1)) (H7w cs (spliceA d (0 + Int.toNat i * 1) [AV.int .u8 (IntKind.wrap .u8 (dec d (0 + Int.toNat i * 1) + 1))]) s (.sl none 0 (.fix 0)) n ([] ++ [AObj.row 23 1 [(.sl (some (1, 0)) m (.rel 0))], AObj.row 30 32 (ints .u8 32 g)])), [decide (i < (↑m : Int)) == true, decide (0 ≤ i), decide (i < (↑m : Int)), decide (0 + Int.toNat i * 1 < List.length d), List.all d (isInt IntKind.u8), decide (0 ≤ i), decide (i < (↑m : Int)), true, decide (0 + Int.toNat i * 1 + 1 ≤ List.length d)]) := by kernel_rfl
theorem n7l1af (cs d Rc : List AV) (s g : Nat → Int) (n i : Int) (len cap m k : Nat) : (evVg Try.prog SB7 (sy0 [0, 1]) noCV 1 F7 60 (.inl p7_l0) (st7c m 6 i (H7w cs d s (.sl none 0 (.fix 0)) n ([] ++ [AObj.row 23 1 [(.sl (some (1, 0)) m (.rel 0))], AObj.row 30 32 (ints .u8 32 g)]))) [Hint.is false]).map (fun r => (r.1.1, tidy 1 (F7 17) r.1.2, r.2.2)) = some (.exit 2, st7c m 6 i (H7w cs d s (.sl none 0 (.fix 0)) n ([] ++ [AObj.row 23 1 [(.sl (some (1, 0)) m (.rel 0))], AObj.row 30 32 (ints .u8 32 g)])), [decide (i < (↑m : Int)) == false]) := by kernel_rfl
theorem n7l1ae (cs d Rc : List AV) (s g : Nat → Int) (n i : Int) (len cap m k : Nat) : (evVg Try.prog SB7 (sy0 [0, 1]) (cvK [((20, 5), ([.ptr (some (4, 0))], (H7w cs d s (.sl none 0 (.fix 0)) n ([] ++ [AObj.row 23 1 [(.sl (some (1, 0)) m (.rel 0))], AObj.row 30 32 (ints .u8 32 g)]))), (.agg (ints .u8 32 g), (H7w cs d s (.sl none 0 (.fix 0)) n ([] ++ [AObj.row 23 1 [(.sl (some (1, 0)) m (.rel 0))], AObj.row 30 32 (ints .u8 32 g)]))))]) 1 F7 60 (.inl p7e) (st7c m 6 i (H7w cs d s (.sl none 0 (.fix 0)) n ([] ++ [AObj.row 23 1 [(.sl (some (1, 0)) m (.rel 0))], AObj.row 30 32 (ints .u8 32 g)]))) [Hint.is true]).map (fun r => (r.1.1, ((p7.results.mapM (resultA Try.prog r.1.2)).map fun vs => match vs with | [v] => v | vs => .tup vs), r.2.2)) = some (.ret, some (.bool true), [sameArgs ([AV.ptr (some (4, 0))], H7w cs d s (AV.sl none 0 (ACap.fix 0)) n ([] ++ [AObj.row 23 1 [AV.sl (some (1, 0)) m (ACap.rel 0)], AObj.row 30 32 (ints IntKind.u8 32 g)])) ([AV.ptr (some (4, 0))], H7w cs d s (AV.sl none 0 (ACap.fix 0)) n ([] ++ [AObj.row 23 1 [AV.sl (some (1, 0)) m (ACap.rel 0)], AObj.row 30 32 (ints IntKind.u8 32 g)])), (g 0 == g 0 && (g 1 == g 1 && (g 2 == g 2 && (g 3 == g 3 && (g 4 == g 4 && (g 5 == g 5 && (g 6 == g 6 && (g 7 == g 7 && (g 8 == g 8 && (g 9 == g 9 && (g 10 == g 10 && (g 11 == g 11 && (g 12 == g 12 && (g 13 == g 13 && (g 14 == g 14 && (g 15 == g 15 && (g 16 == g 16 && (g 17 == g 17 && (g 18 == g 18 && (g 19 == g 19 && (g 20 == g 20 && (g 21 == g 21 && (g 22 == g 22 && (g 23 == g 23 && (g 24 == g 24 && (g 25 == g 25 && (g 26 == g 26 && (g 27 == g 27 && (g 28 == g 28 && (g 29 == g 29 && (g 30 == g 30 && (g 31 == g 31 && true)))))))))))))))))))))))))))))))) == true]) := by kernel_rfl
theorem n7a2b (cs d Rc : List AV) (s g : Nat → Int) (n i : Int) (len cap m k : Nat) : (evVg Try.prog SB7 (sy0 [0, 1]) (cvK [((18, 0), ([.ptr none, (.sl (some (1, 0)) m (.rel 0))], (H7u cs d)), (.int .i64 2, (H7u cs d))), ((20, 0), ([.ptr none], (H7u cs d)), (.agg (z3 .u8 32), (H7u cs d))), ((18, 3), ([.ptr (some (2, 0)), (.sl (some (1, 0)) m (.rel 0))], (H7u cs d)), (.int .i64 2, (H7u cs d))), ((20, 3), ([.ptr (some (2, 0))], (H7u cs d)), (.agg (z3 .u8 32), (H7u cs d))), ((19, 0), ([.ptr none], (H7u cs d)), (.int .i64 0, (H7u cs d))), ((21, 0), ([.ptr none], (H7u cs d)), (.ptr none, (H7u cs d))), ((19, 3), ([.ptr (some (2, 0))], (H7u cs d)), (.int .i64 0, (H7u cs d))), ((21, 3), ([.ptr (some (2, 0))], (H7u cs d)), (.ptr none, (H7u cs d))), ((18, 5), ([.ptr (some (4, 0)), (.sl (some (1, 0)) m (.rel 0))], (H7w cs d firstI (.sl none 0 (.fix 0)) 0 [])), (.int .i64 0, (H7w cs d s (.sl (some (5, 0)) k (.fix 64)) n [AObj.row 26 64 Rc])))]) 1 F7 60 (.inl (cutA 2 (cutB 1 p7.body))) (st7 (.sl (some (1, 0)) m (.rel 0)) (H7 cs d)) [Hint.lit, Hint.lit, Hint.lit, Hint.lit, Hint.lit, Hint.lit, Hint.lit, Hint.lit, Hint.lit, Hint.lit, Hint.lit, Hint.lit, Hint.lit, Hint.lit]).map (fun r => (r.1.1, tidy 1 (F7 11) r.1.2, r.2.2)) = some (.normal, st7b m (H7w cs d s (.sl (some (5, 0)) k (.fix 64)) n [AObj.row 26 64 Rc]), [true, true, sameArgs ([AV.ptr none, AV.sl (some (1, 0)) m (ACap.rel 0)], H7u cs d) ([AV.ptr none, AV.sl (some (1, 0)) m (ACap.rel 0)], H7u cs d), sameArgs ([AV.ptr none], H7u cs d) ([AV.ptr none], H7u cs d), sameArgs ([AV.ptr none], H7u cs d) ([AV.ptr none], H7u cs d), sameArgs ([AV.ptr none], H7u cs d) ([AV.ptr none], H7u cs d), true, true, sameArgs ([AV.ptr (some (2, 0)), AV.sl (some (1, 0)) m (ACap.rel 0)], H7u cs d) ([AV.ptr (some (2, 0)), AV.sl (some (1, 0)) m (ACap.rel 0)], H7u cs d), sameArgs ([AV.ptr (some (2, 0))], H7u cs d) ([AV.ptr (some (2, 0))], H7u cs d), sameArgs ([AV.ptr (some (2, 0))], H7u cs d) ([AV.ptr (some (2, 0))], H7u cs d), sameArgs ([AV.ptr (some (2, 0))], H7u cs d) ([AV.ptr (some (2, 0))], H7u cs d), sameArgs ([AV.ptr (some (4, 0)), AV.sl (some (1, 0)) m (ACap.rel 0)], H7w cs d firstI (AV.sl none 0 (ACap.fix 0)) 0 []) ([AV.ptr (some (4, 0)), AV.sl (some (1, 0)) m (ACap.rel 0)], H7w cs d firstI (AV.sl none 0 (ACap.fix 0)) 0 [])]) := by kernel_rfl
theorem n7a3b (cs d Rc : List AV) (s g : Nat → Int) (n i : Int) (len cap m k : Nat) : (evVg Try.prog SB7 (sy0 [0, 1]) (cvK [((12, 7), ([.sl (some (6, 0)) 1 (.rel 0)], ((H7w cs d s (.sl (some (5, 0)) k (.fix 64)) n [AObj.row 26 64 Rc]) ++ [AObj.row 23 1 [(.sl (some (1, 0)) m (.rel 0))], AObj.hole])), (.agg (ints .u8 32 g), ((H7w cs d s (.sl (some (5, 0)) k (.fix 64)) n [AObj.row 26 64 Rc]) ++ [AObj.row 23 1 [(.sl (some (1, 0)) m (.rel 0))], AObj.hole])))]) 1 F7 60 (.inl (headTo (cutB 4 p7.body))) (st7b m (H7w cs d s (.sl (some (5, 0)) k (.fix 64)) n [AObj.row 26 64 Rc])) []).map (fun r => (r.1.1, tidy 1 (F7 13) r.1.2, r.2.2)) = some (.normal, st7c m 7 0 (H7w cs d s (.sl (some (5, 0)) k (.fix 64)) n ([AObj.row 26 64 Rc] ++ [AObj.row 23 1 [(.sl (some (1, 0)) m (.rel 0))], AObj.row 30 32 (ints .u8 32 g)])), [sameArgs ([AV.sl (some (6, 0)) 1 (ACap.rel 0)], H7w cs d s (AV.sl (some (5, 0)) k (ACap.fix 64)) n [AObj.row 26 64 Rc] ++ [AObj.row 23 1 [AV.sl (some (1, 0)) m (ACap.rel 0)], AObj.hole]) ([AV.sl (some (6, 0)) 1 (ACap.rel 0)], H7w cs d s (AV.sl (some (5, 0)) k (ACap.fix 64)) n [AObj.row 26 64 Rc] ++ [AObj.row 23 1 [AV.sl (some (1, 0)) m (ACap.rel 0)], AObj.hole]), true, true]) := by kernel_rfl
theorem n7l1bt (cs d Rc : List AV) (s g : Nat → Int) (n i : Int) (len cap m k : Nat) : (evVg Try.prog SB7 (sy0 [0, 1]) noCV 1 F7 60 (.inl p7_l0) (st7c m 7 i (H7w cs d s (.sl (some (5, 0)) k (.fix 64)) n ([AObj.row 26 64 Rc] ++ [AObj.row 23 1 [(.sl (some (1, 0)) m (.rel 0))], AObj.row 30 32 (ints .u8 32 g)]))) [Hint.is true]).map (fun r => (r.1.1, tidy 1 (F7 13) r.1.2, r.2.2)) = some (.normal, st7c m 7 (IntKind.wrap .i64 (i + 1)) (H7w cs (spliceA d (0 + Int.toNat i * 1) [AV.int .u8 (IntKind.wrap .u8 (dec d (0 + Int.toNat i * 1) + 1))]) s (.sl (some (5, 0)) k (.fix 64)) n ([AObj.row 26 64 Rc] ++ [AObj.row 23 1 [(.sl (some (1, 0)) m (.rel 0))], AObj.row 30 32 (ints .u8 32 g)])), [decide (i < (↑m : Int)) == true, decide (0 ≤ i), decide (i < (↑m : Int)), decide (0 + Int.toNat i * 1 < List.length d), List.all d (isInt IntKind.u8), decide (0 ≤ i), decide (i < (↑m : Int)), true, decide (0 + Int.toNat i * 1 + 1 ≤ List.length d)]) := by kernel_rfl
theorem n7l1bf (cs d Rc : List AV) (s g : Nat → Int) (n i : Int) (len cap m k : Nat) : (evVg Try.prog SB7 (sy0 [0, 1]) noCV 1 F7 60 (.inl p7_l0) (st7c m 7 i (H7w cs d s (.sl (some (5, 0)) k (.fix 64)) n ([AObj.row 26 64 Rc] ++ [AObj.row 23 1 [(.sl (some (1, 0)) m (.rel 0))], AObj.row 30 32 (ints .u8 32 g)]))) [Hint.is false]).map (fun r => (r.1.1, tidy 1 (F7 17) r.1.2, r.2.2)) = some (.exit 2, st7c m 7 i (H7w cs d s (.sl (some (5, 0)) k (.fix 64)) n ([AObj.row 26 64 Rc] ++ [AObj.row 23 1 [(.sl (some (1, 0)) m (.rel 0))], AObj.row 30 32 (ints .u8 32 g)])), [decide (i < (↑m : Int)) == false]) := by kernel_rfl
theorem n7l1be (cs d Rc : List AV) (s g : Nat → Int) (n i : Int) (len cap m k : Nat) : (evVg Try.prog SB7 (sy0 [0, 1]) (cvK [((20, 5), ([.ptr (some (4, 0))], (H7w cs d s (.sl (some (5, 0)) k (.fix 64)) n ([AObj.row 26 64 Rc] ++ [AObj.row 23 1 [(.sl (some (1, 0)) m (.rel 0))], AObj.row 30 32 (ints .u8 32 g)]))), (.agg (ints .u8 32 g), (H7w cs d s (.sl (some (5, 0)) k (.fix 64)) n ([AObj.row 26 64 Rc] ++ [AObj.row 23 1 [(.sl (some (1, 0)) m (.rel 0))], AObj.row 30 32 (ints .u8 32 g)]))))]) 1 F7 60 (.inl p7e) (st7c m 7 i (H7w cs d s (.sl (some (5, 0)) k (.fix 64)) n ([AObj.row 26 64 Rc] ++ [AObj.row 23 1 [(.sl (some (1, 0)) m (.rel 0))], AObj.row 30 32 (ints .u8 32 g)]))) [Hint.is true]).map (fun r => (r.1.1, ((p7.results.mapM (resultA Try.prog r.1.2)).map fun vs => match vs with | [v] => v | vs => .tup vs), r.2.2)) = some (.ret, some (.bool true), [sameArgs ([AV.ptr (some (4, 0))], H7w cs d s (AV.sl (some (5, 0)) k (ACap.fix 64)) n ([AObj.row 26 64 Rc] ++ [AObj.row 23 1 [AV.sl (some (1, 0)) m (ACap.rel 0)], AObj.row 30 32 (ints IntKind.u8 32 g)])) ([AV.ptr (some (4, 0))], H7w cs d s (AV.sl (some (5, 0)) k (ACap.fix 64)) n ([AObj.row 26 64 Rc] ++ [AObj.row 23 1 [AV.sl (some (1, 0)) m (ACap.rel 0)], AObj.row 30 32 (ints IntKind.u8 32 g)])), (g 0 == g 0 && (g 1 == g 1 && (g 2 == g 2 && (g 3 == g 3 && (g 4 == g 4 && (g 5 == g 5 && (g 6 == g 6 && (g 7 == g 7 && (g 8 == g 8 && (g 9 == g 9 && (g 10 == g 10 && (g 11 == g 11 && (g 12 == g 12 && (g 13 == g 13 && (g 14 == g 14 && (g 15 == g 15 && (g 16 == g 16 && (g 17 == g 17 && (g 18 == g 18 && (g 19 == g 19 && (g 20 == g 20 && (g 21 == g 21 && (g 22 == g 22 && (g 23 == g 23 && (g 24 == g 24 && (g 25 == g 25 && (g 26 == g 26 && (g 27 == g 27 && (g 28 == g 28 && (g 29 == g 29 && (g 30 == g 30 && (g 31 == g 31 && true)))))))))))))))))))))))))))))))) == true]) := by kernel_rfl

/- The law ShaNone: it comes to true. -/

theorem tidyEv {P : Program} {S : Specs} {b0 : Nat} {F : Nat → Tidy} {id n : Nat} {pc : PC} {st st2 : St} {r : AExit × St} (hid : headId pc = some id) (h1 : tidy b0 (F id) st = st2) (h2 : tidy b0 (F id) st2 = st2) (h : evG P S b0 F n (.inl pc) st2 = some r) : evG P S b0 F n (.inl pc) st = some r :=
  (ev_tidy n hid (h1.trans h2.symm)).trans h
theorem inc_ok {d : List AV} (hd : d.all (isInt .u8) = true) {i : Nat} (hi : i < d.length) (x : Int) : (spliceA d i [AV.int .u8 x]).all (isInt .u8) = true ∧ (spliceA d i [AV.int .u8 x]).length = d.length := by
  have h := splice_ints (k := .u8) (n := d.length) (cs := d) (vs := [.int .u8 x]) (o := i) (by simp [isInts, hd]) (by simp [isInt]) (by simp; omega)
  simp only [isInts, Bool.and_eq_true, beq_iff_eq] at h
  exact ⟨h.2, h.1⟩
theorem sum_un_len {cs d : List AV} : callS SB7 19 [.ptr (some (2, 0))] (H7u cs d) = some (.int .i64 0, H7u cs d) ∧ callS SB7 19 [.ptr none] (H7u cs d) = some (.int .i64 0, H7u cs d) := ⟨by kernel_rfl, by kernel_rfl⟩
theorem un_clone {cs d : List AV} : callS SB7 21 [.ptr (some (2, 0))] (H7u cs d) = some (.ptr none, H7u cs d) ∧ callS SB7 21 [.ptr none] (H7u cs d) = some (.ptr none, H7u cs d) := ⟨by kernel_rfl, by kernel_rfl⟩
theorem beq32 {g : Nat → Int} : ∀ i, (g i == g i) = true := fun i => by simp
theorem loop7a (cs Rc : List AV) (s g : Nat → Int) (n : Int) (m k : Nat) (hm : m ≤ 65536) : ∀ (f i : Nat) (d : List AV), m - i ≤ f → i ≤ m → d.all (isInt .u8) = true → d.length = m →
    ∃ N st' d', evG Try.prog SB7 1 F7 N (.inl (.loop p7_l0)) (st7c m 6 (i : Int) (H7w cs d s (.sl none 0 (.fix 0)) n ([] ++ [AObj.row 23 1 [(.sl (some (1, 0)) m (.rel 0))], AObj.row 30 32 (ints .u8 32 g)]))) = some (.exit 2, st') ∧ tidy 1 (F7 17) st' = st7c m 6 (m : Int) (H7w cs d' s (.sl none 0 (.fix 0)) n ([] ++ [AObj.row 23 1 [(.sl (some (1, 0)) m (.rel 0))], AObj.row 30 32 (ints .u8 32 g)])) := by
  intro f
  induction f with
  | zero =>
    intro i d h1 h2 hd hl
    obtain rfl : i = m := by omega
    have h := n7l1af cs d Rc s g n (i : Int) 0 0 i k
    simp only [Option.map_eq_some_iff] at h
    obtain ⟨⟨⟨e, st'⟩, hs', cl⟩, a1, a2⟩ := h
    simp only [Prod.mk.injEq] at a2
    obtain ⟨rfl, a3, rfl⟩ := a2
    exact ⟨_, st', d, loop_stopg (evVg_ok _ _ _ _ (noCV_ok _) _ _ a1 (by simp)) (fun h => by cases h), a3⟩
  | succ f ih =>
    intro i d h1 h2 hd hl
    rcases Nat.eq_or_lt_of_le h2 with rfl | q
    · exact ih i d (by omega) (Nat.le_refl _) hd hl
    · have ew : IntKind.wrap .i64 ((i : Int) + 1) = ((i + 1 : Nat) : Int) := by rw [IntKind.wrap_i64]; omega
      have h := n7l1at cs d Rc s g n (i : Int) 0 0 m k
      simp only [Option.map_eq_some_iff] at h
      obtain ⟨⟨⟨e, st'⟩, hs', cl⟩, a1, a2⟩ := h
      simp only [Prod.mk.injEq] at a2
      obtain ⟨rfl, a3, rfl⟩ := a2
      have hev := evVg_ok _ _ _ _ (noCV_ok _) _ _ a1 (by
        simp only [hd, hl, Int.toNat_natCast, Nat.zero_add, Nat.mul_one, true_and, List.all_cons, List.all_nil, id, Bool.and_true, Bool.and_eq_true, decide_eq_true_eq, beq_iff_eq]
        omega)
      have et : (0 + Int.toNat ((i : Nat) : Int) * 1) = i := by simp
      rw [ew, et] at a3
      obtain ⟨q1, q2⟩ := inc_ok hd (i := i) (by omega) (IntKind.wrap .u8 (dec d i + 1))
      obtain ⟨N, st2, d', b1, b2⟩ := ih (i + 1) (spliceA d i [AV.int .u8 (IntKind.wrap .u8 (dec d i + 1))]) (by omega) q q1 (by omega)
      refine ⟨max 60 N + 1, st2, d', loop_nextg (id := 13) rfl (evG_le hev (by omega)) (a3.trans ?_) (evG_le b1 (by omega)), b2⟩
      kernel_rfl
theorem loop7b (cs Rc : List AV) (s g : Nat → Int) (n : Int) (m k : Nat) (hm : m ≤ 65536) : ∀ (f i : Nat) (d : List AV), m - i ≤ f → i ≤ m → d.all (isInt .u8) = true → d.length = m →
    ∃ N st' d', evG Try.prog SB7 1 F7 N (.inl (.loop p7_l0)) (st7c m 7 (i : Int) (H7w cs d s (.sl (some (5, 0)) k (.fix 64)) n ([AObj.row 26 64 Rc] ++ [AObj.row 23 1 [(.sl (some (1, 0)) m (.rel 0))], AObj.row 30 32 (ints .u8 32 g)]))) = some (.exit 2, st') ∧ tidy 1 (F7 17) st' = st7c m 7 (m : Int) (H7w cs d' s (.sl (some (5, 0)) k (.fix 64)) n ([AObj.row 26 64 Rc] ++ [AObj.row 23 1 [(.sl (some (1, 0)) m (.rel 0))], AObj.row 30 32 (ints .u8 32 g)])) := by
  intro f
  induction f with
  | zero =>
    intro i d h1 h2 hd hl
    obtain rfl : i = m := by omega
    have h := n7l1bf cs d Rc s g n (i : Int) 0 0 i k
    simp only [Option.map_eq_some_iff] at h
    obtain ⟨⟨⟨e, st'⟩, hs', cl⟩, a1, a2⟩ := h
    simp only [Prod.mk.injEq] at a2
    obtain ⟨rfl, a3, rfl⟩ := a2
    exact ⟨_, st', d, loop_stopg (evVg_ok _ _ _ _ (noCV_ok _) _ _ a1 (by simp)) (fun h => by cases h), a3⟩
  | succ f ih =>
    intro i d h1 h2 hd hl
    rcases Nat.eq_or_lt_of_le h2 with rfl | q
    · exact ih i d (by omega) (Nat.le_refl _) hd hl
    · have ew : IntKind.wrap .i64 ((i : Int) + 1) = ((i + 1 : Nat) : Int) := by rw [IntKind.wrap_i64]; omega
      have h := n7l1bt cs d Rc s g n (i : Int) 0 0 m k
      simp only [Option.map_eq_some_iff] at h
      obtain ⟨⟨⟨e, st'⟩, hs', cl⟩, a1, a2⟩ := h
      simp only [Prod.mk.injEq] at a2
      obtain ⟨rfl, a3, rfl⟩ := a2
      have hev := evVg_ok _ _ _ _ (noCV_ok _) _ _ a1 (by
        simp only [hd, hl, Int.toNat_natCast, Nat.zero_add, Nat.mul_one, true_and, List.all_cons, List.all_nil, id, Bool.and_true, Bool.and_eq_true, decide_eq_true_eq, beq_iff_eq]
        omega)
      have et : (0 + Int.toNat ((i : Nat) : Int) * 1) = i := by simp
      rw [ew, et] at a3
      obtain ⟨q1, q2⟩ := inc_ok hd (i := i) (by omega) (IntKind.wrap .u8 (dec d i + 1))
      obtain ⟨N, st2, d', b1, b2⟩ := ih (i + 1) (spliceA d i [AV.int .u8 (IntKind.wrap .u8 (dec d i + 1))]) (by omega) q q1 (by omega)
      refine ⟨max 60 N + 1, st2, d', loop_nextg (id := 13) rfl (evG_le hev (by omega)) (a3.trans ?_) (evG_le b1 (by omega)), b2⟩
      kernel_rfl
/-- The law comes to true, of a slice that is there. -/
theorem none_some (cs : List AV) (hcs : cs.all (isInt .u8) = true) (len cap : Nat) (h1 : len ≤ cap) (h2 : cap ≤ cs.length) :
    ∃ N h, runG Try.prog SB7 F7 N p7 [.sl (some (0, 0)) len (.fix cap)] [.ro cs] = some (.bool true, h) := by
  have hm : mN len = ((min len 4096 : Nat) : Int) := by unfold mN; split <;> omega
  have hM : (mN len).toNat = min len 4096 := by omega
  have hA := n7a1 cs [] [] (fun _ => 0) (fun _ => 0) 0 0 len cap 0 0
  rw [hM] at hA
  obtain ⟨m, hmd⟩ : ∃ m, m = min len 4096 := ⟨_, rfl⟩
  rw [← hmd] at hA
  obtain ⟨d, hdd⟩ : ∃ d, d = cs.take m := ⟨_, rfl⟩
  have hd : d.all (isInt .u8) = true := by rw [hdd]; exact all_sub hcs fun v hv => List.mem_of_mem_take hv
  have hl : d.length = m := by rw [hdd]; simp; omega
  rw [← hdd] at hA
  have e22 := clone22_eq cs hcs m cap (by omega) (by omega) [.ro cs] rfl
  rw [← hdd] at e22
  simp only [Option.map_eq_some_iff] at hA
  obtain ⟨⟨⟨e, st1⟩, hs1, cl1⟩, a1, a2⟩ := hA
  simp only [Prod.mk.injEq] at a2
  obtain ⟨rfl, a3, rfl⟩ := a2
  have hevA := evK_ok a1 ⟨(S7_22 _ _).trans e22, trivial⟩ (by
    simp only [sameArgs_self, List.all_cons, List.all_nil, id, Bool.and_true, Bool.true_and, Bool.false_eq_true, if_false, Bool.and_eq_true, decide_eq_true_eq]
    split <;> omega)
  have idA : tidy 1 (F7 2) (st7 (.sl (some (1, 0)) m (.rel 0)) (H7 cs d)) = st7 (.sl (some (1, 0)) m (.rel 0)) (H7 cs d) := by kernel_rfl
  have k1 := write_none (h := H7u cs d) (j := 1) (m := m) (d := d) rfl hd
  have k2 := sum_nilp (h := H7u cs d)
  have k3 := write_un (h := H7u cs d) (i := 2) (j := 1) (m := m) (d := d) rfl rfl (by decide) hd
  have k4 := sum_un (h := H7u cs d) (i := 2) rfl
  have k2' : sumS [.ptr none] (H7u cs d) = some (.agg (z3 .u8 32)) := by obtain ⟨v, q1, rfl⟩ := k2; exact q1
  obtain ⟨l2, l1⟩ := sum_un_len (cs := cs) (d := d)
  obtain ⟨c2, c1⟩ := un_clone (cs := cs) (d := d)
  have k5 := write_fr0 (h := H7w cs d firstI (.sl none 0 (.fix 0)) 0 []) (i := 4) (j := 1) (o := 0) (m := m) (q := 0) (s := firstI) (n := 0) (d := d) rfl rfl (by decide) hd (by omega) (by omega) (by omega)
  rw [List.drop_zero, List.take_of_length_le (by omega)] at k5
  obtain ⟨i1, i2⟩ := absorb_int firstI hd
  -- the sums, whatever the bytes have become
  have hsum : ∀ (h : AHeap), h[4]? = some (hrow (absorb firstI d).1 (restV 5 (absorb firstI d).2) (0 + (m : Int))) → ((absorb firstI d).2 ≠ [] → h[5]? = some (.row 26 64 (R64 (absorb firstI d).2))) → sumS [.ptr (some (4, 0))] h = some (.agg (ints .u8 32 (shaL d))) := fun h g1 g2 =>
    sum_state (k := 5) hd (by rw [show (d.length : Int) = 0 + (m : Int) by omega]; exact g1) fun hne => ⟨g2 hne, by decide⟩
  have k12 : ∀ (h : AHeap) (x : Nat), h[x]? = some (.row 23 1 [(.sl (some (1, 0)) m (.rel 0))]) → h[1]? = some (.row 5 1 d) → x ≠ 1 → framedS 1 s12 [.sl (some (x, 0)) 1 (.rel 0)] h = some (.agg (ints .u8 32 (shaL d)), h) := fun h x g1 g2 g3 => sum12_fr g1 g2 g3 hd hl.symm (by omega)
  generalize shaL d = g at *
  generalize absorb firstI d = A at *
  obtain ⟨A1, A2⟩ := A
  have hbody : p7.body = p7.body := rfl
  cases A2 with
  | nil =>
    have k5' : callS SB7 18 [.ptr (some (4, 0)), (.sl (some (1, 0)) m (.rel 0))] (H7w cs d firstI (.sl none 0 (.fix 0)) 0 []) = some (.int .i64 0, (H7w cs d A1 (.sl none 0 (.fix 0)) (0 + (m : Int)) [])) := (S7_18 _ _).trans k5
    have h := n7a2a cs d [] A1 g (0 + (m : Int)) 0 0 0 m 0
    simp only [Option.map_eq_some_iff] at h
    obtain ⟨⟨⟨e, st2⟩, hs2, cl2⟩, b1, b2⟩ := h
    simp only [Prod.mk.injEq] at b2
    obtain ⟨rfl, b3, rfl⟩ := b2
    have hevB := evK_ok b1 ⟨(S7_18 _ _).trans k1, (S7_20 _ _).trans (by rw [k2']; rfl), (S7_18 _ _).trans k3, (S7_20 _ _).trans (by rw [k4]; rfl), l1, c1, l2, c2, k5', trivial⟩ (by simp only [sameArgs_self, List.all_cons, List.all_nil, id, Bool.and_self])
    have idB : tidy 1 (F7 11) (st7b m (H7w cs d A1 (.sl none 0 (.fix 0)) (0 + (m : Int)) [])) = st7b m (H7w cs d A1 (.sl none 0 (.fix 0)) (0 + (m : Int)) []) := by kernel_rfl
    have k12' : callS SB7 12 [.sl (some (5, 0)) 1 (.rel 0)] ((H7w cs d A1 (.sl none 0 (.fix 0)) (0 + (m : Int)) []) ++ [AObj.row 23 1 [(.sl (some (1, 0)) m (.rel 0))], AObj.hole]) = some (.agg (ints .u8 32 g), ((H7w cs d A1 (.sl none 0 (.fix 0)) (0 + (m : Int)) []) ++ [AObj.row 23 1 [(.sl (some (1, 0)) m (.rel 0))], AObj.hole])) := (S7_12 _ _).trans (k12 _ 5 rfl rfl (by decide))
    have h := n7a3a cs d [] A1 g (0 + (m : Int)) 0 0 0 m 0
    simp only [Option.map_eq_some_iff] at h
    obtain ⟨⟨⟨e, st3⟩, hs3, cl3⟩, c1, c2⟩ := h
    simp only [Prod.mk.injEq] at c2
    obtain ⟨rfl, c3, rfl⟩ := c2
    have hevC := evK_ok c1 ⟨k12', trivial⟩ (by simp only [sameArgs_self, List.all_cons, List.all_nil, id, Bool.and_self])
    obtain ⟨N, st4, d', d1, d2⟩ := loop7a cs [] A1 g (0 + (m : Int)) m 0 (by omega) m 0 d (by omega) (by omega) hd hl
    have idC : tidy 1 (F7 13) (st7c m 6 0 (H7w cs d A1 (.sl none 0 (.fix 0)) (0 + (m : Int)) ([] ++ [AObj.row 23 1 [(.sl (some (1, 0)) m (.rel 0))], AObj.row 30 32 (ints .u8 32 g)]))) = st7c m 6 0 (H7w cs d A1 (.sl none 0 (.fix 0)) (0 + (m : Int)) ([] ++ [AObj.row 23 1 [(.sl (some (1, 0)) m (.rel 0))], AObj.row 30 32 (ints .u8 32 g)])) := by kernel_rfl
    have hsum' : callS SB7 20 [.ptr (some (4, 0))] (H7w cs d' A1 (.sl none 0 (.fix 0)) (0 + (m : Int)) ([] ++ [AObj.row 23 1 [(.sl (some (1, 0)) m (.rel 0))], AObj.row 30 32 (ints .u8 32 g)])) = some (.agg (ints .u8 32 g), (H7w cs d' A1 (.sl none 0 (.fix 0)) (0 + (m : Int)) ([] ++ [AObj.row 23 1 [(.sl (some (1, 0)) m (.rel 0))], AObj.row 30 32 (ints .u8 32 g)]))) := (S7_20 _ _).trans (by rw [hsum _ rfl (fun hne => by first | exact absurd rfl hne | rfl)]; rfl)
    have h := n7l1ae cs d' [] A1 g (0 + (m : Int)) (m : Int) 0 0 m 0
    simp only [Option.map_eq_some_iff] at h
    obtain ⟨⟨⟨e, st5⟩, hs5, cl5⟩, f1, f2⟩ := h
    simp only [Prod.mk.injEq] at f2
    obtain ⟨rfl, f3, rfl⟩ := f2
    have hevE := evK_ok f1 ⟨hsum', trivial⟩ (by simp only [sameArgs_self, beq32, List.all_cons, List.all_nil, id, Bool.and_self, Bool.and_true, BEq.rfl])
    have idE : tidy 1 (F7 17) (st7c m 6 (m : Int) (H7w cs d' A1 (.sl none 0 (.fix 0)) (0 + (m : Int)) ([] ++ [AObj.row 23 1 [(.sl (some (1, 0)) m (.rel 0))], AObj.row 30 32 (ints .u8 32 g)]))) = st7c m 6 (m : Int) (H7w cs d' A1 (.sl none 0 (.fix 0)) (0 + (m : Int)) ([] ++ [AObj.row 23 1 [(.sl (some (1, 0)) m (.rel 0))], AObj.row 30 32 (ints .u8 32 g)])) := by kernel_rfl
    have t1 := tidyEv (pc := p7e) rfl d2 idE hevE
    have t2 : evG Try.prog SB7 1 F7 (max N 60 + 2) (.inl (restOf (cutB 2 (cutB 1 p7.body)))) (st7c m 6 0 (H7w cs d A1 (.sl none 0 (.fix 0)) (0 + (m : Int)) ([] ++ [AObj.row 23 1 [(.sl (some (1, 0)) m (.rel 0))], AObj.row 30 32 (ints .u8 32 g)]))) = some (.ret, st5) :=
      seq_rung (n := max N 60 + 1) (a := .block 2 (.loop p7_l0)) (b := p7e) (block_stopg (n := max N 60) (evG_le d1 (by omega))) (evG_le t1 (by omega))
    have t3 := tidyEv (pc := restOf (cutB 2 (cutB 1 p7.body))) (id := 13) (st := st3) rfl c3 idC t2
    obtain ⟨n4, t4⟩ := headTo_rung (cutB 2 (cutB 1 p7.body)) hevC t3
    have t5 := tidyEv (pc := cutB 2 (cutB 1 p7.body)) (id := 11) (st := st2) rfl b3 idB t4
    obtain ⟨n6, t6⟩ := cut_rung 2 (pc := cutB 1 p7.body) rfl hevB t5
    have t7 := tidyEv (pc := cutB 1 p7.body) (id := 2) (st := st1) rfl a3 idA t6
    obtain ⟨n8, t8⟩ := cut_rung 1 (pc := p7.body) rfl hevA t7
    exact ⟨n8, _, runG_ret t8 f3⟩
  | cons a l =>
    have k5' : callS SB7 18 [.ptr (some (4, 0)), (.sl (some (1, 0)) m (.rel 0))] (H7w cs d firstI (.sl none 0 (.fix 0)) 0 []) = some (.int .i64 0, (H7w cs d A1 (.sl (some (5, 0)) (a :: l).length (.fix 64)) (0 + (m : Int)) [AObj.row 26 64 (R64 (a :: l))])) := (S7_18 _ _).trans k5
    have h := n7a2b cs d (R64 (a :: l)) A1 g (0 + (m : Int)) 0 0 0 m (a :: l).length
    simp only [Option.map_eq_some_iff] at h
    obtain ⟨⟨⟨e, st2⟩, hs2, cl2⟩, b1, b2⟩ := h
    simp only [Prod.mk.injEq] at b2
    obtain ⟨rfl, b3, rfl⟩ := b2
    have hevB := evK_ok b1 ⟨(S7_18 _ _).trans k1, (S7_20 _ _).trans (by rw [k2']; rfl), (S7_18 _ _).trans k3, (S7_20 _ _).trans (by rw [k4]; rfl), l1, c1, l2, c2, k5', trivial⟩ (by simp only [sameArgs_self, List.all_cons, List.all_nil, id, Bool.and_self])
    have idB : tidy 1 (F7 11) (st7b m (H7w cs d A1 (.sl (some (5, 0)) (a :: l).length (.fix 64)) (0 + (m : Int)) [AObj.row 26 64 (R64 (a :: l))])) = st7b m (H7w cs d A1 (.sl (some (5, 0)) (a :: l).length (.fix 64)) (0 + (m : Int)) [AObj.row 26 64 (R64 (a :: l))]) := by kernel_rfl
    have k12' : callS SB7 12 [.sl (some (6, 0)) 1 (.rel 0)] ((H7w cs d A1 (.sl (some (5, 0)) (a :: l).length (.fix 64)) (0 + (m : Int)) [AObj.row 26 64 (R64 (a :: l))]) ++ [AObj.row 23 1 [(.sl (some (1, 0)) m (.rel 0))], AObj.hole]) = some (.agg (ints .u8 32 g), ((H7w cs d A1 (.sl (some (5, 0)) (a :: l).length (.fix 64)) (0 + (m : Int)) [AObj.row 26 64 (R64 (a :: l))]) ++ [AObj.row 23 1 [(.sl (some (1, 0)) m (.rel 0))], AObj.hole])) := (S7_12 _ _).trans (k12 _ 6 rfl rfl (by decide))
    have h := n7a3b cs d (R64 (a :: l)) A1 g (0 + (m : Int)) 0 0 0 m (a :: l).length
    simp only [Option.map_eq_some_iff] at h
    obtain ⟨⟨⟨e, st3⟩, hs3, cl3⟩, c1, c2⟩ := h
    simp only [Prod.mk.injEq] at c2
    obtain ⟨rfl, c3, rfl⟩ := c2
    have hevC := evK_ok c1 ⟨k12', trivial⟩ (by simp only [sameArgs_self, List.all_cons, List.all_nil, id, Bool.and_self])
    obtain ⟨N, st4, d', d1, d2⟩ := loop7b cs (R64 (a :: l)) A1 g (0 + (m : Int)) m (a :: l).length (by omega) m 0 d (by omega) (by omega) hd hl
    have idC : tidy 1 (F7 13) (st7c m 7 0 (H7w cs d A1 (.sl (some (5, 0)) (a :: l).length (.fix 64)) (0 + (m : Int)) ([AObj.row 26 64 (R64 (a :: l))] ++ [AObj.row 23 1 [(.sl (some (1, 0)) m (.rel 0))], AObj.row 30 32 (ints .u8 32 g)]))) = st7c m 7 0 (H7w cs d A1 (.sl (some (5, 0)) (a :: l).length (.fix 64)) (0 + (m : Int)) ([AObj.row 26 64 (R64 (a :: l))] ++ [AObj.row 23 1 [(.sl (some (1, 0)) m (.rel 0))], AObj.row 30 32 (ints .u8 32 g)])) := by kernel_rfl
    have hsum' : callS SB7 20 [.ptr (some (4, 0))] (H7w cs d' A1 (.sl (some (5, 0)) (a :: l).length (.fix 64)) (0 + (m : Int)) ([AObj.row 26 64 (R64 (a :: l))] ++ [AObj.row 23 1 [(.sl (some (1, 0)) m (.rel 0))], AObj.row 30 32 (ints .u8 32 g)])) = some (.agg (ints .u8 32 g), (H7w cs d' A1 (.sl (some (5, 0)) (a :: l).length (.fix 64)) (0 + (m : Int)) ([AObj.row 26 64 (R64 (a :: l))] ++ [AObj.row 23 1 [(.sl (some (1, 0)) m (.rel 0))], AObj.row 30 32 (ints .u8 32 g)]))) := (S7_20 _ _).trans (by rw [hsum _ rfl (fun hne => by first | exact absurd rfl hne | rfl)]; rfl)
    have h := n7l1be cs d' (R64 (a :: l)) A1 g (0 + (m : Int)) (m : Int) 0 0 m (a :: l).length
    simp only [Option.map_eq_some_iff] at h
    obtain ⟨⟨⟨e, st5⟩, hs5, cl5⟩, f1, f2⟩ := h
    simp only [Prod.mk.injEq] at f2
    obtain ⟨rfl, f3, rfl⟩ := f2
    have hevE := evK_ok f1 ⟨hsum', trivial⟩ (by simp only [sameArgs_self, beq32, List.all_cons, List.all_nil, id, Bool.and_self, Bool.and_true, BEq.rfl])
    have idE : tidy 1 (F7 17) (st7c m 7 (m : Int) (H7w cs d' A1 (.sl (some (5, 0)) (a :: l).length (.fix 64)) (0 + (m : Int)) ([AObj.row 26 64 (R64 (a :: l))] ++ [AObj.row 23 1 [(.sl (some (1, 0)) m (.rel 0))], AObj.row 30 32 (ints .u8 32 g)]))) = st7c m 7 (m : Int) (H7w cs d' A1 (.sl (some (5, 0)) (a :: l).length (.fix 64)) (0 + (m : Int)) ([AObj.row 26 64 (R64 (a :: l))] ++ [AObj.row 23 1 [(.sl (some (1, 0)) m (.rel 0))], AObj.row 30 32 (ints .u8 32 g)])) := by kernel_rfl
    have t1 := tidyEv (pc := p7e) rfl d2 idE hevE
    have t2 : evG Try.prog SB7 1 F7 (max N 60 + 2) (.inl (restOf (cutB 2 (cutB 1 p7.body)))) (st7c m 7 0 (H7w cs d A1 (.sl (some (5, 0)) (a :: l).length (.fix 64)) (0 + (m : Int)) ([AObj.row 26 64 (R64 (a :: l))] ++ [AObj.row 23 1 [(.sl (some (1, 0)) m (.rel 0))], AObj.row 30 32 (ints .u8 32 g)]))) = some (.ret, st5) :=
      seq_rung (n := max N 60 + 1) (a := .block 2 (.loop p7_l0)) (b := p7e) (block_stopg (n := max N 60) (evG_le d1 (by omega))) (evG_le t1 (by omega))
    have t3 := tidyEv (pc := restOf (cutB 2 (cutB 1 p7.body))) (id := 13) (st := st3) rfl c3 idC t2
    obtain ⟨n4, t4⟩ := headTo_rung (cutB 2 (cutB 1 p7.body)) hevC t3
    have t5 := tidyEv (pc := cutB 2 (cutB 1 p7.body)) (id := 11) (st := st2) rfl b3 idB t4
    obtain ⟨n6, t6⟩ := cut_rung 2 (pc := cutB 1 p7.body) rfl hevB t5
    have t7 := tidyEv (pc := cutB 1 p7.body) (id := 2) (st := st1) rfl a3 idA t6
    obtain ⟨n8, t8⟩ := cut_rung 1 (pc := p7.body) rfl hevA t7
    exact ⟨n8, _, runG_ret t8 f3⟩
noncomputable def NA1 : Specs := mkS Q q5 (fun g => match g with
  | 15 => some (freshS (padF F15 p15))
  | 17 => some (runG Try.prog SBq FNo 40 p17)
  | 35 => some (runG Try.prog SBq FNo 40 p35)
  | 36 => some (runG Try.prog SBq FNo 100 p36)
  | _ => none)
theorem NA1_ok : NA1.OK Try.prog := mkS_ok quietText q5_ok (fun g s h => by
  split at h
  · cases h; exact pad15_full
  · cases h; exact nest_ok SBq_ok SBq_q ht17 c17 _ _
  · cases h; exact nest_ok SBq_ok SBq_q ht35 c35 _ _
  · cases h; exact nest_ok SBq_ok SBq_q ht36 c36 _ _
  · cases h)
theorem NA1_q : ∀ g, (NA1.q g).isSome = Q g := fun g => mkS_isSome g
noncomputable def NA2 : Specs := mkS Q q5 (fun g => match g with
  | 17 => some (runG Try.prog SBq FNo 40 p17)
  | 18 => some (runG Try.prog NA1 FNo 100 p18)
  | 20 => some (runG Try.prog NA1 FNo 100 p20)
  | _ => none)
theorem NA2_ok : NA2.OK Try.prog := mkS_ok quietText q5_ok (fun g s h => by
  split at h
  · cases h; exact nest_ok SBq_ok SBq_q ht17 c17 _ _
  · cases h; exact nest_ok NA1_ok NA1_q ht18 c18 _ _
  · cases h; exact nest_ok NA1_ok NA1_q ht20 c20 _ _
  · cases h)
theorem NA2_q : ∀ g, (NA2.q g).isSome = Q g := fun g => mkS_isSome g
noncomputable def gN (args : List AV) (hp : List AObj) : Option AV := (runG Try.prog NA1 FNo 100 p20 args hp).bind fun q => if q.1.closed then some q.1 else none
noncomputable def sumN (args : List AV) (h : AHeap) : Option AV := (impD 1 h args).bind fun r => gN r.1 r.2
theorem sumN_ok : QuietOK Try.prog 20 sumN := quiet_deep mixed NA1_ok ht20 1 fun args hp v h => by
  unfold gN at h
  simp only [Option.bind_eq_some_iff] at h
  obtain ⟨⟨v1, h1⟩, h2, h3⟩ := h
  simp only at h3
  split at h3
  · rename_i hc
    cases h3
    exact ⟨hc, .inr ⟨_, _, _, runG_sound NA1_q c20 h2⟩⟩
  · cases h3
noncomputable def qN (g : FuncId) : Option (List AV → AHeap → Option AV) := match g with
  | 9 => some fun args _ => begunS args
  | 19 => some lenS
  | 20 => some sumN
  | _ => none
theorem qN_ok (g : FuncId) (s : List AV → AHeap → Option AV) (_ : Q2 g = true) (h : qN g = some s) : QuietOK Try.prog g s := by
  unfold qN at h
  split at h
  · cases h; exact begun_okS
  · cases h; exact len_ok
  · cases h; exact sumN_ok
  · cases h
noncomputable def SN7 : Specs := mkS Q2 qN (fun g => match g with
  | 12 => some (runG Try.prog NA2 FNo 100 p12)
  | 17 => some (runG Try.prog SBq FNo 40 p17)
  | 18 => some (runG Try.prog NA1 FNo 100 p18)
  | 21 => some (runG Try.prog SB35 FNo 40 p21)
  | 22 => some (runG Try.prog SBq FNo 40 p22)
  | _ => none)
theorem SN7_ok : SN7.OK Try.prog := mkS_ok quietText2 qN_ok (fun g s h => by
  split at h
  · cases h; exact nest_ok NA2_ok NA2_q ht12 c12 _ _
  · cases h; exact nest_ok SBq_ok SBq_q ht17 c17 _ _
  · cases h; exact nest_ok NA1_ok NA1_q ht18 c18 _ _
  · cases h; exact nest_ok SB35_ok SB35_q ht21 c21 _ _
  · cases h; exact nest_ok SBq_ok SBq_q ht22 c22 _ _
  · cases h)
theorem SN7_q : ∀ g, (SN7.q g).isSome = Q2 g := fun g => mkS_isSome g
theorem none_nil : (runG Try.prog SN7 FNo 200 p7 [.sl none 0 (.fix 0)] [.dead]).map (·.1) = some (.bool true) := by kernel_rfl
end Go.Proofs.Ytiijphmpkmmpjaa
