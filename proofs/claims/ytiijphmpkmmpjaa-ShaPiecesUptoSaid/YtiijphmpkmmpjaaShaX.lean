/- -/
import Derived.Test.YtiijphmpkmmpjaaSg
import Derived.Test.YtiijphmpkmmpjaaAmZe
namespace Go.Proofs.Ytiijphmpkmmpjaa
open Go Go.Am
set_option maxRecDepth 100000
set_option linter.unusedVariables false
set_option linter.unusedSimpArgs false
/- takes over the small memory of what its arguments reach, paths. -/
/-- The small memories of takes: a hash, what comes, what was left over. -/
def hT (s : Nat → Int) (rest : AV) (n : Int) (d : List AV) : AHeap := [hrow s rest n, .row 5 1 d]
def hTr (s : Nat → Int) (rest : AV) (n : Int) (d Rc : List AV) : AHeap := [hrow s rest n, .row 5 1 d, .ro Rc]
def CT (data rest : AV) (s : Nat → Int) (n : Int) (d : List AV) : St := ([.ptr (some (0, 0)), data, .any, .any, .any, .any, .any, .any, .any, .any, .any, .any, .any, .any, .any, .any, .any, .any, .any, .any, .any, .any, .any, .any, .any, .any, .any, .any, .any, .any, .any, .any, .any, .any, .any, .any, .any, .any, .any, .any, .any, .any, .any, .any, .any, .any, .any, .any, .any, .any, .any, .any, .any, .any, .any, .any, .any, .any, .any, .any, .any, .any, .any, .any, .any, .any, .any, .any, .any, .any, .any], hT s rest n d)
def CTr (data rest : AV) (s : Nat → Int) (n : Int) (d Rc : List AV) : St := ([.ptr (some (0, 0)), data, .any, .any, .any, .any, .any, .any, .any, .any, .any, .any, .any, .any, .any, .any, .any, .any, .any, .any, .any, .any, .any, .any, .any, .any, .any, .any, .any, .any, .any, .any, .any, .any, .any, .any, .any, .any, .any, .any, .any, .any, .any, .any, .any, .any, .any, .any, .any, .any, .any, .any, .any, .any, .any, .any, .any, .any, .any, .any, .any, .any, .any, .any, .any, .any, .any, .any, .any, .any, .any], hTr s rest n d Rc)
abbrev sy1 : Sy := sy0 [1]
abbrev sy12 : Sy := sy0 [1, 2]
abbrev sy123 : Sy := sy0 [1, 2, 3]
theorem x0 (s : Nat → Int) (n : Int) (d Rc : List AV) (o m q k : Nat) : (evVg Try.prog SB0 sy1 cvB 2 F36 60 (.inl p36_l0) (CT (.sl (some (1, o)) m (.rel q)) (.sl none 0 (.fix 0)) s n d) [Hint.is false]).map (fun r => (r.1.1, r.1.2.2, r.2.2)) = some (.exit 0, hT s (.sl none 0 (.fix 0)) n d, [List.all d (isInt IntKind.u8), List.all d (isInt IntKind.u8), decide ((↑m : Int) > 0) == false]) := by kernel_rfl
theorem xe (s : Nat → Int) (n : Int) (d Rc : List AV) (o m q k : Nat) : (evVg Try.prog SB0 sy1 cvB 2 F36 60 (.inl p36_l0) (CT (.slE 1 o q m 1) (.sl none 0 (.fix 0)) s n d) [Hint.lit]).map (fun r => (r.1.1, r.1.2.2, r.2.2)) = some (.exit 0, hT s (.sl none 0 (.fix 0)) n d, [List.all d (isInt IntKind.u8), List.all d (isInt IntKind.u8)]) := by kernel_rfl
theorem x1t (s : Nat → Int) (n : Int) (d Rc : List AV) (o m q k : Nat) : (evVg Try.prog SB0 sy1 cvB 2 F36 60 (.inl p36_l0) (CT (.sl (some (1, o)) m (.rel q)) (.sl none 0 (.fix 0)) s n d) [Hint.is true, Hint.lit, Hint.is true, Hint.is true]).map (fun r => (r.1.1, (tidyV sy1 2 (F36 0) r.1.2).1, (tidyV sy1 2 (F36 0) r.1.2).2, r.2.2)) = some (.normal, CT (.sl (some (1, o + 64 * 1)) (m - 64) (.rel (q + 64))) (.sl none 0 (.fix 0)) (BL s (List.take 64 (List.drop o d))) n d, [d.all (isInt .u8), d.all (isInt .u8)], [List.all d (isInt IntKind.u8), List.all d (isInt IntKind.u8), decide ((↑m : Int) > 0) == true, decide ((↑m : Int) ≥ 64) == true, true, decide (64 ≤ (↑m : Int)), true, true, decide (o + 64 ≤ List.length d), true, isInts IntKind.u8 64 (List.take 64 (List.drop o d)), true, true, true, decide (64 ≤ (↑m : Int)), decide (64 < m)]) := by kernel_rfl
theorem x1f (s : Nat → Int) (n : Int) (d Rc : List AV) (o m q k : Nat) : (evVg Try.prog SB0 sy1 cvB 2 F36 60 (.inl p36_l0) (CT (.sl (some (1, o)) m (.rel q)) (.sl none 0 (.fix 0)) s n d) [Hint.is true, Hint.lit, Hint.is true, Hint.is false]).map (fun r => (r.1.1, (tidyV sy1 2 (F36 0) r.1.2).1, (tidyV sy1 2 (F36 0) r.1.2).2, r.2.2)) = some (.normal, CT (.slE 1 o q 64 1) (.sl none 0 (.fix 0)) (BL s (List.take 64 (List.drop o d))) n d, [d.all (isInt .u8), d.all (isInt .u8)], [List.all d (isInt IntKind.u8), List.all d (isInt IntKind.u8), decide ((↑m : Int) > 0) == true, decide ((↑m : Int) ≥ 64) == true, true, decide (64 ≤ (↑m : Int)), true, true, decide (o + 64 ≤ List.length d), true, isInts IntKind.u8 64 (List.take 64 (List.drop o d)), true, true, true, decide (64 ≤ (↑m : Int)), decide (64 = m), true]) := by kernel_rfl
theorem x2 (s : Nat → Int) (n : Int) (d Rc : List AV) (o m q k : Nat) : (evVg Try.prog SB0 sy12 cvB 2 F36 60 (.inl p36_l0) (CT (.sl (some (1, o)) m (.rel q)) (.sl none 0 (.fix 0)) s n d) [Hint.is true, Hint.lit, Hint.is false, Hint.is false, Hint.is true]).map (fun r => (r.1.1, r.1.2.2, r.2.2)) = some (.ret, hT s (.sl (some (2, 0)) (Int.toNat (IntKind.wrap .i64 (0 + ((min m 64 : Nat) : Int)))) (.fix 64)) n d ++ [.row 26 64 (R64 (List.take (min m 64 * 1) (List.take (m * 1) (List.drop o d))))], [List.all d (isInt IntKind.u8), List.all d (isInt IntKind.u8), decide ((↑m : Int) > 0) == true, decide ((↑m : Int) ≥ 64) == false, true, true, true, true, true, decide (o + m * 1 ≤ List.length d), List.all (List.take (m * 1) (List.drop o d)) AV.one, decide (0 + min m 64 * 1 ≤ List.length (z3 .u8 64)), true, decide ((↑(min m 64) : Int) ≤ (↑m : Int)), decide (min m 64 = m), !decide (min m 64 = 0), decide (IntKind.wrap IntKind.i64 (0 + (↑(min m 64) : Int)) < 64) == true, decide (0 ≤ IntKind.wrap IntKind.i64 (0 + (↑(min m 64) : Int))), decide (IntKind.wrap IntKind.i64 (0 + (↑(min m 64) : Int)) ≤ (↑64 : Int)), true, true, true]) := by kernel_rfl
theorem x0r (s : Nat → Int) (n : Int) (d Rc : List AV) (o m q k : Nat) : (evVg Try.prog SB0 sy123 cvB 3 F36 60 (.inl p36_l0) (CTr (.sl (some (1, o)) m (.rel q)) (.sl none 0 (.fix 0)) s n d Rc) [Hint.is false]).map (fun r => (r.1.1, r.1.2.2, r.2.2)) = some (.exit 0, hTr s (.sl none 0 (.fix 0)) n d Rc, [List.all d (isInt IntKind.u8), List.all Rc (isInt IntKind.u8), List.all d (isInt IntKind.u8), List.all Rc (isInt IntKind.u8), decide ((↑m : Int) > 0) == false]) := by kernel_rfl
theorem xer (s : Nat → Int) (n : Int) (d Rc : List AV) (o m q k : Nat) : (evVg Try.prog SB0 sy123 cvB 3 F36 60 (.inl p36_l0) (CTr (.slE 1 o q m 1) (.sl none 0 (.fix 0)) s n d Rc) [Hint.lit]).map (fun r => (r.1.1, r.1.2.2, r.2.2)) = some (.exit 0, hTr s (.sl none 0 (.fix 0)) n d Rc, [List.all d (isInt IntKind.u8), List.all Rc (isInt IntKind.u8), List.all d (isInt IntKind.u8), List.all Rc (isInt IntKind.u8)]) := by kernel_rfl
theorem x1tr (s : Nat → Int) (n : Int) (d Rc : List AV) (o m q k : Nat) : (evVg Try.prog SB0 sy123 cvB 3 F36 60 (.inl p36_l0) (CTr (.sl (some (1, o)) m (.rel q)) (.sl none 0 (.fix 0)) s n d Rc) [Hint.is true, Hint.lit, Hint.is true, Hint.is true]).map (fun r => (r.1.1, (tidyV sy123 3 (F36 0) r.1.2).1, (tidyV sy123 3 (F36 0) r.1.2).2, r.2.2)) = some (.normal, CTr (.sl (some (1, o + 64 * 1)) (m - 64) (.rel (q + 64))) (.sl none 0 (.fix 0)) (BL s (List.take 64 (List.drop o d))) n d Rc, [d.all (isInt .u8), Rc.all (isInt .u8), d.all (isInt .u8), Rc.all (isInt .u8)], [List.all d (isInt IntKind.u8), List.all Rc (isInt IntKind.u8), List.all d (isInt IntKind.u8), List.all Rc (isInt IntKind.u8), decide ((↑m : Int) > 0) == true, decide ((↑m : Int) ≥ 64) == true, true, decide (64 ≤ (↑m : Int)), true, true, decide (o + 64 ≤ List.length d), true, isInts IntKind.u8 64 (List.take 64 (List.drop o d)), true, true, true, decide (64 ≤ (↑m : Int)), decide (64 < m)]) := by kernel_rfl
theorem x1fr (s : Nat → Int) (n : Int) (d Rc : List AV) (o m q k : Nat) : (evVg Try.prog SB0 sy123 cvB 3 F36 60 (.inl p36_l0) (CTr (.sl (some (1, o)) m (.rel q)) (.sl none 0 (.fix 0)) s n d Rc) [Hint.is true, Hint.lit, Hint.is true, Hint.is false]).map (fun r => (r.1.1, (tidyV sy123 3 (F36 0) r.1.2).1, (tidyV sy123 3 (F36 0) r.1.2).2, r.2.2)) = some (.normal, CTr (.slE 1 o q 64 1) (.sl none 0 (.fix 0)) (BL s (List.take 64 (List.drop o d))) n d Rc, [d.all (isInt .u8), Rc.all (isInt .u8), d.all (isInt .u8), Rc.all (isInt .u8)], [List.all d (isInt IntKind.u8), List.all Rc (isInt IntKind.u8), List.all d (isInt IntKind.u8), List.all Rc (isInt IntKind.u8), decide ((↑m : Int) > 0) == true, decide ((↑m : Int) ≥ 64) == true, true, decide (64 ≤ (↑m : Int)), true, true, decide (o + 64 ≤ List.length d), true, isInts IntKind.u8 64 (List.take 64 (List.drop o d)), true, true, true, decide (64 ≤ (↑m : Int)), decide (64 = m), true]) := by kernel_rfl
theorem x2r (s : Nat → Int) (n : Int) (d Rc : List AV) (o m q k : Nat) : (evVg Try.prog SB0 sy123 cvB 3 F36 60 (.inl p36_l0) (CTr (.sl (some (1, o)) m (.rel q)) (.sl none 0 (.fix 0)) s n d Rc) [Hint.is true, Hint.lit, Hint.is false, Hint.is false, Hint.is true]).map (fun r => (r.1.1, r.1.2.2, r.2.2)) = some (.ret, hTr s (.sl (some (3, 0)) (Int.toNat (IntKind.wrap .i64 (0 + ((min m 64 : Nat) : Int)))) (.fix 64)) n d Rc ++ [.row 26 64 (R64 (List.take (min m 64 * 1) (List.take (m * 1) (List.drop o d))))], [List.all d (isInt IntKind.u8), List.all Rc (isInt IntKind.u8), List.all d (isInt IntKind.u8), List.all Rc (isInt IntKind.u8), decide ((↑m : Int) > 0) == true, decide ((↑m : Int) ≥ 64) == false, true, true, true, true, true, decide (o + m * 1 ≤ List.length d), List.all (List.take (m * 1) (List.drop o d)) AV.one, decide (0 + min m 64 * 1 ≤ List.length (z3 .u8 64)), true, decide ((↑(min m 64) : Int) ≤ (↑m : Int)), decide (min m 64 = m), !decide (min m 64 = 0), decide (IntKind.wrap IntKind.i64 (0 + (↑(min m 64) : Int)) < 64) == true, decide (0 ≤ IntKind.wrap IntKind.i64 (0 + (↑(min m 64) : Int))), decide (IntKind.wrap IntKind.i64 (0 + (↑(min m 64) : Int)) ≤ (↑64 : Int)), true, true, true]) := by kernel_rfl
theorem x4r (s : Nat → Int) (n : Int) (d Rc : List AV) (o m q k : Nat) : (evVg Try.prog SB0 sy123 cvB 3 F36 60 (.inl p36_l0) (CTr (.sl (some (1, o)) m (.rel q)) (.sl (some (2, 0)) k (.fix 64)) s n d Rc) [Hint.is true, Hint.is false, Hint.is false, Hint.is true]).map (fun r => (r.1.1, r.1.2.2, r.2.2)) = some (.ret, hTr s (.sl (some (3, 0)) (Int.toNat (IntKind.wrap .i64 (((min k 64 : Nat) : Int) + (((min m (64 - min k 64)) : Nat) : Int)))) (.fix 64)) n d Rc ++ [.row 26 64 (spliceA (spliceA (z3 .u8 64) 0 (List.take (min k 64 * 1) (List.take (k * 1) (List.drop 0 Rc)))) (if min k 64 = 64 then 0 else 0 + min k 64 * 1) (List.take (min m (64 - min k 64) * 1) (List.take (m * 1) (List.drop o d))))], [List.all d (isInt IntKind.u8), List.all Rc (isInt IntKind.u8), List.all d (isInt IntKind.u8), List.all Rc (isInt IntKind.u8), decide ((↑m : Int) > 0) == true, ((↑k : Int) == 0) == false, true, decide (0 + k * 1 ≤ List.length Rc), List.all (List.take (k * 1) (List.drop 0 Rc)) AV.one, decide (0 + min k 64 * 1 ≤ List.length (z3 .u8 64)), true, decide ((↑(min k 64) : Int) ≤ (↑64 : Int)), decide (o + m * 1 ≤ List.length d), List.all (List.take (m * 1) (List.drop o d)) AV.one, decide ((if min k 64 = 64 then 0 else 0 + min k 64 * 1) + min m (64 - min k 64) * 1 ≤ List.length (spliceA (z3 .u8 64) 0 (List.take (min k 64 * 1) (List.take (k * 1) (List.drop 0 Rc))))), true, decide ((↑(min m (64 - min k 64)) : Int) ≤ (↑m : Int)), decide (min m (64 - min k 64) = m), !decide (min m (64 - min k 64) = 0), decide (IntKind.wrap IntKind.i64 ((↑(min k 64) : Int) + (↑(min m (64 - min k 64)) : Int)) < 64) == true, decide (0 ≤ IntKind.wrap IntKind.i64 ((↑(min k 64) : Int) + (↑(min m (64 - min k 64)) : Int))), decide (IntKind.wrap IntKind.i64 ((↑(min k 64) : Int) + (↑(min m (64 - min k 64)) : Int)) ≤ (↑64 : Int)), true, true, true]) := by kernel_rfl
theorem x3tr (s : Nat → Int) (n : Int) (d Rc : List AV) (o m q k : Nat) : (evVg Try.prog SB0 sy123 cvB 3 F36 60 (.inl p36_l0) (CTr (.sl (some (1, o)) m (.rel q)) (.sl (some (2, 0)) k (.fix 64)) s n d Rc) [Hint.is true, Hint.is false, Hint.is true, Hint.is false]).map (fun r => (r.1.1, (tidyV sy123 3 (F36 0) r.1.2).1, (tidyV sy123 3 (F36 0) r.1.2).2, r.2.2)) = some (.normal, CTr (.sl (some (1, o + (min m (64 - min k 64)) * 1)) (m - (min m (64 - min k 64))) (.rel (q + (min m (64 - min k 64))))) (.sl none 0 (.fix 0)) (BL s (List.take 64 (List.drop 0 (spliceA (spliceA (z3 .u8 64) 0 (List.take (min k 64 * 1) (List.take (k * 1) (List.drop 0 Rc)))) (if min k 64 = 64 then 0 else 0 + min k 64 * 1) (List.take (min m (64 - min k 64) * 1) (List.take (m * 1) (List.drop o d))))))) n d Rc, [d.all (isInt .u8), Rc.all (isInt .u8), (spliceA (spliceA (z3 .u8 64) 0 (List.take (min k 64 * 1) (List.take (k * 1) (List.drop 0 Rc)))) (if min k 64 = 64 then 0 else 0 + min k 64 * 1) (List.take (min m (64 - min k 64) * 1) (List.take (m * 1) (List.drop o d)))).all (isInt .u8), d.all (isInt .u8), Rc.all (isInt .u8)], [List.all d (isInt IntKind.u8), List.all Rc (isInt IntKind.u8), List.all d (isInt IntKind.u8), List.all Rc (isInt IntKind.u8), decide ((↑m : Int) > 0) == true, ((↑k : Int) == 0) == false, true, decide (0 + k * 1 ≤ List.length Rc), List.all (List.take (k * 1) (List.drop 0 Rc)) AV.one, decide (0 + min k 64 * 1 ≤ List.length (z3 .u8 64)), true, decide ((↑(min k 64) : Int) ≤ (↑64 : Int)), decide (o + m * 1 ≤ List.length d), List.all (List.take (m * 1) (List.drop o d)) AV.one, decide ((if min k 64 = 64 then 0 else 0 + min k 64 * 1) + min m (64 - min k 64) * 1 ≤ List.length (spliceA (z3 .u8 64) 0 (List.take (min k 64 * 1) (List.take (k * 1) (List.drop 0 Rc))))), true, decide ((↑(min m (64 - min k 64)) : Int) ≤ (↑m : Int)), decide (min m (64 - min k 64) < m), decide (IntKind.wrap IntKind.i64 ((↑(min k 64) : Int) + (↑(min m (64 - min k 64)) : Int)) < 64) == false, decide (0 + 64 ≤ List.length (spliceA (spliceA (z3 .u8 64) 0 (List.take (min k 64 * 1) (List.take (k * 1) (List.drop 0 Rc)))) (if min k 64 = 64 then 0 else 0 + min k 64 * 1) (List.take (min m (64 - min k 64) * 1) (List.take (m * 1) (List.drop o d))))), true, isInts IntKind.u8 64 (List.take 64 (List.drop 0 (spliceA (spliceA (z3 .u8 64) 0 (List.take (min k 64 * 1) (List.take (k * 1) (List.drop 0 Rc)))) (if min k 64 = 64 then 0 else 0 + min k 64 * 1) (List.take (min m (64 - min k 64) * 1) (List.take (m * 1) (List.drop o d)))))), true, true, true, true]) := by kernel_rfl
theorem x3fr (s : Nat → Int) (n : Int) (d Rc : List AV) (o m q k : Nat) : (evVg Try.prog SB0 sy123 cvB 3 F36 60 (.inl p36_l0) (CTr (.sl (some (1, o)) m (.rel q)) (.sl (some (2, 0)) k (.fix 64)) s n d Rc) [Hint.is true, Hint.is false, Hint.is false, Hint.is false]).map (fun r => (r.1.1, (tidyV sy123 3 (F36 0) r.1.2).1, (tidyV sy123 3 (F36 0) r.1.2).2, r.2.2)) = some (.normal, CTr (.slE 1 o q (min m (64 - min k 64)) 1) (.sl none 0 (.fix 0)) (BL s (List.take 64 (List.drop 0 (spliceA (spliceA (z3 .u8 64) 0 (List.take (min k 64 * 1) (List.take (k * 1) (List.drop 0 Rc)))) (if min k 64 = 64 then 0 else 0 + min k 64 * 1) (List.take (min m (64 - min k 64) * 1) (List.take (m * 1) (List.drop o d))))))) n d Rc, [d.all (isInt .u8), Rc.all (isInt .u8), (spliceA (spliceA (z3 .u8 64) 0 (List.take (min k 64 * 1) (List.take (k * 1) (List.drop 0 Rc)))) (if min k 64 = 64 then 0 else 0 + min k 64 * 1) (List.take (min m (64 - min k 64) * 1) (List.take (m * 1) (List.drop o d)))).all (isInt .u8), d.all (isInt .u8), Rc.all (isInt .u8)], [List.all d (isInt IntKind.u8), List.all Rc (isInt IntKind.u8), List.all d (isInt IntKind.u8), List.all Rc (isInt IntKind.u8), decide ((↑m : Int) > 0) == true, ((↑k : Int) == 0) == false, true, decide (0 + k * 1 ≤ List.length Rc), List.all (List.take (k * 1) (List.drop 0 Rc)) AV.one, decide (0 + min k 64 * 1 ≤ List.length (z3 .u8 64)), true, decide ((↑(min k 64) : Int) ≤ (↑64 : Int)), decide (o + m * 1 ≤ List.length d), List.all (List.take (m * 1) (List.drop o d)) AV.one, decide ((if min k 64 = 64 then 0 else 0 + min k 64 * 1) + min m (64 - min k 64) * 1 ≤ List.length (spliceA (z3 .u8 64) 0 (List.take (min k 64 * 1) (List.take (k * 1) (List.drop 0 Rc))))), true, decide ((↑(min m (64 - min k 64)) : Int) ≤ (↑m : Int)), decide (min m (64 - min k 64) = m), !decide (min m (64 - min k 64) = 0), decide (IntKind.wrap IntKind.i64 ((↑(min k 64) : Int) + (↑(min m (64 - min k 64)) : Int)) < 64) == false, decide (0 + 64 ≤ List.length (spliceA (spliceA (z3 .u8 64) 0 (List.take (min k 64 * 1) (List.take (k * 1) (List.drop 0 Rc)))) (if min k 64 = 64 then 0 else 0 + min k 64 * 1) (List.take (min m (64 - min k 64) * 1) (List.take (m * 1) (List.drop o d))))), true, isInts IntKind.u8 64 (List.take 64 (List.drop 0 (spliceA (spliceA (z3 .u8 64) 0 (List.take (min k 64 * 1) (List.take (k * 1) (List.drop 0 Rc)))) (if min k 64 = 64 then 0 else 0 + min k 64 * 1) (List.take (min m (64 - min k 64) * 1) (List.take (m * 1) (List.drop o d)))))), true, true, true, true]) := by kernel_rfl
theorem tie (s : Nat → Int) (n : Int) (d Rc : List AV) (o q m : Nat) : ((tidyV sy1 2 (F36 0) (CT (.slE 1 o q m 1) (.sl none 0 (.fix 0)) s n d)).1, (tidyV sy1 2 (F36 0) (CT (.slE 1 o q m 1) (.sl none 0 (.fix 0)) s n d)).2) = (CT (.slE 1 o q m 1) (.sl none 0 (.fix 0)) s n d, [d.all (isInt .u8), d.all (isInt .u8)]) := by kernel_rfl
theorem tis (s : Nat → Int) (n : Int) (d Rc : List AV) (o q m : Nat) : ((tidyV sy1 2 (F36 0) (CT (.sl (some (1, o)) m (.rel q)) (.sl none 0 (.fix 0)) s n d)).1, (tidyV sy1 2 (F36 0) (CT (.sl (some (1, o)) m (.rel q)) (.sl none 0 (.fix 0)) s n d)).2) = (CT (.sl (some (1, o)) m (.rel q)) (.sl none 0 (.fix 0)) s n d, [d.all (isInt .u8), d.all (isInt .u8)]) := by kernel_rfl
theorem tire (s : Nat → Int) (n : Int) (d Rc : List AV) (o q m : Nat) : ((tidyV sy123 3 (F36 0) (CTr (.slE 1 o q m 1) (.sl none 0 (.fix 0)) s n d Rc)).1, (tidyV sy123 3 (F36 0) (CTr (.slE 1 o q m 1) (.sl none 0 (.fix 0)) s n d Rc)).2) = (CTr (.slE 1 o q m 1) (.sl none 0 (.fix 0)) s n d Rc, [d.all (isInt .u8), Rc.all (isInt .u8), d.all (isInt .u8), Rc.all (isInt .u8)]) := by kernel_rfl
theorem tirs (s : Nat → Int) (n : Int) (d Rc : List AV) (o q m : Nat) : ((tidyV sy123 3 (F36 0) (CTr (.sl (some (1, o)) m (.rel q)) (.sl none 0 (.fix 0)) s n d Rc)).1, (tidyV sy123 3 (F36 0) (CTr (.sl (some (1, o)) m (.rel q)) (.sl none 0 (.fix 0)) s n d Rc)).2) = (CTr (.sl (some (1, o)) m (.rel q)) (.sl none 0 (.fix 0)) s n d Rc, [d.all (isInt .u8), Rc.all (isInt .u8), d.all (isInt .u8), Rc.all (isInt .u8)]) := by kernel_rfl
/- takes over the small memory of what its arguments reach: what it comes to. -/
theorem takeN (n : Int) (d Rc : List AV) (hd : d.all (isInt .u8) = true) : ∀ (f m o q : Nat) (s : Nat → Int), m ≤ f → o + m ≤ d.length →
    ∃ N e st', evG Try.prog SB0 2 F36 N (.inl (.loop p36_l0)) (CT (.sl (some (1, o)) m (.rel q)) (.sl none 0 (.fix 0)) s n d) = some (e, st') ∧ (e = .exit 0 ∨ e = .ret) ∧
      st'.2 = hT (absorb s ((d.drop o).take m)).1 (restV 2 (absorb s ((d.drop o).take m)).2) n d ++ restH (absorb s ((d.drop o).take m)).2 := by
  intro f
  induction f with
  | zero =>
    intro m o q s h1 h2
    obtain rfl : m = 0 := by omega
    have h := x0 s n d Rc o 0 q 0
    simp only [Option.map_eq_some_iff] at h
    obtain ⟨⟨⟨e, st'⟩, hs', cl⟩, a1, a2⟩ := h
    simp only [Prod.mk.injEq] at a2
    obtain ⟨rfl, a3, rfl⟩ := a2
    refine ⟨_, _, st', loop_stopg (evVg_ok _ _ _ _ cvB_ok _ _ a1 (by simp [hd])) (fun h => by cases h), .inl rfl, ?_⟩
    rw [a3, List.take_zero, absorb_end (by simp)]
    simp [restV, restH]
  | succ f ih =>
    intro m o q s h1 h2
    have hl : ((d.drop o).take m).length = m := by simp; omega
    rcases Nat.eq_zero_or_pos m with rfl | hpos
    · exact ih 0 o q s (by omega) h2
    · rcases Nat.lt_or_ge m 64 with g | g
      · have h := x2 s n d Rc o m q 0
        simp only [Option.map_eq_some_iff] at h
        obtain ⟨⟨⟨e, st'⟩, hs', cl⟩, a1, a2⟩ := h
        simp only [Prod.mk.injEq] at a2
        obtain ⟨rfl, a3, rfl⟩ := a2
        have ew : IntKind.wrap .i64 (0 + ((min m 64 : Nat) : Int)) = (m : Int) := by rw [IntKind.wrap_i64]; omega
        have hone : List.all (List.take (m * 1) (List.drop o d)) AV.one = true := ints_one (k := .u8) (all_sub hd fun v hv => List.mem_of_mem_drop (List.mem_of_mem_take hv))
        refine ⟨_, _, st', loop_stopg (evVg_ok _ _ _ _ cvB_ok _ _ a1 ?_) (fun h => by cases h), .inr rfl, ?_⟩
        · rw [ew]
          simp only [hd, hone, z3, ints_length, List.all_cons, List.all_nil, id, Bool.and_true, Bool.and_eq_true, decide_eq_true_eq, beq_iff_eq, decide_eq_false_iff_not, Bool.not_eq_true']
          simp
          omega
        · rw [a3, ew, absorb_end (by rw [hl]; exact g)]
          have e1 : List.take (min m 64 * 1) (List.take (m * 1) (List.drop o d)) = (d.drop o).take m := by
            rw [Nat.mul_one, Nat.mul_one, Nat.min_eq_left (by omega), List.take_take, Nat.min_self]
          rw [e1]
          have hne : (d.drop o).take m ≠ [] := fun h => by rw [h] at hl; simp at hl; omega
          obtain ⟨a, l, hal⟩ : ∃ a l, (d.drop o).take m = a :: l := by
            cases hx : (d.drop o).take m with
            | nil => exact absurd hx hne
            | cons a l => exact ⟨a, l, rfl⟩
          rw [hal] at hl
          rw [hal]
          simp only [restV, restH, hl, Int.toNat_natCast]
      · have hint : isInts IntKind.u8 64 (List.take 64 (List.drop o d)) = true := by
          simp only [isInts, Bool.and_eq_true, beq_iff_eq]
          exact ⟨by simp; omega, all_sub hd fun v hv => List.mem_of_mem_drop (List.mem_of_mem_take hv)⟩
        have et : ((d.drop o).take m).take 64 = (d.drop o).take 64 := by rw [List.take_take, Nat.min_eq_left g]
        rcases Nat.lt_or_ge 64 m with g2 | g2
        · have h := x1t s n d Rc o m q 0
          simp only [Option.map_eq_some_iff] at h
          obtain ⟨⟨⟨e, st'⟩, hs', cl⟩, a1, a2⟩ := h
          simp only [Prod.mk.injEq] at a2
          obtain ⟨rfl, a3, a4, rfl⟩ := a2
          have hev := evVg_ok _ _ _ _ cvB_ok _ _ a1 (by
            simp only [hd, hint, List.all_cons, List.all_nil, id, Bool.and_true, Bool.and_eq_true, decide_eq_true_eq, beq_iff_eq]
            simp
            omega)
          have ht := tidyV_ok (sy := sy1) (b := 2) (t := F36 0) (st := st') (by rw [a4]; simp [hd])
          rw [a3] at ht
          have hc := tis (BL s ((d.drop o).take 64)) n d Rc (o + 64 * 1) (q + 64) (m - 64)
          simp only [Prod.mk.injEq] at hc
          have ht2 := tidyV_ok (sy := sy1) (b := 2) (t := F36 0) (st := CT (.sl (some (1, o + 64 * 1)) (m - 64) (.rel (q + 64))) (.sl none 0 (.fix 0)) (BL s ((d.drop o).take 64)) n d) (by rw [hc.2]; simp [hd])
          rw [hc.1] at ht2
          obtain ⟨N, e2, st2, b1, b2, b3⟩ := ih (m - 64) (o + 64 * 1) (q + 64) (BL s ((d.drop o).take 64)) (by omega) (by omega)
          refine ⟨max 60 N + 1, e2, st2, loop_nextg (id := 0) rfl (evG_le hev (by omega)) (ht.trans ht2.symm) (evG_le b1 (by omega)), b2, ?_⟩
          have el : ((d.drop o).take m).drop 64 = (d.drop (o + 64 * 1)).take (m - 64) := by rw [List.drop_take, List.drop_drop]
          rw [absorb_more (s := s) (l := (d.drop o).take m) (by omega), el, et]
          exact b3
        · obtain rfl : m = 64 := by omega
          have h := x1f s n d Rc o 64 q 0
          simp only [Option.map_eq_some_iff] at h
          obtain ⟨⟨⟨e, st'⟩, hs', cl⟩, a1, a2⟩ := h
          simp only [Prod.mk.injEq] at a2
          obtain ⟨rfl, a3, a4, rfl⟩ := a2
          have hev := evVg_ok _ _ _ _ cvB_ok _ _ a1 (by
            simp only [hd, hint, List.all_cons, List.all_nil, id, Bool.and_true, Bool.and_eq_true, decide_eq_true_eq, beq_iff_eq]
            simp
            omega)
          have ht := tidyV_ok (sy := sy1) (b := 2) (t := F36 0) (st := st') (by rw [a4]; simp [hd])
          rw [a3] at ht
          have hc := tie (BL s ((d.drop o).take 64)) n d Rc o q 64
          simp only [Prod.mk.injEq] at hc
          have ht2 := tidyV_ok (sy := sy1) (b := 2) (t := F36 0) (st := CT (.slE 1 o q 64 1) (.sl none 0 (.fix 0)) (BL s ((d.drop o).take 64)) n d) (by rw [hc.2]; simp [hd])
          rw [hc.1] at ht2
          have h0 := xe (BL s ((d.drop o).take 64)) n d Rc o 64 q 0
          simp only [Option.map_eq_some_iff] at h0
          obtain ⟨⟨⟨e, st2⟩, hs2, cl2⟩, b1, b2⟩ := h0
          simp only [Prod.mk.injEq] at b2
          obtain ⟨rfl, b3, rfl⟩ := b2
          have hev2 := evVg_ok _ _ _ _ cvB_ok _ _ b1 (by simp [hd])
          refine ⟨62, _, st2, loop_nextg (n := 61) (id := 0) rfl (evG_le hev (by omega)) (ht.trans ht2.symm) (loop_stopg (n := 60) hev2 (fun h => by cases h)), .inl rfl, ?_⟩
          have en : ((d.drop o).take 64).drop 64 = [] := List.drop_eq_nil_of_le (by simp; omega)
          rw [b3, absorb_more (s := s) (l := (d.drop o).take 64) (by omega), et, en, absorb_end (by simp)]
          simp [restV, restH]
theorem takeNr (n : Int) (d Rc : List AV) (hd : d.all (isInt .u8) = true) (hR : Rc.all (isInt .u8) = true) : ∀ (f m o q : Nat) (s : Nat → Int), m ≤ f → o + m ≤ d.length →
    ∃ N e st', evG Try.prog SB0 3 F36 N (.inl (.loop p36_l0)) (CTr (.sl (some (1, o)) m (.rel q)) (.sl none 0 (.fix 0)) s n d Rc) = some (e, st') ∧ (e = .exit 0 ∨ e = .ret) ∧
      st'.2 = hTr (absorb s ((d.drop o).take m)).1 (restV 3 (absorb s ((d.drop o).take m)).2) n d Rc ++ restH (absorb s ((d.drop o).take m)).2 := by
  intro f
  induction f with
  | zero =>
    intro m o q s h1 h2
    obtain rfl : m = 0 := by omega
    have h := x0r s n d Rc o 0 q 0
    simp only [Option.map_eq_some_iff] at h
    obtain ⟨⟨⟨e, st'⟩, hs', cl⟩, a1, a2⟩ := h
    simp only [Prod.mk.injEq] at a2
    obtain ⟨rfl, a3, rfl⟩ := a2
    refine ⟨_, _, st', loop_stopg (evVg_ok _ _ _ _ cvB_ok _ _ a1 (by simp [hd, hR])) (fun h => by cases h), .inl rfl, ?_⟩
    rw [a3, List.take_zero, absorb_end (by simp)]
    simp [restV, restH]
  | succ f ih =>
    intro m o q s h1 h2
    have hl : ((d.drop o).take m).length = m := by simp; omega
    rcases Nat.eq_zero_or_pos m with rfl | hpos
    · exact ih 0 o q s (by omega) h2
    · rcases Nat.lt_or_ge m 64 with g | g
      · have h := x2r s n d Rc o m q 0
        simp only [Option.map_eq_some_iff] at h
        obtain ⟨⟨⟨e, st'⟩, hs', cl⟩, a1, a2⟩ := h
        simp only [Prod.mk.injEq] at a2
        obtain ⟨rfl, a3, rfl⟩ := a2
        have ew : IntKind.wrap .i64 (0 + ((min m 64 : Nat) : Int)) = (m : Int) := by rw [IntKind.wrap_i64]; omega
        have hone : List.all (List.take (m * 1) (List.drop o d)) AV.one = true := ints_one (k := .u8) (all_sub hd fun v hv => List.mem_of_mem_drop (List.mem_of_mem_take hv))
        refine ⟨_, _, st', loop_stopg (evVg_ok _ _ _ _ cvB_ok _ _ a1 ?_) (fun h => by cases h), .inr rfl, ?_⟩
        · rw [ew]
          simp only [hd, hR, hone, z3, ints_length, List.all_cons, List.all_nil, id, Bool.and_true, Bool.and_eq_true, decide_eq_true_eq, beq_iff_eq, decide_eq_false_iff_not, Bool.not_eq_true']
          simp
          omega
        · rw [a3, ew, absorb_end (by rw [hl]; exact g)]
          have e1 : List.take (min m 64 * 1) (List.take (m * 1) (List.drop o d)) = (d.drop o).take m := by
            rw [Nat.mul_one, Nat.mul_one, Nat.min_eq_left (by omega), List.take_take, Nat.min_self]
          rw [e1]
          have hne : (d.drop o).take m ≠ [] := fun h => by rw [h] at hl; simp at hl; omega
          obtain ⟨a, l, hal⟩ : ∃ a l, (d.drop o).take m = a :: l := by
            cases hx : (d.drop o).take m with
            | nil => exact absurd hx hne
            | cons a l => exact ⟨a, l, rfl⟩
          rw [hal] at hl
          rw [hal]
          simp only [restV, restH, hl, Int.toNat_natCast]
      · have hint : isInts IntKind.u8 64 (List.take 64 (List.drop o d)) = true := by
          simp only [isInts, Bool.and_eq_true, beq_iff_eq]
          exact ⟨by simp; omega, all_sub hd fun v hv => List.mem_of_mem_drop (List.mem_of_mem_take hv)⟩
        have et : ((d.drop o).take m).take 64 = (d.drop o).take 64 := by rw [List.take_take, Nat.min_eq_left g]
        rcases Nat.lt_or_ge 64 m with g2 | g2
        · have h := x1tr s n d Rc o m q 0
          simp only [Option.map_eq_some_iff] at h
          obtain ⟨⟨⟨e, st'⟩, hs', cl⟩, a1, a2⟩ := h
          simp only [Prod.mk.injEq] at a2
          obtain ⟨rfl, a3, a4, rfl⟩ := a2
          have hev := evVg_ok _ _ _ _ cvB_ok _ _ a1 (by
            simp only [hd, hR, hint, List.all_cons, List.all_nil, id, Bool.and_true, Bool.and_eq_true, decide_eq_true_eq, beq_iff_eq]
            simp
            omega)
          have ht := tidyV_ok (sy := sy123) (b := 3) (t := F36 0) (st := st') (by rw [a4]; simp [hd, hR])
          rw [a3] at ht
          have hc := tirs (BL s ((d.drop o).take 64)) n d Rc (o + 64 * 1) (q + 64) (m - 64)
          simp only [Prod.mk.injEq] at hc
          have ht2 := tidyV_ok (sy := sy123) (b := 3) (t := F36 0) (st := CTr (.sl (some (1, o + 64 * 1)) (m - 64) (.rel (q + 64))) (.sl none 0 (.fix 0)) (BL s ((d.drop o).take 64)) n d Rc) (by rw [hc.2]; simp [hd, hR])
          rw [hc.1] at ht2
          obtain ⟨N, e2, st2, b1, b2, b3⟩ := ih (m - 64) (o + 64 * 1) (q + 64) (BL s ((d.drop o).take 64)) (by omega) (by omega)
          refine ⟨max 60 N + 1, e2, st2, loop_nextg (id := 0) rfl (evG_le hev (by omega)) (ht.trans ht2.symm) (evG_le b1 (by omega)), b2, ?_⟩
          have el : ((d.drop o).take m).drop 64 = (d.drop (o + 64 * 1)).take (m - 64) := by rw [List.drop_take, List.drop_drop]
          rw [absorb_more (s := s) (l := (d.drop o).take m) (by omega), el, et]
          exact b3
        · obtain rfl : m = 64 := by omega
          have h := x1fr s n d Rc o 64 q 0
          simp only [Option.map_eq_some_iff] at h
          obtain ⟨⟨⟨e, st'⟩, hs', cl⟩, a1, a2⟩ := h
          simp only [Prod.mk.injEq] at a2
          obtain ⟨rfl, a3, a4, rfl⟩ := a2
          have hev := evVg_ok _ _ _ _ cvB_ok _ _ a1 (by
            simp only [hd, hR, hint, List.all_cons, List.all_nil, id, Bool.and_true, Bool.and_eq_true, decide_eq_true_eq, beq_iff_eq]
            simp
            omega)
          have ht := tidyV_ok (sy := sy123) (b := 3) (t := F36 0) (st := st') (by rw [a4]; simp [hd, hR])
          rw [a3] at ht
          have hc := tire (BL s ((d.drop o).take 64)) n d Rc o q 64
          simp only [Prod.mk.injEq] at hc
          have ht2 := tidyV_ok (sy := sy123) (b := 3) (t := F36 0) (st := CTr (.slE 1 o q 64 1) (.sl none 0 (.fix 0)) (BL s ((d.drop o).take 64)) n d Rc) (by rw [hc.2]; simp [hd, hR])
          rw [hc.1] at ht2
          have h0 := xer (BL s ((d.drop o).take 64)) n d Rc o 64 q 0
          simp only [Option.map_eq_some_iff] at h0
          obtain ⟨⟨⟨e, st2⟩, hs2, cl2⟩, b1, b2⟩ := h0
          simp only [Prod.mk.injEq] at b2
          obtain ⟨rfl, b3, rfl⟩ := b2
          have hev2 := evVg_ok _ _ _ _ cvB_ok _ _ b1 (by simp [hd, hR])
          refine ⟨62, _, st2, loop_nextg (n := 61) (id := 0) rfl (evG_le hev (by omega)) (ht.trans ht2.symm) (loop_stopg (n := 60) hev2 (fun h => by cases h)), .inl rfl, ?_⟩
          have en : ((d.drop o).take 64).drop 64 = [] := List.drop_eq_nil_of_le (by simp; omega)
          rw [b3, absorb_more (s := s) (l := (d.drop o).take 64) (by omega), et, en, absorb_end (by simp)]
          simp [restV, restH]
/- takes over the small memory, with bytes left over; the whole. -/
theorem blk_eq {l d : List AV} {o m : Nat} (h : l.length < 64) (ho : o + m ≤ d.length) : (spliceA (spliceA (z3 .u8 64) 0 (List.take (min l.length 64 * 1) (List.take (l.length * 1) (List.drop 0 (R64 l))))) (if min l.length 64 = 64 then 0 else 0 + min l.length 64 * 1) (List.take (min m (64 - min l.length 64) * 1) (List.take (m * 1) (List.drop o d)))) = R64 ((l ++ (d.drop o).take m).take 64) ∧ (l ++ (d.drop o).take m).length = l.length + m := by
  obtain ⟨h1, h2⟩ := R64_take h
  have mk : min l.length 64 = l.length := by omega
  have hz : (z3 .u8 64).length = 64 := by simp [z3, ints_length]
  refine ⟨?_, by simp; omega⟩
  simp only [mk, List.drop_zero, Nat.mul_one, h1, Nat.zero_add, if_neg (show ¬ l.length = 64 by omega), List.take_length]
  have e2 : List.take (min m (64 - l.length)) (List.take m (List.drop o d)) = ((d.drop o).take m).take (64 - l.length) := by
    rw [List.take_take, List.take_take]
    congr 1
    omega
  rw [e2]
  generalize hx : (d.drop o).take m = x
  have e3 : (l ++ x).take 64 = l ++ x.take (64 - l.length) := by rw [List.take_append, List.take_of_length_le (l := l) (by omega)]
  rw [e3]
  simp only [R64, spliceA, hz, List.take_zero, List.nil_append, Nat.zero_add, List.length_append]
  rw [List.take_append_of_le_length (Nat.le_refl _), List.take_length, List.drop_append, List.drop_eq_nil_of_le (by omega : l.length ≤ l.length + (List.take (64 - l.length) x).length), List.nil_append, List.drop_drop]
  congr 2
  omega
theorem R64_all {l : List AV} (hi : l.all (isInt .u8) = true) (h : l.length ≤ 64) : isInts .u8 64 (R64 l) = true := by
  simp only [isInts, Bool.and_eq_true, beq_iff_eq]
  have hz : (z3 .u8 64).length = 64 := by simp [z3, ints_length]
  exact ⟨by rw [R64, splice_len _ _ _ (by omega), hz], R64_ints hi⟩
theorem R64_full {l : List AV} (h : l.length = 64) : R64 l = l := by
  have hz : (z3 .u8 64).length = 64 := by simp [z3, ints_length]
  simp only [R64, spliceA, List.take_zero, List.nil_append, h, Nat.zero_add]
  rw [List.drop_eq_nil_of_le (by omega), List.append_nil]
theorem takeSr (n : Int) (d : List AV) (hd : d.all (isInt .u8) = true) (l : List AV) (hl : l.all (isInt .u8) = true) (h0 : 0 < l.length) (h64 : l.length < 64) (m o q : Nat) (s : Nat → Int) (hm : 0 < m) (ho : o + m ≤ d.length) :
    ∃ N e st', evG Try.prog SB0 3 F36 N (.inl (.loop p36_l0)) (CTr (.sl (some (1, o)) m (.rel q)) (.sl (some (2, 0)) l.length (.fix 64)) s n d (R64 l)) = some (e, st') ∧ (e = .exit 0 ∨ e = .ret) ∧
      st'.2 = hTr (absorb s (l ++ (d.drop o).take m)).1 (restV 3 (absorb s (l ++ (d.drop o).take m)).2) n d (R64 l) ++ restH (absorb s (l ++ (d.drop o).take m)).2 := by
  obtain ⟨q1, q2⟩ := R64_take h64
  have hR := R64_ints hl
  have mk : min l.length 64 = l.length := by omega
  have hne : ¬ l.length = 64 := by omega
  have hnil : l ≠ [] := fun h => by rw [h] at h0; simp at h0
  have hz : (z3 .u8 64).length = 64 := by simp [z3, ints_length]
  have hint : ((d.drop o).take m).all (isInt .u8) = true := all_sub hd fun v hv => List.mem_of_mem_drop (List.mem_of_mem_take hv)
  have hall : (l ++ (d.drop o).take m).all (isInt .u8) = true := by rw [List.all_append, hl, hint]; rfl
  obtain ⟨hB, hLen⟩ := blk_eq (l := l) (d := d) (o := o) (m := m) h64 ho
  have o1 : List.all (List.take (l.length * 1) (List.drop 0 (R64 l))) AV.one = true := ints_one (k := .u8) (all_sub hR fun v hv => List.mem_of_mem_drop (List.mem_of_mem_take hv))
  have o2 : List.all (List.take (m * 1) (List.drop o d)) AV.one = true := ints_one (k := .u8) (all_sub hd fun v hv => List.mem_of_mem_drop (List.mem_of_mem_take hv))
  have len1 : (spliceA (z3 .u8 64) 0 (List.take (min l.length 64 * 1) (List.take (l.length * 1) (List.drop 0 (R64 l))))).length = 64 := by
    rw [splice_len _ _ _ (by simp; omega), hz]
  have len1' : (spliceA (z3 .u8 64) 0 (List.take l.length (List.take l.length (R64 l)))).length = 64 := by
    rw [splice_len _ _ _ (by simp; omega), hz]
  have hBi : isInts .u8 64 (R64 ((l ++ (d.drop o).take m).take 64)) = true := R64_all (all_sub hall fun v hv => List.mem_of_mem_take hv) (by simp; omega)
  have hBi' := hBi
  simp only [isInts, Bool.and_eq_true, beq_iff_eq] at hBi'
  have hXi : isInts .u8 64 (List.take 64 (List.drop 0 (R64 ((l ++ (d.drop o).take m).take 64)))) = true := by
    rw [List.drop_zero, List.take_of_length_le (by omega)]
    exact hBi
  rcases Nat.lt_or_ge (l.length + m) 64 with g | g
  · have h := x4r s n d (R64 l) o m q l.length
    simp only [Option.map_eq_some_iff] at h
    obtain ⟨⟨⟨e, st'⟩, hs', cl⟩, a1, a2⟩ := h
    simp only [Prod.mk.injEq] at a2
    obtain ⟨rfl, a3, rfl⟩ := a2
    rw [hB] at a3
    have mm : min m (64 - l.length) = m := by omega
    have ew : IntKind.wrap .i64 ((l.length : Int) + (m : Int)) = ((l.length + m : Nat) : Int) := by rw [IntKind.wrap_i64]; omega
    refine ⟨_, _, st', loop_stopg (evVg_ok _ _ _ _ cvB_ok _ _ a1 ?_) (fun h => by cases h), .inr rfl, ?_⟩
    · simp only [mk, mm, ew, if_neg hne, hd, hR, o1, o2, len1, hz, q2, List.all_cons, List.all_nil, id, Bool.and_true, Bool.true_and, Bool.and_eq_true, decide_eq_true_eq, beq_iff_eq, Bool.not_eq_true', decide_eq_false_iff_not]
      simp [hnil, len1']
      omega
    · rw [a3, mk, mm, ew, absorb_end (by rw [hLen]; exact g)]
      obtain ⟨a, l', hal⟩ : ∃ a l', l ++ (d.drop o).take m = a :: l' := by
        cases hx : l ++ (d.drop o).take m with
        | nil => simp [hnil] at hx
        | cons a l' => exact ⟨a, l', rfl⟩
      rw [List.take_of_length_le (by omega), ← hLen, hal]
      simp only [restV, restH, Int.toNat_natCast]
  · have e64 : ((l ++ (d.drop o).take m).take 64).length = 64 := by simp; omega
    have eX : List.take 64 (List.drop 0 (R64 ((l ++ (d.drop o).take m).take 64))) = (l ++ (d.drop o).take m).take 64 := by
      rw [R64_full e64, List.drop_zero, List.take_take, Nat.min_self]
    have ew : IntKind.wrap .i64 ((l.length : Int) + ((64 - l.length : Nat) : Int)) = 64 := by rw [IntKind.wrap_i64]; omega
    have mm : min m (64 - l.length) = 64 - l.length := by omega
    rcases Nat.lt_or_ge 64 (l.length + m) with g2 | g2
    · have h := x3tr s n d (R64 l) o m q l.length
      simp only [Option.map_eq_some_iff] at h
      obtain ⟨⟨⟨e, st'⟩, hs', cl⟩, a1, a2⟩ := h
      simp only [Prod.mk.injEq] at a2
      obtain ⟨rfl, a3, a4, rfl⟩ := a2
      rw [hB] at a1 a3 a4
      have hev := evVg_ok _ _ _ _ cvB_ok _ _ a1 (by
        simp only [mk, mm, if_neg hne, hd, hR, o1, o2, len1, hz, ew, hXi, hBi'.1, q2, List.all_cons, List.all_nil, id, Bool.and_true, Bool.true_and, Bool.and_eq_true, decide_eq_true_eq, beq_iff_eq, Bool.not_eq_true', decide_eq_false_iff_not]
        simp [hnil, len1']
        omega)
      have ht := tidyV_ok (sy := sy123) (b := 3) (t := F36 0) (st := st') (by rw [a4]; simp only [hd, hR, hBi'.2, List.all_cons, List.all_nil, id, Bool.and_self])
      rw [a3, eX] at ht
      simp only [mk, mm, Nat.mul_one] at ht
      have hc := tirs (BL s ((l ++ (d.drop o).take m).take 64)) n d (R64 l) (o + (64 - l.length)) (q + (64 - l.length)) (m - (64 - l.length))
      simp only [Prod.mk.injEq] at hc
      have ht2 := tidyV_ok (sy := sy123) (b := 3) (t := F36 0) (st := CTr (.sl (some (1, o + (64 - l.length))) (m - (64 - l.length)) (.rel (q + (64 - l.length)))) (.sl none 0 (.fix 0)) (BL s ((l ++ (d.drop o).take m).take 64)) n d (R64 l)) (by rw [hc.2]; simp only [hd, hR, List.all_cons, List.all_nil, id, Bool.and_self])
      rw [hc.1] at ht2
      obtain ⟨N, e2, st2, b1, b2, b3⟩ := takeNr n d (R64 l) hd hR (m - (64 - l.length)) (m - (64 - l.length)) (o + (64 - l.length)) (q + (64 - l.length)) (BL s ((l ++ (d.drop o).take m).take 64)) (Nat.le_refl _) (by omega)
      refine ⟨max 60 N + 1, e2, st2, loop_nextg (id := 0) rfl (evG_le hev (by omega)) (ht.trans ht2.symm) (evG_le b1 (by omega)), b2, ?_⟩
      have el : (l ++ (d.drop o).take m).drop 64 = (d.drop (o + (64 - l.length))).take (m - (64 - l.length)) := by
        rw [List.drop_append, List.drop_eq_nil_of_le (by omega : l.length ≤ 64), List.nil_append, List.drop_take, List.drop_drop]
      rw [absorb_more (l := l ++ (d.drop o).take m) (by omega), el]
      exact b3
    · have h := x3fr s n d (R64 l) o m q l.length
      simp only [Option.map_eq_some_iff] at h
      obtain ⟨⟨⟨e, st'⟩, hs', cl⟩, a1, a2⟩ := h
      simp only [Prod.mk.injEq] at a2
      obtain ⟨rfl, a3, a4, rfl⟩ := a2
      rw [hB] at a1 a3 a4
      have hev := evVg_ok _ _ _ _ cvB_ok _ _ a1 (by
        simp only [mk, mm, if_neg hne, hd, hR, o1, o2, len1, hz, ew, hXi, hBi'.1, q2, List.all_cons, List.all_nil, id, Bool.and_true, Bool.true_and, Bool.and_eq_true, decide_eq_true_eq, beq_iff_eq, Bool.not_eq_true', decide_eq_false_iff_not]
        simp [hnil, len1']
        omega)
      have ht := tidyV_ok (sy := sy123) (b := 3) (t := F36 0) (st := st') (by rw [a4]; simp only [hd, hR, hBi'.2, List.all_cons, List.all_nil, id, Bool.and_self])
      rw [a3, eX] at ht
      have hc := tire (BL s ((l ++ (d.drop o).take m).take 64)) n d (R64 l) o q (min m (64 - min l.length 64))
      simp only [Prod.mk.injEq] at hc
      have ht2 := tidyV_ok (sy := sy123) (b := 3) (t := F36 0) (st := CTr (.slE 1 o q (min m (64 - min l.length 64)) 1) (.sl none 0 (.fix 0)) (BL s ((l ++ (d.drop o).take m).take 64)) n d (R64 l)) (by rw [hc.2]; simp only [hd, hR, List.all_cons, List.all_nil, id, Bool.and_self])
      rw [hc.1] at ht2
      have h0 := xer (BL s ((l ++ (d.drop o).take m).take 64)) n d (R64 l) o (min m (64 - min l.length 64)) q 0
      simp only [Option.map_eq_some_iff] at h0
      obtain ⟨⟨⟨e, st2⟩, hs2, cl2⟩, b1, b2⟩ := h0
      simp only [Prod.mk.injEq] at b2
      obtain ⟨rfl, b3, rfl⟩ := b2
      have hev2 := evVg_ok _ _ _ _ cvB_ok _ _ b1 (by simp [hd, hR])
      refine ⟨62, _, st2, loop_nextg (n := 61) (id := 0) rfl (evG_le hev (by omega)) (ht.trans ht2.symm) (loop_stopg (n := 60) hev2 (fun h => by cases h)), .inl rfl, ?_⟩
      have en : (l ++ (d.drop o).take m).drop 64 = [] := List.drop_eq_nil_of_le (by omega)
      rw [b3, absorb_more (l := l ++ (d.drop o).take m) (by omega), en, absorb_end (by simp)]
      simp [restV, restH]
theorem runN (n : Int) (d : List AV) (hd : d.all (isInt .u8) = true) (m o q : Nat) (l : List AV) (s : Nat → Int) (ho : o + m ≤ d.length) :
    ∃ N, runG Try.prog SB0 F36 N p36 [.ptr (some (0, 0)), .sl (some (1, o)) m (.rel q)] (hT s (.sl none 0 (.fix 0)) n d) =
      some (.tup [], hT (absorb s ((d.drop o).take m)).1 (restV 2 (absorb s ((d.drop o).take m)).2) n d ++ restH (absorb s ((d.drop o).take m)).2) := by
  obtain ⟨N, e, st', a1, a2, a3⟩ := takeN n d (R64 l) hd m m o q s (Nat.le_refl _) ho
  have a1' : evG Try.prog SB0 (hT s (.sl none 0 (.fix 0)) n d).length F36 N (.inl (.loop p36_l0)) ([.ptr (some (0, 0)), .sl (some (1, o)) m (.rel q)] ++ List.replicate (p36.ntmps - [AV.ptr (some (0, 0)), .sl (some (1, o)) m (.rel q)].length) .any, hT s (.sl none 0 (.fix 0)) n d) = some (e, st') := a1
  rw [← a3]
  rcases a2 with rfl | rfl
  · exact ⟨N + 1, by unfold runG; rw [show p36.body = .block 0 (.loop p36_l0) from rfl, block_stopg a1']; rfl⟩
  · exact ⟨N + 1, by unfold runG; rw [show p36.body = .block 0 (.loop p36_l0) from rfl, block_passg a1']; rfl⟩
theorem runSr (n : Int) (d : List AV) (hd : d.all (isInt .u8) = true) (m o q : Nat) (l : List AV) (hl : l.all (isInt .u8) = true) (h0 : 0 < l.length) (h64 : l.length < 64) (hm : 0 < m) (s : Nat → Int) (ho : o + m ≤ d.length) :
    ∃ N, runG Try.prog SB0 F36 N p36 [.ptr (some (0, 0)), .sl (some (1, o)) m (.rel q)] (hTr s (.sl (some (2, 0)) l.length (.fix 64)) n d (R64 l)) =
      some (.tup [], hTr (absorb s (l ++ (d.drop o).take m)).1 (restV 3 (absorb s (l ++ (d.drop o).take m)).2) n d (R64 l) ++ restH (absorb s (l ++ (d.drop o).take m)).2) := by
  obtain ⟨N, e, st', a1, a2, a3⟩ := takeSr n d hd l hl h0 h64 m o q s hm ho
  have a1' : evG Try.prog SB0 (hTr s (.sl (some (2, 0)) l.length (.fix 64)) n d (R64 l)).length F36 N (.inl (.loop p36_l0)) ([.ptr (some (0, 0)), .sl (some (1, o)) m (.rel q)] ++ List.replicate (p36.ntmps - [AV.ptr (some (0, 0)), .sl (some (1, o)) m (.rel q)].length) .any, hTr s (.sl (some (2, 0)) l.length (.fix 64)) n d (R64 l)) = some (e, st') := a1
  rw [← a3]
  rcases a2 with rfl | rfl
  · exact ⟨N + 1, by unfold runG; rw [show p36.body = .block 0 (.loop p36_l0) from rfl, block_stopg a1']; rfl⟩
  · exact ⟨N + 1, by unfold runG; rw [show p36.body = .block 0 (.loop p36_l0) from rfl, block_passg a1']; rfl⟩
/- Write and Sum of a hash: contracts for every memory. -/
/-- The small memories of Sum. -/
def hro (s : Nat → Int) (rest : AV) (n : Int) : AObj := .ro ([.bool true] ++ ints .u32 8 s ++ [rest, .int .i64 n])
def hS0 (s : Nat → Int) (n : Int) : AHeap := [hro s (.sl none 0 (.fix 0)) n, .row 30 32 (z3 .u8 32), .row 30 32 (z3 .u8 32), hrow s (.sl none 0 (.fix 0)) n]
def hSr (k : Nat) (s : Nat → Int) (Rc : List AV) (n : Int) : AHeap := [hro s (.sl (some (1, 0)) k (.fix 64)) n, .ro Rc, .row 30 32 (z3 .u8 32), .row 30 32 (z3 .u8 32), hrow s (.sl (some (1, 0)) k (.fix 64)) n]
noncomputable def sT : List AV → List AObj → Option (AV × AHeap × List Nat) := fun args hp => (limG Try.prog SB0 F36 p36 args hp).map fun r => (r.1, r.2, (r.2.getD 0 .dead).names.filter fun x => decide (hp.length ≤ x))
theorem takes_full : FullOK Try.prog 36 (framedS 1 sT) := frame_of_body mixed SB0_ok ht36 1 fun args hp v hq ns h => by
  unfold sT at h
  simp only [Option.map_eq_some_iff] at h
  obtain ⟨⟨v1, h1⟩, h2, h3⟩ := h
  simp only [Prod.mk.injEq] at h3
  obtain ⟨rfl, rfl, -⟩ := h3
  obtain ⟨n, h4⟩ := limG_inv h2
  exact .inr ⟨_, _, runG_sound SB0_q c36 h4⟩
noncomputable def SBs : Specs := mkS Q q5 (fun g => match g with
  | 15 => some (freshS (padF F15 p15))
  | 35 => some (runG Try.prog SBq FNo 40 p35)
  | 36 => some (framedS 1 sT)
  | _ => none)
theorem SBs_ok : SBs.OK Try.prog := mkS_ok quietText q5_ok (fun g s h => by
  split at h
  · cases h; exact pad15_full
  · cases h; exact nest_ok SBq_ok SBq_q ht35 c35 _ _
  · cases h; exact takes_full
  · cases h)
theorem SBs_q : ∀ g, (SBs.q g).isSome = Q g := fun g => mkS_isSome g
theorem hrow_ren {σ : Nat → Option Nat} {s : Nat → Int} {n : Int} {rest r : AV} (h : rest.ren σ = some r) : renObj σ (hrow s rest n) = hrow s r n := by
  show renObj σ (.row 47 11 [.bool true, .int .u32 (s 0), .int .u32 (s 1), .int .u32 (s 2), .int .u32 (s 3), .int .u32 (s 4), .int .u32 (s 5), .int .u32 (s 6), .int .u32 (s 7), rest, .int .i64 n]) = _
  simp only [renObj, AV.renL, AV.ren, h]
  rfl
theorem hrow_names {s : Nat → Int} {n : Int} {rest : AV} : (hrow s rest n).names = rest.names := by
  show AV.namesL [.bool true, .int .u32 (s 0), .int .u32 (s 1), .int .u32 (s 2), .int .u32 (s 3), .int .u32 (s 4), .int .u32 (s 5), .int .u32 (s 6), .int .u32 (s 7), rest, .int .i64 n] = _
  simp [AV.namesL, AV.names]
theorem row_names {t z : Nat} {k : IntKind} {cs : List AV} (h : cs.all (isInt k) = true) : (AObj.row t z cs).names = [] ∧ (AObj.ro cs).names = [] := ⟨names_num (num_int h).1, names_num (num_int (t := t) (s := z) h).2⟩
theorem restV_ren {σ : Nat → Option Nat} {p p' : Nat} (h : σ p = some p') : ∀ l, (restV p l).ren σ = some (restV p' l)
  | [] => rfl
  | a :: l => by simp only [restV, AV.ren, h, Option.map_some]
theorem restV_names {p : Nat} : ∀ l, (restV p l).names = if l = [] then [] else [p]
  | [] => rfl
  | a :: l => rfl
theorem restH_own {σ : Nat → Option Nat} : ∀ l, l.all (isInt .u8) = true → l.length ≤ 64 → (restH l).map (renOwn σ) = restH l
  | [], _, _ => rfl
  | a :: l, h, _ => by
    simp only [restH, List.map_cons, List.map_nil, renOwn, renObj, renL_ints (k := .u8) _ (R64_ints h)]
theorem restH_length : ∀ l, (restH l).length = if l = [] then 0 else 1
  | [] => rfl
  | a :: l => rfl
theorem absorb_int (s : Nat → Int) {l : List AV} (h : l.all (isInt .u8) = true) : (absorb s l).2.all (isInt .u8) = true ∧ (absorb s l).2.length < 64 := by
  obtain ⟨h1, h2⟩ := absorb_len s l
  exact ⟨all_sub h h2, by omega⟩
theorem new_names {s : Nat → Int} {n : Int} {p : Nat} {l : List AV} : ((hrow s (restV p l) n).names.filter fun x => decide (p ≤ x)) = (List.range (restH l).length).map (p + ·) := by
  rw [hrow_names, restV_names, restH_length]
  split
  · rfl
  · simp [List.range_succ]
theorem takes_fr0 {h : AHeap} {i j o m q : Nat} {s : Nat → Int} {n : Int} {d : List AV} (hi : h[i]? = some (hrow s (.sl none 0 (.fix 0)) n)) (hj : h[j]? = some (.row 5 1 d)) (hij : i ≠ j) (hd : d.all (isInt .u8) = true) (ho : o + m ≤ d.length) :
    framedS 1 sT [.ptr (some (i, 0)), .sl (some (j, o)) m (.rel q)] h = some (.tup [], h.set i (hrow (absorb s ((d.drop o).take m)).1 (restV h.length (absorb s ((d.drop o).take m)).2) n) ++ restH (absorb s ((d.drop o).take m)).2) := by
  obtain ⟨gi, li⟩ := getD_at hi
  obtain ⟨gj, lj⟩ := getD_at hj
  obtain ⟨N, hr⟩ := runN n d hd m o q [] s ho
  have hint : ((d.drop o).take m).all (isInt .u8) = true := all_sub hd fun v hv => List.mem_of_mem_drop (List.mem_of_mem_take hv)
  obtain ⟨a1, a2⟩ := absorb_int s hint
  generalize hA : absorb s ((d.drop o).take m) = A at *
  have hl := limG_of hr
  have hs : sT [.ptr (some (0, 0)), .sl (some (1, o)) m (.rel q)] (hrow s (.sl none 0 (.fix 0)) n :: [j].map fun k => h.getD k .dead) = some (.tup [], (hrow A.1 (restV 2 A.2) n :: [j].map fun k => h.getD k .dead) ++ restH A.2, (List.range (restH A.2).length).map ([j].length + 1 + ·)) := by
    simp only [List.map_cons, List.map_nil, gj]
    unfold sT
    rw [show ([hrow s (.sl none 0 (.fix 0)) n, .row 5 1 d] : AHeap) = hT s (.sl none 0 (.fix 0)) n d from rfl, hl]
    simp only [Option.map_some, hT, List.cons_append, List.nil_append, List.getD_cons_zero, List.length_cons, List.length_nil, Nat.zero_add, Option.some.injEq, Prod.mk.injEq, true_and]
    exact new_names
  have hres := framed_one (d := 1) (s := sT) (args := [.ptr (some (i, 0)), .sl (some (j, o)) m (.rel q)]) (a := [.ptr (some (0, 0)), .sl (some (1, o)) m (.rel q)]) (h := h) (i := i) (ks := [j]) (o0 := hrow s (.sl none 0 (.fix 0)) n) (reach_ps hij (by rw [gi, hrow_names]; rfl) (by rw [gj]; exact (row_names hd).1)) (by simp [hij]) li (by rw [gi]; rfl)
    (by simp only [AV.renL, AV.ren, (idx2 hij).1, (idx2 hij).2, Option.map_some]) (by rw [gi]; exact hrow_ren rfl)
    (fun k hk => by rw [List.mem_singleton] at hk; subst hk; rw [gj]; exact (num_int hd).1) hs rfl
  rw [hres, restH_own _ a1 (by omega)]
  congr 4
  obtain ⟨A1, A2⟩ := A
  cases A2 with
  | nil => exact hrow_ren rfl
  | cons x l => exact hrow_ren (restV_ren (tau_new rfl 0 (by simp [restH])) _)
theorem takes_frS {h : AHeap} {i j k o m q : Nat} {s : Nat → Int} {n : Int} {d l : List AV} (hi : h[i]? = some (hrow s (.sl (some (k, 0)) l.length (.fix 64)) n)) (hj : h[j]? = some (.row 5 1 d)) (hk : h[k]? = some (.ro (R64 l))) (hij : i ≠ j) (hik : i ≠ k) (hjk : j ≠ k) (hd : d.all (isInt .u8) = true) (hl : l.all (isInt .u8) = true) (h0 : 0 < l.length) (h64 : l.length < 64) (hm : 0 < m) (ho : o + m ≤ d.length) :
    framedS 1 sT [.ptr (some (i, 0)), .sl (some (j, o)) m (.rel q)] h = some (.tup [], h.set i (hrow (absorb s (l ++ (d.drop o).take m)).1 (restV h.length (absorb s (l ++ (d.drop o).take m)).2) n) ++ restH (absorb s (l ++ (d.drop o).take m)).2) := by
  obtain ⟨gi, li⟩ := getD_at hi
  obtain ⟨gj, lj⟩ := getD_at hj
  obtain ⟨gk, lk⟩ := getD_at hk
  have hR := R64_ints hl
  have hint : (l ++ (d.drop o).take m).all (isInt .u8) = true := by rw [List.all_append, hl, all_sub hd fun v hv => List.mem_of_mem_drop (List.mem_of_mem_take hv)]; rfl
  obtain ⟨a1, a2⟩ := absorb_int s hint
  obtain ⟨N, hr⟩ := runSr n d hd m o q l hl h0 h64 hm s ho
  have hlim := limG_of hr
  generalize hA : absorb s (l ++ (d.drop o).take m) = A at *
  have hs : sT [.ptr (some (0, 0)), .sl (some (1, o)) m (.rel q)] (hrow s (.sl (some (2, 0)) l.length (.fix 64)) n :: [j, k].map fun k => h.getD k .dead) = some (.tup [], (hrow A.1 (restV 3 A.2) n :: [j, k].map fun k => h.getD k .dead) ++ restH A.2, (List.range (restH A.2).length).map ([j, k].length + 1 + ·)) := by
    simp only [List.map_cons, List.map_nil, gj, gk]
    unfold sT
    rw [show ([hrow s (.sl (some (2, 0)) l.length (.fix 64)) n, .row 5 1 d, .ro (R64 l)] : AHeap) = hTr s (.sl (some (2, 0)) l.length (.fix 64)) n d (R64 l) from rfl, hlim]
    simp only [Option.map_some, hTr, List.cons_append, List.nil_append, List.getD_cons_zero, List.length_cons, List.length_nil, Nat.zero_add, Option.some.injEq, Prod.mk.injEq, true_and]
    exact new_names
  have hres := framed_one (d := 1) (s := sT) (args := [.ptr (some (i, 0)), .sl (some (j, o)) m (.rel q)]) (a := [.ptr (some (0, 0)), .sl (some (1, o)) m (.rel q)]) (h := h) (i := i) (ks := [j, k]) (o0 := hrow s (.sl (some (2, 0)) l.length (.fix 64)) n) (reach_psr hij hik hjk (by rw [gi, hrow_names]; rfl) (by rw [gj]; exact (row_names hd).1)) (by simp [hij, hik, hjk]) li (by rw [gi]; rfl)
    (by simp only [AV.renL, AV.ren, (idx3 hij hik hjk).1, (idx3 hij hik hjk).2.1, Option.map_some]) (by rw [gi]; exact hrow_ren (by simp only [AV.ren, (idx3 hij hik hjk).2.2, Option.map_some]))
    (fun x hx => by
      simp only [List.mem_cons, List.not_mem_nil, or_false] at hx
      rcases hx with rfl | rfl
      · rw [gj]; exact (num_int hd).1
      · rw [gk]; exact (num_int (t := 26) (s := 64) hR).2) hs rfl
  rw [hres, restH_own _ a1 (by omega)]
  congr 4
  obtain ⟨A1, A2⟩ := A
  cases A2 with
  | nil => exact hrow_ren rfl
  | cons x l => exact hrow_ren (restV_ren (tau_new rfl 0 (by simp [restH])) _)
theorem e20a (s s' : Nat → Int) (n : Int) (Rc pd : List AV) (k L : Nat) : (runVg Try.prog SBs (sy0 [4]) (cvE [(15, ([.int .i64 n], (hS0 s n)), (.sl (some (4, 0)) L (.rel 0), ((hS0 s n) ++ [AObj.row 5 1 pd]))), (36, ([.ptr (some (3, 0)), .sl (some (4, 0)) L (.rel 0)], ((hS0 s n) ++ [AObj.row 5 1 pd])), (.tup [], ((((hS0 s n) ++ [AObj.row 5 1 pd]).set 3 (hrow s' (.sl none 0 (.fix 0)) n)) ++ [])))]) FNo 100 p20 [.ptr (some (0, 0))] ([hro s (.sl none 0 (.fix 0)) n]) (List.replicate 10 .lit)).map (fun r => (r.1.1, r.2)) = some (.agg (ints .u8 32 (outB s')), trW 2 ++ [sameH ([.int .i64 n], (hS0 s n)) ([.int .i64 n], (hS0 s n)), sameH ([.ptr (some (3, 0)), .sl (some (4, 0)) L (.rel 0)], ((hS0 s n) ++ [AObj.row 5 1 pd])) ([.ptr (some (3, 0)), .sl (some (4, 0)) L (.rel 0)], ((hS0 s n) ++ [AObj.row 5 1 pd]))] ++ trW 42) := by kernel_rfl
theorem e20b (s s' : Nat → Int) (n : Int) (Rc pd : List AV) (k L : Nat) : (runVg Try.prog SBs (sy0 [1, 5]) (cvE [(15, ([.int .i64 n], (hSr k s Rc n)), (.sl (some (5, 0)) L (.rel 0), ((hSr k s Rc n) ++ [AObj.row 5 1 pd]))), (36, ([.ptr (some (4, 0)), .sl (some (5, 0)) L (.rel 0)], ((hSr k s Rc n) ++ [AObj.row 5 1 pd])), (.tup [], ((((hSr k s Rc n) ++ [AObj.row 5 1 pd]).set 4 (hrow s' (.sl none 0 (.fix 0)) n)) ++ [])))]) FNo 100 p20 [.ptr (some (0, 0))] ([hro s (.sl (some (1, 0)) k (.fix 64)) n, .ro Rc]) (List.replicate 10 .lit)).map (fun r => (r.1.1, r.2)) = some (.agg (ints .u8 32 (outB s')), trW 2 ++ [sameH ([.int .i64 n], (hSr k s Rc n)) ([.int .i64 n], (hSr k s Rc n)), sameH ([.ptr (some (4, 0)), .sl (some (5, 0)) L (.rel 0)], ((hSr k s Rc n) ++ [AObj.row 5 1 pd])) ([.ptr (some (4, 0)), .sl (some (5, 0)) L (.rel 0)], ((hSr k s Rc n) ++ [AObj.row 5 1 pd]))] ++ trW 42) := by kernel_rfl
/- Write and Sum of a hash: contracts for every memory, second part. -/
theorem agg_cl {k : IntKind} {n : Nat} {g : Nat → Int} : (AV.agg (ints k n g)).closed = true := by
  have h := ints_isInts k n g
  simp only [isInts, Bool.and_eq_true] at h
  have h2 : (ints k n g).all AV.closed = true := (num_int (t := 0) (s := 0) h.2).1
  simp only [AV.closed, AV.refs, refsL_eq]
  exact h2
noncomputable def sW : List AV → List AObj → Option (AV × AHeap × List Nat) := fun args hp => (limG Try.prog SB1 FNo p18 args hp).map fun r => (r.1, r.2, (r.2.getD 0 .dead).names.filter fun x => decide (hp.length ≤ x))
theorem write_full : FullOK Try.prog 18 (framedS 1 sW) := frame_of_body mixed SB1_ok ht18 1 fun args hp v hq ns h => by
  unfold sW at h
  simp only [Option.map_eq_some_iff] at h
  obtain ⟨⟨v1, h1⟩, h2, h3⟩ := h
  simp only [Prod.mk.injEq] at h3
  obtain ⟨rfl, rfl, -⟩ := h3
  obtain ⟨n, h4⟩ := limG_inv h2
  exact .inr ⟨_, _, runG_sound SB1_q c18 h4⟩
theorem room_ok {n : Int} {m : Nat} (h0 : 0 ≤ n) (h : n + m ≤ 1152921504606846976) : (decide ((m : Int) > IntKind.i64.wrap (1152921504606846976 - n)) == false) = true ∧ IntKind.i64.wrap (n + (m : Int)) = n + m := by
  have e : IntKind.i64.wrap (1152921504606846976 - n) = 1152921504606846976 - n := by rw [IntKind.wrap_i64]; omega
  refine ⟨by rw [e]; simp; omega, by rw [IntKind.wrap_i64]; omega⟩
theorem cv1_ok {a : List AV × AHeap} {r : AV × AHeap} (h : limG Try.prog SB0 F36 p36 a.1 a.2 = some r) : (cvE [(36, a, r)]).OK SB1 := cvE_ok fun e he => by
  rw [List.mem_singleton] at he
  subst he
  exact (S1_36 _ _).trans h
noncomputable def gS : List AV → List AObj → Option AV := fun args hp => (limG Try.prog SBs FNo p20 args hp).bind fun r => if r.1.closed then some r.1 else none
noncomputable def sumS (args : List AV) (h : AHeap) : Option AV := (impD 1 h args).bind fun r => gS r.1 r.2
theorem sum_ok : QuietOK Try.prog 20 sumS := quiet_deep mixed SBs_ok ht20 1 fun args hp v h => by
  unfold gS at h
  simp only [Option.bind_eq_some_iff] at h
  obtain ⟨⟨v1, h1⟩, h2, h3⟩ := h
  simp only at h3
  split at h3
  · rename_i hc
    cases h3
    obtain ⟨n, h4⟩ := limG_inv h2
    exact ⟨hc, .inr ⟨_, _, _, runG_sound SBs_q c20 h4⟩⟩
  · cases h3
theorem Ss_36 (vs : List AV) (h : AHeap) : (match SBs.q 36 with | some sp => (sp vs h).map (·, h) | none => (SBs.f 36).bind fun sp => sp vs h) = framedS 1 sT vs h := rfl
theorem Ss_15 (vs : List AV) (h : AHeap) : (match SBs.q 15 with | some sp => (sp vs h).map (·, h) | none => (SBs.f 15).bind fun sp => sp vs h) = freshS (padF F15 p15) vs h := rfl
theorem pad_full {n : Int} (h0 : 0 ≤ n) {l : List AV} (hl : (l.length : Int) = n % 64) : (l.length + (padL n).length) % 64 = 0 := by
  have h1 := (padL_ok n).1
  have h2 : ((padJ n : Nat) : Int) = (119 - n % 64) % 64 := by unfold padJ; omega
  omega
theorem gS_0 (s : Nat → Int) (n : Int) (h0 : 0 ≤ n) (hn : n % 64 = 0) : gS [.ptr (some (0, 0))] [hro s (.sl none 0 (.fix 0)) n] = some (.agg (ints .u8 32 (outB (absorb s (padL n)).1))) := by
  obtain ⟨p1, p2⟩ := padL_ok n
  have pf := pad_full h0 (l := []) (by simpa using hn.symm)
  obtain ⟨b1, b2⟩ := absorb_len s (padL n)
  have hnil : (absorb s (padL n)).2 = [] := List.eq_nil_of_length_eq_zero (by rw [b1]; simpa using pf)
  have e15 := pad15_eq n h0 (hS0 s n)
  have e36 := takes_fr0 (h := hS0 s n ++ [AObj.row 5 1 (padL n)]) (i := 3) (j := 4) (o := 0) (m := padJ n + 9) (q := 0) (s := s) (n := n) (d := padL n) rfl rfl (by decide) p2 (by omega)
  rw [List.drop_zero, List.take_of_length_le (by omega), hnil] at e36
  have hv := e20a s (absorb s (padL n)).1 n [] (padL n) 0 (padJ n + 9)
  simp only [Option.map_eq_some_iff] at hv
  obtain ⟨⟨⟨v, h'⟩, cs⟩, g1, g2⟩ := hv
  simp only [Prod.mk.injEq] at g2
  obtain ⟨rfl, rfl⟩ := g2
  have hr := limG_of (runVg_ok Try.prog SBs _ _ (cvE_ok (S := SBs) (fun e he => by
      rcases pair_mem he with rfl | rfl
      · exact (Ss_15 _ _).trans e15
      · exact (Ss_36 _ _).trans e36)) g1 (by simp only [trW_ok, sameH_self, List.all_append, List.all_cons, List.all_nil, id, Bool.and_self]))
  unfold gS
  rw [show ([hro s (.sl none 0 (.fix 0)) n] : List AObj) = ([hro s (.sl none 0 (.fix 0)) n] : AHeap) from rfl, hr]
  simp only [Option.bind_some, agg_cl, if_true]
theorem gS_r (s : Nat → Int) (n : Int) (l : List AV) (hl : l.all (isInt .u8) = true) (hl0 : 0 < l.length) (h64 : l.length < 64) (h0 : 0 ≤ n) (hn : (l.length : Int) = n % 64) : gS [.ptr (some (0, 0))] [hro s (.sl (some (1, 0)) l.length (.fix 64)) n, .ro (R64 l)] = some (.agg (ints .u8 32 (outB (absorb s (l ++ padL n)).1))) := by
  obtain ⟨p1, p2⟩ := padL_ok n
  have pf := pad_full h0 hn
  obtain ⟨b1, b2⟩ := absorb_len s (l ++ padL n)
  have hnil : (absorb s (l ++ padL n)).2 = [] := List.eq_nil_of_length_eq_zero (by rw [b1, List.length_append]; exact pf)
  have e15 := pad15_eq n h0 (hSr l.length s (R64 l) n)
  have e36 := takes_frS (h := hSr l.length s (R64 l) n ++ [AObj.row 5 1 (padL n)]) (i := 4) (j := 5) (k := 1) (o := 0) (m := padJ n + 9) (q := 0) (s := s) (n := n) (d := padL n) (l := l) rfl rfl rfl (by decide) (by decide) (by decide) p2 hl hl0 h64 (by omega) (by omega)
  rw [List.drop_zero, List.take_of_length_le (by omega), hnil] at e36
  have hv := e20b s (absorb s (l ++ padL n)).1 n (R64 l) (padL n) l.length (padJ n + 9)
  simp only [Option.map_eq_some_iff] at hv
  obtain ⟨⟨⟨v, h'⟩, cs⟩, g1, g2⟩ := hv
  simp only [Prod.mk.injEq] at g2
  obtain ⟨rfl, rfl⟩ := g2
  have hr := limG_of (runVg_ok Try.prog SBs _ _ (cvE_ok (S := SBs) (fun e he => by
      rcases pair_mem he with rfl | rfl
      · exact (Ss_15 _ _).trans e15
      · exact (Ss_36 _ _).trans e36)) g1 (by simp only [trW_ok, sameH_self, List.all_append, List.all_cons, List.all_nil, id, Bool.and_self]))
  unfold gS
  rw [show ([hro s (.sl (some (1, 0)) l.length (.fix 64)) n, .ro (R64 l)] : List AObj) = ([hro s (.sl (some (1, 0)) l.length (.fix 64)) n, .ro (R64 l)] : AHeap) from rfl, hr]
  simp only [Option.bind_some, agg_cl, if_true]
theorem sum_at0 {h : AHeap} {i : Nat} {s : Nat → Int} {n : Int} (hi : h[i]? = some (hrow s (.sl none 0 (.fix 0)) n)) (h0 : 0 ≤ n) (hn : n % 64 = 0) : sumS [.ptr (some (i, 0))] h = some (.agg (ints .u8 32 (outB (absorb s (padL n)).1))) := by
  obtain ⟨gi, li⟩ := getD_at hi
  have hr : reachK 1 h [.ptr (some (i, 0))] = [i] := reach_p (by rw [gi, hrow_names]; rfl)
  unfold sumS impD
  rw [hr]
  have e : AV.renL (fun x => [i].idxOf? x) [.ptr (some (i, 0))] = some [.ptr (some (0, 0))] := by simp [AV.renL, AV.ren, List.idxOf?_cons]
  simp only [List.nodup_cons, List.not_mem_nil, not_false_eq_true, List.nodup_nil, and_self, decide_true, if_true, e, Option.map_some, Option.bind_some, List.map_cons, List.map_nil, gi]
  rw [hrow_ren (rest := (.sl none 0 (.fix 0))) (r := (.sl none 0 (.fix 0))) rfl]
  exact gS_0 s n h0 hn
theorem sum_atr {h : AHeap} {i k : Nat} {s : Nat → Int} {n : Int} {l : List AV} (hi : h[i]? = some (hrow s (.sl (some (k, 0)) l.length (.fix 64)) n)) (hk : h[k]? = some (.row 26 64 (R64 l))) (hik : i ≠ k) (hl : l.all (isInt .u8) = true) (hl0 : 0 < l.length) (h64 : l.length < 64) (h0 : 0 ≤ n) (hn : (l.length : Int) = n % 64) :
    sumS [.ptr (some (i, 0))] h = some (.agg (ints .u8 32 (outB (absorb s (l ++ padL n)).1))) := by
  obtain ⟨gi, li⟩ := getD_at hi
  obtain ⟨gk, lk⟩ := getD_at hk
  have hr : reachK 1 h [.ptr (some (i, 0))] = [i, k] := reach_pr hik (by rw [gi, hrow_names]; rfl)
  unfold sumS impD
  rw [hr]
  have e : AV.renL (fun x => [i, k].idxOf? x) [.ptr (some (i, 0))] = some [.ptr (some (0, 0))] := by simp [AV.renL, AV.ren, List.idxOf?_cons]
  simp only [List.nodup_cons, List.mem_singleton, hik, List.not_mem_nil, not_false_eq_true, List.nodup_nil, and_self, decide_true, if_true, e, Option.map_some, Option.bind_some, List.map_cons, List.map_nil, gi, gk]
  rw [hrow_ren (r := (.sl (some (1, 0)) l.length (.fix 64))) (by simp only [AV.ren, (idx2 hik).2, Option.map_some]), renObj_num (num_int (R64_ints hl)).1]
  exact gS_r s n l hl hl0 h64 h0 hn
/- The sum of a list of one slice; a copy of bytes: contracts for every memory. -/
noncomputable def SB12 : Specs := mkS Q q5 (fun g => match g with
  | 17 => some (runG Try.prog SBq FNo 40 p17)
  | 18 => some (framedS 1 sW)
  | 20 => some (fun a h => (sumS a h).map (·, h))
  | _ => none)
theorem SB12_ok : SB12.OK Try.prog := mkS_ok quietText q5_ok (fun g s h => by
  split at h
  · cases h; exact nest_ok SBq_ok SBq_q ht17 c17 _ _
  · cases h; exact write_full
  · cases h; exact full_of_quiet sum_ok
  · cases h)
theorem SB12_q : ∀ g, (SB12.q g).isSome = Q g := fun g => mkS_isSome g
noncomputable def s12 : List AV → List AObj → Option (AV × AHeap × List Nat) := fun args hp => (limG Try.prog SB12 FNo p12 args hp).map fun r => (r.1, r.2, [])
theorem S12_18 (vs : List AV) (h : AHeap) : (match SB12.q 18 with | some sp => (sp vs h).map (·, h) | none => (SB12.f 18).bind fun sp => sp vs h) = framedS 1 sW vs h := rfl
theorem S12_20 (vs : List AV) (h : AHeap) : (match SB12.q 20 with | some sp => (sp vs h).map (·, h) | none => (SB12.f 20).bind fun sp => sp vs h) = (sumS vs h).map (·, h) := rfl
/-- The sum of these bytes. -/
def shaL (l : List AV) : Nat → Int := outB (absorb firstI (l ++ padL (l.length : Int))).1
theorem sum_state {h : AHeap} {i k : Nat} {l : List AV} (hl : l.all (isInt .u8) = true) (hi : h[i]? = some (hrow (absorb firstI l).1 (restV k (absorb firstI l).2) (l.length : Int))) (hk : (absorb firstI l).2 ≠ [] → h[k]? = some (.row 26 64 (R64 (absorb firstI l).2)) ∧ i ≠ k) :
    sumS [.ptr (some (i, 0))] h = some (.agg (ints .u8 32 (shaL l))) := by
  obtain ⟨a1, a2⟩ := absorb_int firstI hl
  obtain ⟨b1, -⟩ := absorb_len firstI l
  unfold shaL
  rw [absorb_append]
  generalize absorb firstI l = A at *
  obtain ⟨A1, A2⟩ := A
  cases A2 with
  | nil => exact sum_at0 hi (by omega) (by simp only [List.length_nil] at b1; omega)
  | cons a l' =>
    obtain ⟨k1, k2⟩ := hk (by simp)
    exact sum_atr hi k1 k2 a1 (by simp) a2 (by omega) (by have b2 : (a :: l').length = l.length % 64 := b1; omega)
/- The resolved code of the two laws; contracts for calls of nothing. -/
def quiet2 : List FuncId := [9,10,11,13,14,19,20,23,24,25,26,27,28,29,31,32,33,34,35,37,38,39]
def Q2 (f : FuncId) : Bool := quiet2.contains f
-- excise/exciselaw24.ShaPieces
def p6_l0 : PC := (.seq (.ops 8 0 [⟨(some 30), .bin .lss (.tmp 29) (.tmp 28), none⟩])
    (.seq (.cond (.tmp 30)
     .skip
     (.exit 0))
    (.seq (.block 1
     (.seq (.ops 9 0 [⟨(some 31), .mov (.tmp 29), none⟩,
       ⟨(some 32), .atL 1 (.tmp 27) (.tmp 29), none⟩,
       ⟨(some 33), .load none (.tmp 32), none⟩,
       ⟨(some 10), .mov (.tmp 31), none⟩,
       ⟨(some 11), .mov (.tmp 33), none⟩])
     (.seq (.ops 10 0 [⟨(some 34), .mov (.tmp 11), none⟩,
       ⟨(some 35), .conv .i64 (.tmp 34), none⟩,
       ⟨(some 36), .mov (.tmp 9), none⟩,
       ⟨(some 37), .lenL (.tmp 36), none⟩,
       ⟨(some 38), .min [(.tmp 35), (.tmp 37)], none⟩,
       ⟨(some 12), .mov (.tmp 38), none⟩])
     (.seq (.ops 11 2 [⟨(some 39), .mov (.tmp 8), none⟩,
       ⟨(some 40), .mov (.tmp 9), none⟩,
       ⟨(some 41), .mov (.tmp 12), none⟩,
       ⟨(some 42), .sliceL 1 (.tmp 40) none (some (.tmp 41)), none⟩,
       ⟨(some 43), .bslice 23 1 1 (.sl none 0 (.fix 0)) [(0, (.tmp 42))], none⟩,
       ⟨(some 44), .append 23 1 24 (.tmp 39) (.tmp 43), none⟩,
       ⟨(some 8), .mov (.tmp 44), none⟩])
     (.seq (.seq (.ops 12 0 [⟨(some 45), .mov (.tmp 7), none⟩,
       ⟨(some 46), .mov (.tmp 9), none⟩,
       ⟨(some 47), .mov (.tmp 12), none⟩,
       ⟨(some 48), .sliceL 1 (.tmp 46) none (some (.tmp 47)), none⟩,
       ⟨(some 49), .call (.func 18) [(.tmp 45), (.tmp 48)], none⟩,
       ⟨(some 50), .bin .neq (.tmp 49) (.const (.int .i64 0)), none⟩])
     (.cond (.tmp 50)
      (.seq (.ops 13 0 [⟨(some 6), .mov (.const (.bool false)), none⟩])
      .ret)
      .skip))
     (.seq (.ops 14 0 [⟨(some 51), .mov (.tmp 9), none⟩,
       ⟨(some 52), .mov (.tmp 12), none⟩,
       ⟨(some 53), .sliceL 1 (.tmp 51) (some (.tmp 52)) none, none⟩,
       ⟨(some 9), .mov (.tmp 53), none⟩])
     (.seq (.seq (.ops 15 1 [⟨(some 54), .mov (.tmp 7), none⟩,
       ⟨(some 55), .call (.func 19) [(.tmp 54)], none⟩,
       ⟨(some 56), .mov (.tmp 0), none⟩,
       ⟨(some 57), .lenL (.tmp 56), none⟩,
       ⟨(some 58), .mov (.tmp 9), none⟩,
       ⟨(some 59), .lenL (.tmp 58), none⟩,
       ⟨(some 60), .bin .sub (.tmp 57) (.tmp 59), none⟩,
       ⟨(some 61), .bin .neq (.tmp 55) (.tmp 60), none⟩,
       ⟨(some 62), .mov (.tmp 61), none⟩,
       ⟨(some 63), .mov (.tmp 7), (some ((some 62), false))⟩,
       ⟨(some 64), .call (.func 20) [(.tmp 63)], (some ((some 62), false))⟩,
       ⟨(some 65), .mov (.tmp 0), (some ((some 62), false))⟩,
       ⟨(some 66), .mov (.tmp 0), (some ((some 62), false))⟩,
       ⟨(some 67), .lenL (.tmp 66), (some ((some 62), false))⟩,
       ⟨(some 68), .mov (.tmp 9), (some ((some 62), false))⟩,
       ⟨(some 69), .lenL (.tmp 68), (some ((some 62), false))⟩,
       ⟨(some 70), .bin .sub (.tmp 67) (.tmp 69), (some ((some 62), false))⟩,
       ⟨(some 71), .sliceL 1 (.tmp 65) none (some (.tmp 70)), (some ((some 62), false))⟩,
       ⟨(some 72), .bslice 23 1 1 (.sl none 0 (.fix 0)) [(0, (.tmp 71))], (some ((some 62), false))⟩,
       ⟨(some 73), .call (.func 12) [(.tmp 72)], (some ((some 62), false))⟩,
       ⟨(some 74), .cmp true 30 (.tmp 64) (.tmp 73), (some ((some 62), false))⟩,
       ⟨(some 75), .pick (.tmp 62) (.const (.bool true)) (.tmp 74), none⟩])
     (.cond (.tmp 75)
      (.seq (.ops 16 0 [⟨(some 6), .mov (.const (.bool false)), none⟩])
      .ret)
      .skip))
     (.seq (.ops 17 0 [⟨(some 76), .mov (.tmp 10), none⟩,
       ⟨(some 77), .mov (.tmp 2), none⟩,
       ⟨(some 78), .conv .i64 (.tmp 77), none⟩,
       ⟨(some 79), .bin .eql (.tmp 76) (.tmp 78), none⟩])
     (.cond (.tmp 79)
      (.seq (.ops 18 0 [⟨(some 80), .mov (.tmp 7), none⟩,
        ⟨(some 81), .call (.func 21) [(.tmp 80)], none⟩,
        ⟨(some 13), .mov (.tmp 81), none⟩])
      (.seq (.seq (.ops 19 1 [⟨(some 82), .mov (.tmp 13), none⟩,
        ⟨(some 83), .cmp false 37 (.tmp 82) (.const (.pointer none)), none⟩,
        ⟨(some 84), .mov (.tmp 83), none⟩,
        ⟨(some 85), .mov (.tmp 7), (some ((some 84), false))⟩,
        ⟨(some 86), .bslice 5 1 1 (.int .u8 0) [(0, (.const (.int .u8 120)))], (some ((some 84), false))⟩,
        ⟨(some 87), .ice (.tmp 86), (some ((some 84), false))⟩,
        ⟨(some 88), .call (.func 18) [(.tmp 85), (.tmp 87)], (some ((some 84), false))⟩,
        ⟨(some 89), .bin .neq (.tmp 88) (.const (.int .i64 0)), (some ((some 84), false))⟩,
        ⟨(some 90), .pick (.tmp 84) (.const (.bool true)) (.tmp 89), none⟩])
      (.cond (.tmp 90)
       (.seq (.ops 20 0 [⟨(some 6), .mov (.const (.bool false)), none⟩])
       .ret)
       .skip))
      (.ops 21 0 [⟨(some 91), .mov (.tmp 13), none⟩,
        ⟨(some 7), .mov (.tmp 91), none⟩])))
      .skip)))))))))
    (.ops 22 0 [⟨(some 92), .bin .add (.tmp 29) (.const (.int .i64 1)), none⟩,
      ⟨(some 29), .mov (.tmp 92), none⟩]))))
def p6 : PF := ⟨(.seq (.ops 0 0 [⟨(some 6), .mov (.const (.bool false)), none⟩])
  (.seq (.ops 1 0 [⟨(some 14), .mov (.tmp 0), none⟩,
    ⟨(some 15), .mov (.tmp 0), none⟩,
    ⟨(some 16), .lenL (.tmp 15), none⟩,
    ⟨(some 17), .min [(.tmp 16), (.const (.int .i64 16384))], none⟩,
    ⟨(some 18), .sliceL 1 (.tmp 14) none (some (.tmp 17)), none⟩,
    ⟨(some 0), .mov (.tmp 18), none⟩])
  (.seq (.ops 2 0 [⟨(some 19), .call (.func 17) [], none⟩,
    ⟨(some 7), .mov (.tmp 19), none⟩])
  (.seq (.seq (.ops 3 0 [⟨(some 20), .call (.func 9) [], none⟩,
    ⟨(some 21), .un .not (.tmp 20), none⟩,
    ⟨(some 22), .mov (.tmp 21), none⟩,
    ⟨(some 23), .mov (.tmp 7), (some ((some 22), false))⟩,
    ⟨(some 24), .cmp false 37 (.tmp 23) (.const (.pointer none)), (some ((some 22), false))⟩,
    ⟨(some 25), .pick (.tmp 22) (.const (.bool true)) (.tmp 24), none⟩])
  (.cond (.tmp 25)
   (.seq (.ops 4 0 [⟨(some 6), .mov (.const (.bool false)), none⟩])
   .ret)
   .skip))
  (.seq (.ops 5 0 [⟨(some 8), .mov (.const (.slice none 0 0)), none⟩])
  (.seq (.ops 6 0 [⟨(some 26), .mov (.tmp 0), none⟩,
    ⟨(some 9), .mov (.tmp 26), none⟩])
  (.seq (.seq (.ops 7 0 [⟨(some 27), .mov (.tmp 1), none⟩,
    ⟨(some 28), .lenL (.tmp 27), none⟩,
    ⟨(some 29), .mov (.const (.int .i64 0)), none⟩])
  (.block 0
   (.loop p6_l0)))
  (.seq (.ops 23 2 [⟨(some 93), .mov (.tmp 8), none⟩,
    ⟨(some 94), .mov (.tmp 9), none⟩,
    ⟨(some 95), .bslice 23 1 1 (.sl none 0 (.fix 0)) [(0, (.tmp 94))], none⟩,
    ⟨(some 96), .append 23 1 24 (.tmp 93) (.tmp 95), none⟩,
    ⟨(some 8), .mov (.tmp 96), none⟩])
  (.seq (.ops 24 2 [⟨(some 97), .mov (.tmp 7), none⟩,
    ⟨(some 98), .mov (.tmp 9), none⟩,
    ⟨(some 99), .call (.func 18) [(.tmp 97), (.tmp 98)], none⟩,
    ⟨(some 100), .bin .eql (.tmp 99) (.const (.int .i64 0)), none⟩,
    ⟨(some 101), .mov (.tmp 100), none⟩,
    ⟨(some 102), .mov (.tmp 7), (some ((some 101), true))⟩,
    ⟨(some 103), .call (.func 20) [(.tmp 102)], (some ((some 101), true))⟩,
    ⟨(some 104), .mov (.tmp 0), (some ((some 101), true))⟩,
    ⟨(some 105), .bslice 23 1 1 (.sl none 0 (.fix 0)) [(0, (.tmp 104))], (some ((some 101), true))⟩,
    ⟨(some 106), .call (.func 12) [(.tmp 105)], (some ((some 101), true))⟩,
    ⟨(some 107), .cmp false 30 (.tmp 103) (.tmp 106), (some ((some 101), true))⟩,
    ⟨(some 108), .pick (.tmp 101) (.tmp 107) (.const (.bool false)), none⟩,
    ⟨(some 109), .mov (.tmp 108), none⟩,
    ⟨(some 110), .mov (.tmp 8), (some ((some 109), true))⟩,
    ⟨(some 111), .call (.func 12) [(.tmp 110)], (some ((some 109), true))⟩,
    ⟨(some 112), .mov (.tmp 0), (some ((some 109), true))⟩,
    ⟨(some 113), .bslice 23 1 1 (.sl none 0 (.fix 0)) [(0, (.tmp 112))], (some ((some 109), true))⟩,
    ⟨(some 114), .call (.func 12) [(.tmp 113)], (some ((some 109), true))⟩,
    ⟨(some 115), .cmp false 30 (.tmp 111) (.tmp 114), (some ((some 109), true))⟩,
    ⟨(some 116), .pick (.tmp 109) (.tmp 115) (.const (.bool false)), none⟩,
    ⟨(some 6), .mov (.tmp 116), none⟩])
  .ret))))))))),
  117, [.tmp 6]⟩
-- excise/exciselaw24.ShaNone
theorem c6 : compF Try.prog Q2 Try.f6 = some p6 := by kernel_rfl
theorem quietText2 : ∀ g, Q2 g = true → ∃ fn, HasText Try.prog g fn := by
  intro g hg
  have : g ∈ quiet2 := by simpa [Q2] using hg
  by_cases h : Q g = true
  · exact quietText g h
  · simp only [quiet2, List.mem_cons, List.not_mem_nil, or_false] at this
    rcases this with rfl | rfl | rfl | rfl | rfl | rfl | rfl | rfl | rfl | rfl | rfl | rfl | rfl | rfl | rfl | rfl | rfl | rfl | rfl | rfl | rfl | rfl
    all_goals first | (exact absurd (by decide) h) | exact ⟨_, ht19⟩ | exact ⟨_, ht20⟩ | exact ⟨_, ht35⟩
noncomputable def SB35 : Specs := mkS Q q5 (fun g => match g with
  | 35 => some (runG Try.prog SBq FNo 40 p35)
  | _ => none)
theorem SB35_ok : SB35.OK Try.prog := mkS_ok quietText q5_ok (fun g s h => by
  split at h
  · cases h; exact nest_ok SBq_ok SBq_q ht35 c35 _ _
  · cases h)
theorem SB35_q : ∀ g, (SB35.q g).isSome = Q g := fun g => mkS_isSome g
noncomputable def gL (args : List AV) (hp : List AObj) : Option AV := (runG Try.prog SB35 FNo 40 p19 args hp).bind fun q => if q.1.closed then some q.1 else none
noncomputable def lenS (args : List AV) (h : AHeap) : Option AV := (impD 1 h args).bind fun r => gL r.1 r.2
theorem len_ok : QuietOK Try.prog 19 lenS := quiet_deep mixed SB35_ok ht19 1 fun args hp v h => by
  unfold gL at h
  simp only [Option.bind_eq_some_iff] at h
  obtain ⟨⟨v1, h1⟩, h2, h3⟩ := h
  simp only at h3
  split at h3
  · rename_i hc
    cases h3
    exact ⟨hc, .inr ⟨_, _, _, runG_sound SB35_q c19 h2⟩⟩
  · cases h3
noncomputable def q7 (g : FuncId) : Option (List AV → AHeap → Option AV) := match g with
  | 9 => some fun args _ => begunS args
  | 10 => some fun args _ => blockS args
  | 11 => some fun args _ => blockS args
  | 19 => some lenS
  | 20 => some sumS
  | _ => none
theorem q7_ok (g : FuncId) (s : List AV → AHeap → Option AV) (_ : Q2 g = true) (h : q7 g = some s) : QuietOK Try.prog g s := by
  unfold q7 at h
  split at h
  · cases h; exact begun_okS
  · cases h; exact block_ok
  · cases h; exact rblock_ok
  · cases h; exact len_ok
  · cases h; exact sum_ok
  · cases h
/- The law ShaNone as a run. -/
/- The law ShaNone: it comes to true. -/
end Go.Proofs.Ytiijphmpkmmpjaa
