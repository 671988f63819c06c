/- Taking the pad: (*Hash).takes by a hash's copy, within the sum. -/
import Derived.Test.YtiijphmpkmmpjaaShaWb
namespace Go.Proofs.Ytiijphmpkmmpjaa
open Go Go.Am
set_option maxRecDepth 100000
set_option linter.unusedVariables false
set_option linter.unusedSimpArgs false

abbrev syB : Sy := sy0 [0, 4, 8, 9]
def hpBz (cs : List AV) (m0 c0 k : Nat) (s1 : Nat → Int) (Rc : List AV) (pd : List AV) (rest : AV) (s : Nat → Int) (n : Int) : AHeap := [.ro cs, .row 23 1 [.sl (some (0, 0)) m0 (.fix c0)], .row 30 32 (z3 .u8 32), hrow s1 (.sl none 0 (.fix 0)) n, .dead, .row 30 32 (z3 .u8 32), .row 30 32 (z3 .u8 32), hrow s rest n, .row 5 1 pd]
def CBz (cs : List AV) (m0 c0 k : Nat) (s1 : Nat → Int) (Rc : List AV) (pd : List AV) (rest data : AV) (s : Nat → Int) (n : Int) : St := ([.ptr (some (7, 0)), data, .any, .any, .any, .any, .any, .any, .any, .any, .any, .any, .any, .any, .any, .any, .any, .any, .any, .any, .any, .any, .any, .any, .any, .any, .any, .any, .any, .any, .any, .any, .any, .any, .any, .any, .any, .any, .any, .any, .any, .any, .any, .any, .any, .any, .any, .any, .any, .any, .any, .any, .any, .any, .any, .any, .any, .any, .any, .any, .any, .any, .any, .any, .any, .any, .any, .any, .any, .any, .any], hpBz cs m0 c0 k s1 Rc pd rest s n)
def hpBn (cs : List AV) (m0 c0 k : Nat) (s1 : Nat → Int) (Rc : List AV) (pd : List AV) (rest : AV) (s : Nat → Int) (n : Int) : AHeap := [.ro cs, .row 23 1 [.sl (some (0, 0)) m0 (.fix c0)], .row 30 32 (z3 .u8 32), hrow s1 (.sl (some (4, 0)) k (.fix 64)) n, .row 26 64 Rc, .row 30 32 (z3 .u8 32), .row 30 32 (z3 .u8 32), hrow s rest n, .row 5 1 pd]
def CBn (cs : List AV) (m0 c0 k : Nat) (s1 : Nat → Int) (Rc : List AV) (pd : List AV) (rest data : AV) (s : Nat → Int) (n : Int) : St := ([.ptr (some (7, 0)), data, .any, .any, .any, .any, .any, .any, .any, .any, .any, .any, .any, .any, .any, .any, .any, .any, .any, .any, .any, .any, .any, .any, .any, .any, .any, .any, .any, .any, .any, .any, .any, .any, .any, .any, .any, .any, .any, .any, .any, .any, .any, .any, .any, .any, .any, .any, .any, .any, .any, .any, .any, .any, .any, .any, .any, .any, .any, .any, .any, .any, .any, .any, .any, .any, .any, .any, .any, .any, .any], hpBn cs m0 c0 k s1 Rc pd rest s n)
theorem tB3t (cs : List AV) (m0 c0 k : Nat) (s1 : Nat → Int) (Rc : List AV) (pd : List AV) (s : Nat → Int) (n : Int) (L : Nat) : (evVg Try.prog SB0 syB cvB 9 F36 60 (.inl p36_l0) (CBn cs m0 c0 k s1 Rc pd (.sl (some (4, 0)) k (.fix 64)) (.sl (some (8, 0)) L (.rel 0)) s n) [Hint.is true, Hint.is false, Hint.is true, Hint.is false]).map (fun r => (r.1.1, (tidyV syB 9 (F36 0) r.1.2).1, (tidyV syB 9 (F36 0) r.1.2).2, r.2.2)) = some (.normal, CBn cs m0 c0 k s1 Rc pd (.sl none 0 (.fix 0)) (.sl (some (8, 0 + (min L (64 - min k 64)) * 1)) (L - (min L (64 - min k 64))) (.rel (0 + (min L (64 - min k 64))))) (BL s (List.take 64 (List.drop 0 (spliceA (spliceA (z3 .u8 64) 0 (List.take (min k 64 * 1) (List.take (k * 1) (List.drop 0 Rc)))) (if min k 64 = 64 then 0 else 0 + min k 64 * 1) (List.take (min L (64 - min k 64) * 1) (List.take (L * 1) (List.drop 0 pd))))))) n, [cs.all (isInt .u8), Rc.all (isInt .u8), pd.all (isInt .u8), (spliceA (spliceA (z3 .u8 64) 0 (List.take (min k 64 * 1) (List.take (k * 1) (List.drop 0 Rc)))) (if min k 64 = 64 then 0 else 0 + min k 64 * 1) (List.take (min L (64 - min k 64) * 1) (List.take (L * 1) (List.drop 0 pd)))).all (isInt .u8), cs.all (isInt .u8), Rc.all (isInt .u8), pd.all (isInt .u8)], [List.all cs (isInt IntKind.u8), List.all Rc (isInt IntKind.u8), List.all pd (isInt IntKind.u8), List.all cs (isInt IntKind.u8), List.all Rc (isInt IntKind.u8), List.all pd (isInt IntKind.u8), decide ((↑L : Int) > 0) == true, ((↑k : Int) == 0) == false, true, decide (0 + k * 1 ≤ List.length Rc), List.all (List.take (k * 1) (List.drop 0 Rc)) AV.one, decide (0 + min k 64 * 1 ≤ List.length (z3 .u8 64)), true, decide ((↑(min k 64) : Int) ≤ (↑64 : Int)), decide (0 + L * 1 ≤ List.length pd), List.all (List.take (L * 1) (List.drop 0 pd)) AV.one, decide ((if min k 64 = 64 then 0 else 0 + min k 64 * 1) + min L (64 - min k 64) * 1 ≤ List.length (spliceA (z3 .u8 64) 0 (List.take (min k 64 * 1) (List.take (k * 1) (List.drop 0 Rc))))), true, decide ((↑(min L (64 - min k 64)) : Int) ≤ (↑L : Int)), decide (min L (64 - min k 64) < L), decide (IntKind.wrap IntKind.i64 ((↑(min k 64) : Int) + (↑(min L (64 - min k 64)) : Int)) < 64) == false, decide (0 + 64 ≤ List.length (spliceA (spliceA (z3 .u8 64) 0 (List.take (min k 64 * 1) (List.take (k * 1) (List.drop 0 Rc)))) (if min k 64 = 64 then 0 else 0 + min k 64 * 1) (List.take (min L (64 - min k 64) * 1) (List.take (L * 1) (List.drop 0 pd))))), true, isInts IntKind.u8 64 (List.take 64 (List.drop 0 (spliceA (spliceA (z3 .u8 64) 0 (List.take (min k 64 * 1) (List.take (k * 1) (List.drop 0 Rc)))) (if min k 64 = 64 then 0 else 0 + min k 64 * 1) (List.take (min L (64 - min k 64) * 1) (List.take (L * 1) (List.drop 0 pd)))))), true, true, true, true]) := by kernel_rfl
theorem tB3f (cs : List AV) (m0 c0 k : Nat) (s1 : Nat → Int) (Rc : List AV) (pd : List AV) (s : Nat → Int) (n : Int) (L : Nat) : (evVg Try.prog SB0 syB cvB 9 F36 60 (.inl p36_l0) (CBn cs m0 c0 k s1 Rc pd (.sl (some (4, 0)) k (.fix 64)) (.sl (some (8, 0)) L (.rel 0)) s n) [Hint.is true, Hint.is false, Hint.is false, Hint.is false]).map (fun r => (r.1.1, (tidyV syB 9 (F36 0) r.1.2).1, (tidyV syB 9 (F36 0) r.1.2).2, r.2.2)) = some (.normal, CBn cs m0 c0 k s1 Rc pd (.sl none 0 (.fix 0)) (.slE 8 0 0 (min L (64 - min k 64)) 1) (BL s (List.take 64 (List.drop 0 (spliceA (spliceA (z3 .u8 64) 0 (List.take (min k 64 * 1) (List.take (k * 1) (List.drop 0 Rc)))) (if min k 64 = 64 then 0 else 0 + min k 64 * 1) (List.take (min L (64 - min k 64) * 1) (List.take (L * 1) (List.drop 0 pd))))))) n, [cs.all (isInt .u8), Rc.all (isInt .u8), pd.all (isInt .u8), (spliceA (spliceA (z3 .u8 64) 0 (List.take (min k 64 * 1) (List.take (k * 1) (List.drop 0 Rc)))) (if min k 64 = 64 then 0 else 0 + min k 64 * 1) (List.take (min L (64 - min k 64) * 1) (List.take (L * 1) (List.drop 0 pd)))).all (isInt .u8), cs.all (isInt .u8), Rc.all (isInt .u8), pd.all (isInt .u8)], [List.all cs (isInt IntKind.u8), List.all Rc (isInt IntKind.u8), List.all pd (isInt IntKind.u8), List.all cs (isInt IntKind.u8), List.all Rc (isInt IntKind.u8), List.all pd (isInt IntKind.u8), decide ((↑L : Int) > 0) == true, ((↑k : Int) == 0) == false, true, decide (0 + k * 1 ≤ List.length Rc), List.all (List.take (k * 1) (List.drop 0 Rc)) AV.one, decide (0 + min k 64 * 1 ≤ List.length (z3 .u8 64)), true, decide ((↑(min k 64) : Int) ≤ (↑64 : Int)), decide (0 + L * 1 ≤ List.length pd), List.all (List.take (L * 1) (List.drop 0 pd)) AV.one, decide ((if min k 64 = 64 then 0 else 0 + min k 64 * 1) + min L (64 - min k 64) * 1 ≤ List.length (spliceA (z3 .u8 64) 0 (List.take (min k 64 * 1) (List.take (k * 1) (List.drop 0 Rc))))), true, decide ((↑(min L (64 - min k 64)) : Int) ≤ (↑L : Int)), decide (min L (64 - min k 64) = L), !decide (min L (64 - min k 64) = 0), decide (IntKind.wrap IntKind.i64 ((↑(min k 64) : Int) + (↑(min L (64 - min k 64)) : Int)) < 64) == false, decide (0 + 64 ≤ List.length (spliceA (spliceA (z3 .u8 64) 0 (List.take (min k 64 * 1) (List.take (k * 1) (List.drop 0 Rc)))) (if min k 64 = 64 then 0 else 0 + min k 64 * 1) (List.take (min L (64 - min k 64) * 1) (List.take (L * 1) (List.drop 0 pd))))), true, isInts IntKind.u8 64 (List.take 64 (List.drop 0 (spliceA (spliceA (z3 .u8 64) 0 (List.take (min k 64 * 1) (List.take (k * 1) (List.drop 0 Rc)))) (if min k 64 = 64 then 0 else 0 + min k 64 * 1) (List.take (min L (64 - min k 64) * 1) (List.take (L * 1) (List.drop 0 pd)))))), true, true, true, true]) := by kernel_rfl
theorem tB1z (cs : List AV) (m0 c0 k : Nat) (s1 : Nat → Int) (Rc : List AV) (pd : List AV) (s : Nat → Int) (n : Int) (o m q : Nat) : (evVg Try.prog SB0 syB cvB 9 F36 60 (.inl p36_l0) (CBz cs m0 c0 k s1 Rc pd (.sl none 0 (.fix 0)) (.sl (some (8, o)) m (.rel q)) s n) [Hint.is true, Hint.lit, Hint.is true, Hint.is false]).map (fun r => (r.1.1, (tidyV syB 9 (F36 0) r.1.2).1, (tidyV syB 9 (F36 0) r.1.2).2, r.2.2)) = some (.normal, CBz cs m0 c0 k s1 Rc pd (.sl none 0 (.fix 0)) (.slE 8 o q 64 1) (BL s (List.take 64 (List.drop o pd))) n, [cs.all (isInt .u8), pd.all (isInt .u8), cs.all (isInt .u8), pd.all (isInt .u8)], [List.all cs (isInt IntKind.u8), List.all pd (isInt IntKind.u8), List.all cs (isInt IntKind.u8), List.all pd (isInt IntKind.u8), decide ((↑m : Int) > 0) == true, decide ((↑m : Int) ≥ 64) == true, true, decide (64 ≤ (↑m : Int)), true, true, decide (o + 64 ≤ List.length pd), true, isInts IntKind.u8 64 (List.take 64 (List.drop o pd)), true, true, true, decide (64 ≤ (↑m : Int)), decide (64 = m), true]) := by kernel_rfl
theorem tB0z (cs : List AV) (m0 c0 k : Nat) (s1 : Nat → Int) (Rc : List AV) (pd : List AV) (s : Nat → Int) (n : Int) (o q l : Nat) : (evVg Try.prog SB0 syB cvB 9 F36 60 (.inl p36_l0) (CBz cs m0 c0 k s1 Rc pd (.sl none 0 (.fix 0)) (.slE 8 o q l 1) s n) [Hint.lit]).map (fun r => (r.1.1, r.1.2.2, r.2.2)) = some (.exit 0, hpBz cs m0 c0 k s1 Rc pd (.sl none 0 (.fix 0)) s n, [List.all cs (isInt IntKind.u8), List.all pd (isInt IntKind.u8), List.all cs (isInt IntKind.u8), List.all pd (isInt IntKind.u8)]) := by kernel_rfl
theorem tB1n (cs : List AV) (m0 c0 k : Nat) (s1 : Nat → Int) (Rc : List AV) (pd : List AV) (s : Nat → Int) (n : Int) (o m q : Nat) : (evVg Try.prog SB0 syB cvB 9 F36 60 (.inl p36_l0) (CBn cs m0 c0 k s1 Rc pd (.sl none 0 (.fix 0)) (.sl (some (8, o)) m (.rel q)) s n) [Hint.is true, Hint.lit, Hint.is true, Hint.is false]).map (fun r => (r.1.1, (tidyV syB 9 (F36 0) r.1.2).1, (tidyV syB 9 (F36 0) r.1.2).2, r.2.2)) = some (.normal, CBn cs m0 c0 k s1 Rc pd (.sl none 0 (.fix 0)) (.slE 8 o q 64 1) (BL s (List.take 64 (List.drop o pd))) n, [cs.all (isInt .u8), Rc.all (isInt .u8), pd.all (isInt .u8), cs.all (isInt .u8), Rc.all (isInt .u8), pd.all (isInt .u8)], [List.all cs (isInt IntKind.u8), List.all Rc (isInt IntKind.u8), List.all pd (isInt IntKind.u8), List.all cs (isInt IntKind.u8), List.all Rc (isInt IntKind.u8), List.all pd (isInt IntKind.u8), decide ((↑m : Int) > 0) == true, decide ((↑m : Int) ≥ 64) == true, true, decide (64 ≤ (↑m : Int)), true, true, decide (o + 64 ≤ List.length pd), true, isInts IntKind.u8 64 (List.take 64 (List.drop o pd)), true, true, true, decide (64 ≤ (↑m : Int)), decide (64 = m), true]) := by kernel_rfl
theorem tB0n (cs : List AV) (m0 c0 k : Nat) (s1 : Nat → Int) (Rc : List AV) (pd : List AV) (s : Nat → Int) (n : Int) (o q l : Nat) : (evVg Try.prog SB0 syB cvB 9 F36 60 (.inl p36_l0) (CBn cs m0 c0 k s1 Rc pd (.sl none 0 (.fix 0)) (.slE 8 o q l 1) s n) [Hint.lit]).map (fun r => (r.1.1, r.1.2.2, r.2.2)) = some (.exit 0, hpBn cs m0 c0 k s1 Rc pd (.sl none 0 (.fix 0)) s n, [List.all cs (isInt IntKind.u8), List.all Rc (isInt IntKind.u8), List.all pd (isInt IntKind.u8), List.all cs (isInt IntKind.u8), List.all Rc (isInt IntKind.u8), List.all pd (isInt IntKind.u8)]) := by kernel_rfl
theorem CBtidyze (cs : List AV) (m0 c0 k : Nat) (s1 : Nat → Int) (Rc : List AV) (pd : List AV) (s : Nat → Int) (n : Int) (o q l : Nat) : ((tidyV syB 9 (F36 0) (CBz cs m0 c0 k s1 Rc pd (.sl none 0 (.fix 0)) (.slE 8 o q l 1) s n)).1, (tidyV syB 9 (F36 0) (CBz cs m0 c0 k s1 Rc pd (.sl none 0 (.fix 0)) (.slE 8 o q l 1) s n)).2) = (CBz cs m0 c0 k s1 Rc pd (.sl none 0 (.fix 0)) (.slE 8 o q l 1) s n, [cs.all (isInt .u8), pd.all (isInt .u8), cs.all (isInt .u8), pd.all (isInt .u8)]) := by kernel_rfl
theorem CBtidyzs (cs : List AV) (m0 c0 k : Nat) (s1 : Nat → Int) (Rc : List AV) (pd : List AV) (s : Nat → Int) (n : Int) (o q m : Nat) : ((tidyV syB 9 (F36 0) (CBz cs m0 c0 k s1 Rc pd (.sl none 0 (.fix 0)) (.sl (some (8, o)) m (.rel q)) s n)).1, (tidyV syB 9 (F36 0) (CBz cs m0 c0 k s1 Rc pd (.sl none 0 (.fix 0)) (.sl (some (8, o)) m (.rel q)) s n)).2) = (CBz cs m0 c0 k s1 Rc pd (.sl none 0 (.fix 0)) (.sl (some (8, o)) m (.rel q)) s n, [cs.all (isInt .u8), pd.all (isInt .u8), cs.all (isInt .u8), pd.all (isInt .u8)]) := by kernel_rfl
theorem CBtidyne (cs : List AV) (m0 c0 k : Nat) (s1 : Nat → Int) (Rc : List AV) (pd : List AV) (s : Nat → Int) (n : Int) (o q l : Nat) : ((tidyV syB 9 (F36 0) (CBn cs m0 c0 k s1 Rc pd (.sl none 0 (.fix 0)) (.slE 8 o q l 1) s n)).1, (tidyV syB 9 (F36 0) (CBn cs m0 c0 k s1 Rc pd (.sl none 0 (.fix 0)) (.slE 8 o q l 1) s n)).2) = (CBn cs m0 c0 k s1 Rc pd (.sl none 0 (.fix 0)) (.slE 8 o q l 1) s n, [cs.all (isInt .u8), Rc.all (isInt .u8), pd.all (isInt .u8), cs.all (isInt .u8), Rc.all (isInt .u8), pd.all (isInt .u8)]) := by kernel_rfl
theorem CBtidyns (cs : List AV) (m0 c0 k : Nat) (s1 : Nat → Int) (Rc : List AV) (pd : List AV) (s : Nat → Int) (n : Int) (o q m : Nat) : ((tidyV syB 9 (F36 0) (CBn cs m0 c0 k s1 Rc pd (.sl none 0 (.fix 0)) (.sl (some (8, o)) m (.rel q)) s n)).1, (tidyV syB 9 (F36 0) (CBn cs m0 c0 k s1 Rc pd (.sl none 0 (.fix 0)) (.sl (some (8, o)) m (.rel q)) s n)).2) = (CBn cs m0 c0 k s1 Rc pd (.sl none 0 (.fix 0)) (.sl (some (8, o)) m (.rel q)) s n, [cs.all (isInt .u8), Rc.all (isInt .u8), pd.all (isInt .u8), cs.all (isInt .u8), Rc.all (isInt .u8), pd.all (isInt .u8)]) := by kernel_rfl
theorem splice_all {p : AV → Prop} {cs vs : List AV} {o : Nat} (h1 : ∀ v ∈ cs, p v) (h2 : ∀ v ∈ vs, p v) : ∀ v ∈ spliceA cs o vs, p v := fun v hv => by
  unfold spliceA at hv
  rcases List.mem_append.1 hv with hv | hv
  · rcases List.mem_append.1 hv with hv | hv
    · exact h1 v (List.mem_of_mem_take hv)
    · exact h2 v hv
  · exact h1 v (List.mem_of_mem_drop hv)
theorem ints_one {k : IntKind} {l : List AV} (h : l.all (isInt k) = true) : l.all AV.one = true := by
  rw [List.all_eq_true] at h ⊢
  intro v hv
  have := h v hv
  cases v <;> first | rfl | cases this
theorem all_sub {p : AV → Bool} {l l' : List AV} (h : l.all p = true) (hs : ∀ v ∈ l', v ∈ l) : l'.all p = true := by
  rw [List.all_eq_true] at h ⊢
  exact fun v hv => h v (hs v hv)
/-- One block of the pad. -/
theorem takeB_onez (cs : List AV) (m0 c0 k : Nat) (s1 : Nat → Int) (Rc : List AV) (pd : List AV) (s : Nat → Int) (n : Int) (hcs : cs.all (isInt .u8) = true) (hpd : pd.all (isInt .u8) = true) (o q : Nat) (ho : o + 64 ≤ pd.length) :
    ∃ N st', evG Try.prog SB0 9 F36 N (.inl (.loop p36_l0)) (CBz cs m0 c0 k s1 Rc pd (.sl none 0 (.fix 0)) (.sl (some (8, o)) 64 (.rel q)) s n) = some (.exit 0, st') ∧ st'.2 = hpBz cs m0 c0 k s1 Rc pd (.sl none 0 (.fix 0)) (BL s ((pd.drop o).take 64)) n := by
  have h := tB1z cs m0 c0 k s1 Rc pd s n o 64 q
  simp only [Option.map_eq_some_iff] at h
  obtain ⟨⟨⟨e, st'⟩, hs', cl⟩, a1, a2⟩ := h
  simp only [Prod.mk.injEq] at a2
  obtain ⟨rfl, a3, a4, rfl⟩ := a2
  have hint : isInts IntKind.u8 64 (List.take 64 (List.drop o pd)) = true := by
    simp only [isInts, Bool.and_eq_true, beq_iff_eq]
    exact ⟨by simp; omega, all_sub hpd fun v hv => List.mem_of_mem_drop (List.mem_of_mem_take hv)⟩
  have hev := evVg_ok _ _ _ _ cvB_ok _ _ a1 (by
    simp only [hcs, hpd, hint, List.all_cons, List.all_nil, id, Bool.and_true, Bool.and_eq_true, decide_eq_true_eq, beq_iff_eq]
    simp
    omega)
  have ht := tidyV_ok (sy := syB) (b := 9) (t := F36 0) (st := st') (by rw [a4]; simp [hcs, hpd])
  rw [a3] at ht
  have hc := CBtidyze cs m0 c0 k s1 Rc pd (BL s ((pd.drop o).take 64)) n o q 64
  simp only [Prod.mk.injEq] at hc
  have ht2 := tidyV_ok (sy := syB) (b := 9) (t := F36 0) (st := CBz cs m0 c0 k s1 Rc pd (.sl none 0 (.fix 0)) (.slE 8 o q 64 1) (BL s ((pd.drop o).take 64)) n) (by rw [hc.2]; simp [hcs, hpd])
  rw [hc.1] at ht2
  have h0 := tB0z cs m0 c0 k s1 Rc pd (BL s ((pd.drop o).take 64)) n o q 64
  simp only [Option.map_eq_some_iff] at h0
  obtain ⟨⟨⟨e, st2⟩, hs2, cl2⟩, b1, b2⟩ := h0
  simp only [Prod.mk.injEq] at b2
  obtain ⟨rfl, b3, rfl⟩ := b2
  have hev2 := evVg_ok _ _ _ _ cvB_ok _ _ b1 (by simp [hcs, hpd])
  exact ⟨62, st2, loop_nextg (n := 61) (id := 0) rfl (evG_le hev (by omega)) (ht.trans ht2.symm) (loop_stopg (n := 60) hev2 (fun h => by cases h)), b3⟩
theorem takeB_onen (cs : List AV) (m0 c0 k : Nat) (s1 : Nat → Int) (Rc : List AV) (pd : List AV) (s : Nat → Int) (n : Int) (hcs : cs.all (isInt .u8) = true) (hR : Rc.all (isInt .u8) = true) (hpd : pd.all (isInt .u8) = true) (o q : Nat) (ho : o + 64 ≤ pd.length) :
    ∃ N st', evG Try.prog SB0 9 F36 N (.inl (.loop p36_l0)) (CBn cs m0 c0 k s1 Rc pd (.sl none 0 (.fix 0)) (.sl (some (8, o)) 64 (.rel q)) s n) = some (.exit 0, st') ∧ st'.2 = hpBn cs m0 c0 k s1 Rc pd (.sl none 0 (.fix 0)) (BL s ((pd.drop o).take 64)) n := by
  have h := tB1n cs m0 c0 k s1 Rc pd s n o 64 q
  simp only [Option.map_eq_some_iff] at h
  obtain ⟨⟨⟨e, st'⟩, hs', cl⟩, a1, a2⟩ := h
  simp only [Prod.mk.injEq] at a2
  obtain ⟨rfl, a3, a4, rfl⟩ := a2
  have hint : isInts IntKind.u8 64 (List.take 64 (List.drop o pd)) = true := by
    simp only [isInts, Bool.and_eq_true, beq_iff_eq]
    exact ⟨by simp; omega, all_sub hpd fun v hv => List.mem_of_mem_drop (List.mem_of_mem_take hv)⟩
  have hev := evVg_ok _ _ _ _ cvB_ok _ _ a1 (by
    simp only [hcs, hR, hpd, hint, List.all_cons, List.all_nil, id, Bool.and_true, Bool.and_eq_true, decide_eq_true_eq, beq_iff_eq]
    simp
    omega)
  have ht := tidyV_ok (sy := syB) (b := 9) (t := F36 0) (st := st') (by rw [a4]; simp [hcs, hR, hpd])
  rw [a3] at ht
  have hc := CBtidyne cs m0 c0 k s1 Rc pd (BL s ((pd.drop o).take 64)) n o q 64
  simp only [Prod.mk.injEq] at hc
  have ht2 := tidyV_ok (sy := syB) (b := 9) (t := F36 0) (st := CBn cs m0 c0 k s1 Rc pd (.sl none 0 (.fix 0)) (.slE 8 o q 64 1) (BL s ((pd.drop o).take 64)) n) (by rw [hc.2]; simp [hcs, hR, hpd])
  rw [hc.1] at ht2
  have h0 := tB0n cs m0 c0 k s1 Rc pd (BL s ((pd.drop o).take 64)) n o q 64
  simp only [Option.map_eq_some_iff] at h0
  obtain ⟨⟨⟨e, st2⟩, hs2, cl2⟩, b1, b2⟩ := h0
  simp only [Prod.mk.injEq] at b2
  obtain ⟨rfl, b3, rfl⟩ := b2
  have hev2 := evVg_ok _ _ _ _ cvB_ok _ _ b1 (by simp [hcs, hR, hpd])
  exact ⟨62, st2, loop_nextg (n := 61) (id := 0) rfl (evG_le hev (by omega)) (ht.trans ht2.symm) (loop_stopg (n := 60) hev2 (fun h => by cases h)), b3⟩
theorem takeB_z (cs : List AV) (m0 c0 k : Nat) (s1 : Nat → Int) (Rc : List AV) (pd : List AV) (s : Nat → Int) (n : Int) (hcs : cs.all (isInt .u8) = true) (hpd : pd.all (isInt .u8) = true) (hl : pd.length = 64) :
    ∃ N, runG Try.prog SB0 F36 N p36 [.ptr (some (7, 0)), .sl (some (8, 0)) 64 (.rel 0)] (hpBz cs m0 c0 k s1 Rc pd (.sl none 0 (.fix 0)) s n) = some (.tup [], hpBz cs m0 c0 k s1 Rc pd (.sl none 0 (.fix 0)) (BL s pd) n) := by
  obtain ⟨N, st', a1, a2⟩ := takeB_onez cs m0 c0 k s1 Rc pd s n hcs hpd 0 0 (by omega)
  have a1' : evG Try.prog SB0 (hpBz cs m0 c0 k s1 Rc pd (.sl none 0 (.fix 0)) s n).length F36 N (.inl (.loop p36_l0)) ([.ptr (some (7, 0)), .sl (some (8, 0)) 64 (.rel 0)] ++ List.replicate (p36.ntmps - [AV.ptr (some (7, 0)), .sl (some (8, 0)) 64 (.rel 0)].length) .any, hpBz cs m0 c0 k s1 Rc pd (.sl none 0 (.fix 0)) s n) = some (.exit 0, st') := a1
  have e : (pd.drop 0).take 64 = pd := by rw [List.drop_zero, List.take_of_length_le (by omega)]
  rw [e] at a2
  rw [← a2]
  exact ⟨N + 1, by unfold runG; rw [show p36.body = .block 0 (.loop p36_l0) from rfl, block_stopg a1']; rfl⟩
theorem R64_take {l : List AV} (h : l.length < 64) : (R64 l).take l.length = l ∧ (R64 l).length = 64 := by
  have hz : (z3 .u8 64).length = 64 := by simp [z3, ints_length]
  refine ⟨by simp [R64, spliceA], by rw [R64, splice_len _ _ _ (by omega), hz]⟩
theorem R64_ints {l : List AV} (hi : l.all (isInt .u8) = true) : (R64 l).all (isInt .u8) = true := by
  rw [List.all_eq_true] at hi ⊢
  refine fun v hv => splice_all (p := fun v => isInt .u8 v = true) (fun v hv => ?_) hi v hv
  simp only [z3, ints, List.mem_map] at hv
  obtain ⟨i, _, rfl⟩ := hv
  simp [isInt]
theorem X_eq {l pd : List AV} {L : Nat} (h : l.length < 64) (hL : L = pd.length) (hk : 64 ≤ l.length + L) : (fun k Rc => (List.take 64 (List.drop 0 (spliceA (spliceA (z3 .u8 64) 0 (List.take (min k 64 * 1) (List.take (k * 1) (List.drop 0 Rc)))) (if min k 64 = 64 then 0 else 0 + min k 64 * 1) (List.take (min L (64 - min k 64) * 1) (List.take (L * 1) (List.drop 0 pd))))))) l.length (R64 l) = (l ++ pd).take 64 := by
  obtain ⟨h1, h2⟩ := R64_take h
  have mk : min l.length 64 = l.length := by omega
  have mL : min L (64 - l.length) = 64 - l.length := by omega
  have hz : (z3 .u8 64).length = 64 := by simp [z3, ints_length]
  simp only [mk, mL, List.drop_zero, Nat.mul_one, h1, Nat.zero_add, if_neg (show ¬ l.length = 64 by omega), List.take_length]
  have e1 : spliceA (z3 .u8 64) 0 l = R64 l := rfl
  rw [e1, hL, List.take_length]
  unfold spliceA
  rw [h1, List.drop_eq_nil_of_le (by simp; omega), List.append_nil, List.take_of_length_le (by simp; omega), List.take_append, List.take_of_length_le (l := l) (by omega)]
theorem takeB_n (cs : List AV) (m0 c0 : Nat) (s1 : Nat → Int) (l pd : List AV) (s : Nat → Int) (n : Int) (hcs : cs.all (isInt .u8) = true) (hl : l.all (isInt .u8) = true) (hpd : pd.all (isInt .u8) = true)
    (h0 : 0 < l.length) (h64 : l.length < 64) (hp : 0 < pd.length) (hL : l.length + pd.length = 64 ∨ l.length + pd.length = 128) :
    ∃ N, runG Try.prog SB0 F36 N p36 [.ptr (some (7, 0)), .sl (some (8, 0)) pd.length (.rel 0)] (hpBn cs m0 c0 l.length s1 (R64 l) pd (.sl (some (4, 0)) l.length (.fix 64)) s n) = some (.tup [], hpBn cs m0 c0 l.length s1 (R64 l) pd (.sl none 0 (.fix 0)) (absorb s (l ++ pd)).1 n) := by
  obtain ⟨q1, q2⟩ := R64_take h64
  have hR := R64_ints hl
  have mk : min l.length 64 = l.length := by omega
  have mL : min pd.length (64 - l.length) = 64 - l.length := by omega
  have hX := X_eq (l := l) (pd := pd) (L := pd.length) h64 rfl (by omega)
  simp only at hX
  have hne : ¬ l.length = 64 := by omega
  have hnil : l ≠ [] := fun h => by rw [h] at h0; simp at h0
  have hXi : isInts .u8 64 ((l ++ pd).take 64) = true := by
    simp only [isInts, Bool.and_eq_true, beq_iff_eq]
    refine ⟨by simp; omega, all_sub (l := l ++ pd) (by rw [List.all_append, hl, hpd]; rfl) fun v hv => List.mem_of_mem_take hv⟩
  have o1 : List.all (List.take (l.length * 1) (List.drop 0 (R64 l))) AV.one = true := by
    refine ints_one (k := .u8) (all_sub hR fun v hv => List.mem_of_mem_drop (List.mem_of_mem_take hv))
  have o2 : List.all (List.take (pd.length * 1) (List.drop 0 pd)) AV.one = true := by
    refine ints_one (k := .u8) (all_sub hpd fun v hv => List.mem_of_mem_drop (List.mem_of_mem_take hv))
  have hz : (z3 .u8 64).length = 64 := by simp [z3, ints_length]
  have len1 : (spliceA (z3 .u8 64) 0 (List.take (l.length * 1) (List.take (l.length * 1) (List.drop 0 (R64 l))))).length = 64 := by
    rw [splice_len _ _ _ (by simp; omega), hz]
  have len2 : (spliceA (spliceA (z3 .u8 64) 0 (List.take (l.length * 1) (List.take (l.length * 1) (List.drop 0 (R64 l))))) (0 + l.length * 1) (List.take ((64 - l.length) * 1) (List.take (pd.length * 1) (List.drop 0 pd)))).length = 64 := by
    rw [splice_len _ _ _ (by rw [len1]; simp; omega), len1]
  have len2i : (spliceA (spliceA (z3 .u8 64) 0 (List.take (l.length * 1) (List.take (l.length * 1) (List.drop 0 (R64 l))))) (0 + l.length * 1) (List.take ((64 - l.length) * 1) (List.take (pd.length * 1) (List.drop 0 pd)))).all (isInt .u8) = true := by
    have hz0 : ∀ v ∈ z3 .u8 64, isInt .u8 v = true := fun v hv => by
      simp only [z3, ints, List.mem_map] at hv
      obtain ⟨i, _, rfl⟩ := hv
      simp [isInt]
    rw [List.all_eq_true] at hR hpd ⊢
    exact fun v hv => splice_all (p := fun v => isInt .u8 v = true) (fun v hv => splice_all (p := fun v => isInt .u8 v = true) hz0 (fun v hv => hR v (List.mem_of_mem_drop (List.mem_of_mem_take (List.mem_of_mem_take hv)))) v hv) (fun v hv => hpd v (List.mem_of_mem_drop (List.mem_of_mem_take (List.mem_of_mem_take hv)))) v hv
  have ew : IntKind.wrap .i64 ((l.length : Int) + ((64 - l.length : Nat) : Int)) = 64 := by rw [IntKind.wrap_i64]; omega
  have conds : ∀ (P1 : Bool), P1 = true → True := fun _ _ => trivial
  rcases hL with hL | hL
  · -- the pad fills the block
    have h := tB3f cs m0 c0 l.length s1 (R64 l) pd s n pd.length
    simp only [Option.map_eq_some_iff] at h
    obtain ⟨⟨⟨e, st'⟩, hs', cl⟩, a1, a2⟩ := h
    simp only [Prod.mk.injEq] at a2
    obtain ⟨rfl, a3, a4, rfl⟩ := a2
    have hev := evVg_ok _ _ _ _ cvB_ok _ _ a1 (by
      rw [hX]
      simp only [mk, mL, if_neg hne, hcs, hR, hpd, o1, o2, len1, len2, hz, ew, hXi, q2, List.all_cons, List.all_nil, id, Bool.and_true, Bool.true_and, Bool.and_eq_true, decide_eq_true_eq, beq_iff_eq, Bool.not_eq_true', decide_eq_false_iff_not]
      simp [hnil]
      omega)
    have ht := tidyV_ok (sy := syB) (b := 9) (t := F36 0) (st := st') (by rw [a4]; simp only [mk, mL, if_neg hne, hcs, hR, hpd, len2i, List.all_cons, List.all_nil, id, Bool.and_self])
    rw [a3, hX] at ht
    have hc := CBtidyne cs m0 c0 l.length s1 (R64 l) pd (BL s ((l ++ pd).take 64)) n 0 0 (min pd.length (64 - min l.length 64))
    simp only [Prod.mk.injEq] at hc
    have ht2 := tidyV_ok (sy := syB) (b := 9) (t := F36 0) (st := CBn cs m0 c0 l.length s1 (R64 l) pd (.sl none 0 (.fix 0)) (.slE 8 0 0 (min pd.length (64 - min l.length 64)) 1) (BL s ((l ++ pd).take 64)) n) (by rw [hc.2]; simp [hcs, hR, hpd])
    rw [hc.1] at ht2
    have h0 := tB0n cs m0 c0 l.length s1 (R64 l) pd (BL s ((l ++ pd).take 64)) n 0 0 (min pd.length (64 - min l.length 64))
    simp only [Option.map_eq_some_iff] at h0
    obtain ⟨⟨⟨e, st2⟩, hs2, cl2⟩, b1, b2⟩ := h0
    simp only [Prod.mk.injEq] at b2
    obtain ⟨rfl, b3, rfl⟩ := b2
    have hev2 := evVg_ok _ _ _ _ cvB_ok _ _ b1 (by simp [hcs, hR, hpd])
    have hlp := loop_nextg (n := 61) (id := 0) rfl (evG_le hev (by omega)) (ht.trans ht2.symm) (loop_stopg (n := 60) hev2 (fun h => by cases h))
    have ea : (absorb s (l ++ pd)).1 = BL s ((l ++ pd).take 64) := by
      rw [absorb_more (by simp; omega), absorb_end (by simp; omega)]
    rw [ea, ← b3]
    refine ⟨63, ?_⟩
    unfold runG
    have hlp' : evG Try.prog SB0 (hpBn cs m0 c0 l.length s1 (R64 l) pd (.sl (some (4, 0)) l.length (.fix 64)) s n).length F36 62 (.inl (.loop p36_l0)) ([.ptr (some (7, 0)), .sl (some (8, 0)) pd.length (.rel 0)] ++ List.replicate (p36.ntmps - [AV.ptr (some (7, 0)), .sl (some (8, 0)) pd.length (.rel 0)].length) .any, hpBn cs m0 c0 l.length s1 (R64 l) pd (.sl (some (4, 0)) l.length (.fix 64)) s n) = some (.exit 0, st2) := hlp
    rw [show p36.body = .block 0 (.loop p36_l0) from rfl, block_stopg hlp']
    rfl
  · -- and a block more
    have h := tB3t cs m0 c0 l.length s1 (R64 l) pd s n pd.length
    simp only [Option.map_eq_some_iff] at h
    obtain ⟨⟨⟨e, st'⟩, hs', cl⟩, a1, a2⟩ := h
    simp only [Prod.mk.injEq] at a2
    obtain ⟨rfl, a3, a4, rfl⟩ := a2
    have hev := evVg_ok _ _ _ _ cvB_ok _ _ a1 (by
      rw [hX]
      simp only [mk, mL, if_neg hne, hcs, hR, hpd, o1, o2, len1, len2, hz, ew, hXi, q2, List.all_cons, List.all_nil, id, Bool.and_true, Bool.true_and, Bool.and_eq_true, decide_eq_true_eq, beq_iff_eq, Bool.not_eq_true', decide_eq_false_iff_not]
      simp [hnil]
      omega)
    have ht := tidyV_ok (sy := syB) (b := 9) (t := F36 0) (st := st') (by rw [a4]; simp only [mk, mL, if_neg hne, hcs, hR, hpd, len2i, List.all_cons, List.all_nil, id, Bool.and_self])
    rw [a3, hX] at ht
    simp only [mk, mL, Nat.zero_add, Nat.mul_one] at ht
    have hm : pd.length - (64 - l.length) = 64 := by omega
    rw [hm] at ht
    have hc := CBtidyns cs m0 c0 l.length s1 (R64 l) pd (BL s ((l ++ pd).take 64)) n (64 - l.length) (64 - l.length) 64
    simp only [Prod.mk.injEq] at hc
    have ht2 := tidyV_ok (sy := syB) (b := 9) (t := F36 0) (st := CBn cs m0 c0 l.length s1 (R64 l) pd (.sl none 0 (.fix 0)) (.sl (some (8, 64 - l.length)) 64 (.rel (64 - l.length))) (BL s ((l ++ pd).take 64)) n) (by rw [hc.2]; simp [hcs, hR, hpd])
    rw [hc.1] at ht2
    obtain ⟨N, st2, b1, b3⟩ := takeB_onen cs m0 c0 l.length s1 (R64 l) pd (BL s ((l ++ pd).take 64)) n hcs hR hpd (64 - l.length) (64 - l.length) (by omega)
    have hlp := loop_nextg (n := max 60 N) (id := 0) rfl (evG_le hev (by omega)) (ht.trans ht2.symm) (evG_le b1 (by omega))
    have ed : (l ++ pd).drop 64 = (pd.drop (64 - l.length)).take 64 := by
      rw [List.drop_append, List.drop_eq_nil_of_le (by omega), List.nil_append, List.take_of_length_le (by simp; omega)]
    have ea : (absorb s (l ++ pd)).1 = BL (BL s ((l ++ pd).take 64)) ((pd.drop (64 - l.length)).take 64) := by
      rw [absorb_more (by simp; omega), absorb_more (by simp; omega), absorb_end (by simp; omega), ed, List.take_take, Nat.min_self]
    rw [ea, ← b3]
    refine ⟨max 60 N + 2, ?_⟩
    unfold runG
    have hlp' : evG Try.prog SB0 (hpBn cs m0 c0 l.length s1 (R64 l) pd (.sl (some (4, 0)) l.length (.fix 64)) s n).length F36 (max 60 N + 1) (.inl (.loop p36_l0)) ([.ptr (some (7, 0)), .sl (some (8, 0)) pd.length (.rel 0)] ++ List.replicate (p36.ntmps - [AV.ptr (some (7, 0)), .sl (some (8, 0)) pd.length (.rel 0)].length) .any, hpBn cs m0 c0 l.length s1 (R64 l) pd (.sl (some (4, 0)) l.length (.fix 64)) s n) = some (.exit 0, st2) := hlp
    rw [show p36.body = .block 0 (.loop p36_l0) from rfl, block_stopg hlp']
    rfl
end Go.Proofs.Ytiijphmpkmmpjaa
