/- Digits and sums, there and back. -/
import Derived.Test.YtiijphmpkmmpjaaShaTe
namespace Go.Proofs.Ytiijphmpkmmpjaa
open Go Go.Am
set_option maxRecDepth 100000
set_option linter.unusedVariables false
set_option linter.unusedSimpArgs false

theorem dec_ints {k : IntKind} {n : Nat} {f : Nat → Int} {i : Nat} (h : i < n) : dec (ints k n f) i = f i := by
  unfold dec ints
  rw [List.getElem?_map, List.getElem?_range h]
  rfl
theorem inB_D {f : Nat → Int} (h : inB f = true) : inB (D32 f) = true := by
  unfold inB at h ⊢
  rw [List.all_eq_true] at h ⊢
  intro i hi
  rw [show D32 f i = f i from dec_ints (List.mem_range.1 hi)]
  exact h i hi
theorem hexV_D (f : Nat → Int) : hexV (D32 f) = hexV f := by
  unfold hexV
  rw [List.flatMap_def, List.flatMap_def]
  congr 1
theorem pairs_len (g h : Nat → UInt8) : ∀ n, ((List.range n).flatMap fun i => [g i, h i]).length = 2 * n
  | 0 => rfl
  | n + 1 => by
    rw [List.range_succ, List.flatMap_append, List.length_append, pairs_len g h n]
    simp only [List.flatMap_cons, List.flatMap_nil, List.length_append, List.length_cons, List.length_nil]
    omega
theorem pairs_at (g h : Nat → UInt8) : ∀ n j, j < n → (((List.range n).flatMap fun i => [g i, h i])[2 * j]? = some (g j) ∧ ((List.range n).flatMap fun i => [g i, h i])[2 * j + 1]? = some (h j))
  | 0, j, hj => by omega
  | n + 1, j, hj => by
    have hl := pairs_len g h n
    rw [List.range_succ, List.flatMap_append]
    rcases Nat.lt_or_ge j n with q | q
    · rw [List.getElem?_append_left (by omega), List.getElem?_append_left (by omega)]
      exact pairs_at g h n j q
    · obtain rfl : j = n := by omega
      rw [List.getElem?_append_right (by omega), List.getElem?_append_right (by omega), hl]
      simp
theorem hex_at {f : Nat → Int} (h : inB f = true) {j : Nat} (hj : j < 32) : atS (hexV f) (2 * j) = ((dgE (f j / 16)).toNat : Nat) ∧ atS (hexV f) (2 * j + 1) = ((dgE (f j % 16)).toNat : Nat) := by
  obtain ⟨h1, h2⟩ := q16 (inB_at h hj)
  obtain ⟨a, b⟩ := pairs_at (fun i => dgE (IntKind.u8.wrap ((f i).tdiv 16))) (fun i => dgE ((f i).tmod 16)) 32 j hj
  unfold atS hexV
  rw [List.getD_eq_getElem?_getD, List.getD_eq_getElem?_getD, a, b, h1, h2]
  exact ⟨rfl, rfl⟩
theorem hex_len (f : Nat → Int) : (hexV f).length = 64 := pairs_len _ _ 32
def dig16 (n : Nat) : Bool := dok ((dgE (n : Nat)).toNat : Nat) && dv ((dgE (n : Nat)).toNat : Nat) == (n : Nat)
theorem dig16_all : (List.range 16).all dig16 = true := by kernel_rfl
theorem dg_ok {n : Int} (h : 0 ≤ n ∧ n < 16) : dok ((dgE n).toNat : Nat) = true ∧ dv ((dgE n).toNat : Nat) = n := by
  obtain ⟨m, rfl⟩ := Int.eq_ofNat_of_zero_le h.1
  have := List.all_eq_true.1 dig16_all m (List.mem_range.2 (by omega))
  simp only [dig16, Bool.and_eq_true, beq_iff_eq] at this
  exact this
theorem hex_ok {f : Nat → Int} (h : inB f = true) {j : Nat} (hj : j < 32) : okj (hexV f) j = true ∧ pv (hexV f) j = f j := by
  have hb := inB_at h hj
  obtain ⟨a, b⟩ := hex_at h hj
  obtain ⟨a1, a2⟩ := dg_ok (n := f j / 16) (by omega)
  obtain ⟨b1, b2⟩ := dg_ok (n := f j % 16) (by omega)
  refine ⟨by simp only [okj, a, b, a1, b1, Bool.and_self], ?_⟩
  simp only [pv, a, b, a2, b2, wu8]
  omega
theorem hex_parse {f : Nat → Int} (h : inB f = true) : parseB (hexV f) = true ∧ ∀ j, j < 32 → pf (hexV f) j = f j := by
  have hB : parseB (hexV f) = true := by
    simp only [parseB, hex_len, BEq.rfl, Bool.true_and]
    rw [List.all_eq_true]
    exact fun j hj => (hex_ok h (List.mem_range.1 hj)).1
  exact ⟨hB, fun j hj => by simp only [pf, hB, if_true]; exact (hex_ok h hj).2⟩
theorem E32_ok {f g : Nat → Int} (h : ∀ j, j < 32 → f j = g j) : E32 f g = true := by
  unfold E32
  have key : ∀ l : List Nat, (∀ j ∈ l, j < 32) → l.foldr (fun i b => f i == g i && b) true = true := fun l => by
    induction l with
    | nil => exact fun _ => rfl
    | cons x l ih =>
      intro hl
      simp only [List.foldr_cons, h x (hl x (by simp)), BEq.rfl, Bool.true_and]
      exact ih fun j hj => hl j (by simp [hj])
  exact key _ fun j hj => List.mem_range.1 hj
def back256 (n : Nat) : Bool := !dok (n : Nat) || dgE (dv (n : Nat)) == UInt8.ofNat n
theorem back256_all : (List.range 256).all back256 = true := by kernel_rfl
theorem dg_back {x : UInt8} (h : dok (x.toNat : Nat) = true) : dgE (dv (x.toNat : Nat)) = x := by
  have := List.all_eq_true.1 back256_all x.toNat (List.mem_range.2 x.toNat_lt)
  simpa [back256, h] using this
theorem pf_inB (s : List UInt8) : inB (pf s) = true := by
  unfold inB
  rw [List.all_eq_true]
  intro j _
  simp only [pf, pv, wu8, Bool.and_eq_true, decide_eq_true_eq]
  split <;> omega
theorem parse_hex {s : List UInt8} (h : parseB s = true) : hexV (pf s) = s := by
  have hp := h
  simp only [parseB, Bool.and_eq_true, beq_iff_eq, List.all_eq_true, List.mem_range] at h
  obtain ⟨hl, hj⟩ := h
  have step : ∀ j, j < 32 → pf s j / 16 = dv (atS s (2 * j)) ∧ pf s j % 16 = dv (atS s (2 * j + 1)) := fun j hlt => by
    have ho := hj j hlt
    simp only [okj, Bool.and_eq_true] at ho
    obtain ⟨-, a2, a3⟩ := dv_rdv ho.1
    obtain ⟨-, b2, b3⟩ := dv_rdv ho.2
    simp only [pf, hp, if_true, pv, wu8]
    omega
  apply List.ext_getElem?
  intro k
  rcases Nat.lt_or_ge k 64 with q | q
  · have hlt : k / 2 < 32 := by omega
    obtain ⟨a, b⟩ := pairs_at (fun i => dgE (IntKind.u8.wrap ((pf s i).tdiv 16))) (fun i => dgE ((pf s i).tmod 16)) 32 (k / 2) hlt
    obtain ⟨h1, h2⟩ := q16 (inB_at (pf_inB s) hlt)
    obtain ⟨s1, s2⟩ := step _ hlt
    have ho := hj _ hlt
    simp only [okj, Bool.and_eq_true] at ho
    have hk : k = 2 * (k / 2) ∨ k = 2 * (k / 2) + 1 := by omega
    rcases hk with hk | hk
    · have e : s[2 * (k / 2)]? = some (s.getD (2 * (k / 2)) 0) := by
        rw [List.getD_eq_getElem?_getD, List.getElem?_eq_getElem (by omega)]; rfl
      rw [hk, e]
      refine a.trans ?_
      simp only [h1, s1]
      exact congrArg some (dg_back ho.1)
    · have e : s[2 * (k / 2) + 1]? = some (s.getD (2 * (k / 2) + 1) 0) := by
        rw [List.getD_eq_getElem?_getD, List.getElem?_eq_getElem (by omega)]; rfl
      rw [hk, e]
      refine b.trans ?_
      simp only [h2, s2]
      exact congrArg some (dg_back ho.2)
  · rw [List.getElem?_eq_none (by rw [hex_len]; omega), List.getElem?_eq_none (by omega)]
theorem con8_t_ok {f : Nat → Int} {s : List UInt8} (hf : inB f = true) (hs : parseB s = true) : (con8_t f s).all id = true := by
  obtain ⟨p1, p2⟩ := hex_parse hf
  have e1 := E32_ok (f := pf s) (g := pf s) fun _ _ => rfl
  have e2 := E32_ok p2
  simp only [con8_t, List.all_append, List.all_cons, List.all_nil, id, inB_D hf, hexV_D, p1, hs, e1, e2, inB_D (pf_inB s), parse_hex hs, tr_ok, BEq.rfl, Bool.and_self]
theorem con8_f_ok {f : Nat → Int} {s : List UInt8} (hf : inB f = true) (hs : parseB s = false) : (con8_f f s).all id = true := by
  obtain ⟨p1, p2⟩ := hex_parse hf
  have e1 := E32_ok (f := pf s) (g := pf s) fun _ _ => rfl
  have e2 := E32_ok p2
  simp only [con8_f, List.all_append, List.all_cons, List.all_nil, id, inB_D hf, hexV_D, p1, hs, e1, e2, tr_ok, BEq.rfl, Bool.and_self]
end Go.Proofs.Ytiijphmpkmmpjaa
