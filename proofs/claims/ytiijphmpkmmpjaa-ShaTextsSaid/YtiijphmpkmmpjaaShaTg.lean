/- The law ShaTexts as a run. -/
import Derived.Test.YtiijphmpkmmpjaaShaTf
namespace Go.Proofs.Ytiijphmpkmmpjaa
open Go Go.Am
set_option maxRecDepth 100000
set_option linter.unusedVariables false
set_option linter.unusedSimpArgs false

theorem splice_all {p : AV → Prop} {cs vs : List AV} {o : Nat} (h1 : ∀ v ∈ cs, p v) (h2 : ∀ v ∈ vs, p v) : ∀ v ∈ spliceA cs o vs, p v := fun v hv => by
  unfold spliceA at hv
  rcases List.mem_append.1 hv with hv | hv
  · rcases List.mem_append.1 hv with hv | hv
    · exact h1 v (List.mem_of_mem_take hv)
    · exact h2 v hv
  · exact h1 v (List.mem_of_mem_drop hv)
def isByte (v : AV) : Prop := ∃ n : Int, v = .int .u8 n ∧ 0 ≤ n ∧ n < 256
theorem texts_run (x : AObj) (q0 : Option (Nat × Nat)) (l0 : Nat) (c0 : ACap) (src0 : Nat × List AV) (s : List UInt8)
    (h0 : sourceA [x, .row 30 32 (z3 .u8 32)] 1 (.sl q0 l0 c0) = some src0) (i0 : ∀ v ∈ src0.2, isByte v) (n0 : src0.2.length = src0.1) :
    ∃ n h, runF Try.prog SX8 F8 n p8 [.sl q0 l0 c0, .str s] [x] = some (.bool true, h) := by
  obtain ⟨cs0, hc0⟩ : ∃ cs0, cs0 = spliceA (z3 .u8 32) 0 (src0.2.take (min src0.1 32 * 1)) := ⟨_, rfl⟩
  have hb : ∀ v ∈ cs0, isByte v := by
    rw [hc0]
    refine splice_all (fun v hv => ?_) (fun v hv => i0 v (List.mem_of_mem_take hv))
    simp only [z3, ints, List.mem_map] at hv
    obtain ⟨i, _, rfl⟩ := hv
    exact ⟨0, rfl, by omega, by omega⟩
  have i1 : src0.2.all (isInt .u8) = true := by
    rw [List.all_eq_true]
    intro v hv
    obtain ⟨n, rfl, -⟩ := i0 v hv
    simp [isInt]
  have o1 : src0.2.all AV.one = true := by
    rw [List.all_eq_true]
    intro v hv
    obtain ⟨n, rfl, -⟩ := i0 v hv
    rfl
  have hi0 : isInts .u8 32 cs0 = true := by
    rw [hc0]
    refine splice_ints (ints_isInts _ _ _) ?_ (by simp; omega)
    rw [List.all_eq_true] at i1 ⊢
    exact fun v hv => i1 v (List.mem_of_mem_take hv)
  have e0 := ints_dec hi0
  have hl : cs0.length = 32 := by simp only [isInts, Bool.and_eq_true, beq_iff_eq] at hi0; exact hi0.1
  have hf : inB (dec cs0) = true := by
    unfold inB
    rw [List.all_eq_true]
    intro i hi
    have hlt : i < cs0.length := by rw [hl]; exact List.mem_range.1 hi
    obtain ⟨n, h1, h2, h3⟩ := hb cs0[i] (List.getElem_mem hlt)
    have : dec cs0 i = n := by
      unfold dec
      rw [List.getElem?_eq_getElem hlt, h1]
    rw [this]
    simp [h2, h3]
  generalize dec cs0 = f at e0 hf
  obtain ⟨m0, hm0⟩ : ∃ m0 : AV, m0 = .int .i64 ((min src0.1 32 : Nat) : Int) := ⟨_, rfl⟩
  have c2 : evP Try.prog SX8 F8 90 (.inl (sub p8.body 2)) ([.sl q0 l0 c0, .str s, .any, .any, .bool false, .ptr (some (1, 0)), .any, .any, .any, .any, .any, .any, .any, .any, .any, .any, .any, .any, .any, .any, .any, .any, .any, .any, .any, .any, .any, .any, .any, .any, .any, .any, .any, .any, .any, .any, .any, .any, .any, .any, .any, .any, .any, .any, .any, .any, .any, .any, .any, .any, .any, .any, .any, .any, .any, .any, .any, .any, .any, .any, .any, .any, .any, .any, .any, .any, .any], [x, .row 30 32 (z3 .u8 32)]) = some (.normal, ([.sl q0 l0 c0, .str s, .any, .any, .bool false, .ptr (some (1, 0)), .any, .any, .any, .any, .any, .any, .sl (some (1, 0)) 32 (.fix 32), .sl q0 l0 c0, .int .i64 ((min src0.1 32 : Nat) : Int), .any, .any, .any, .any, .any, .any, .any, .any, .any, .any, .any, .any, .any, .any, .any, .any, .any, .any, .any, .any, .any, .any, .any, .any, .any, .any, .any, .any, .any, .any, .any, .any, .any, .any, .any, .any, .any, .any, .any, .any, .any, .any, .any, .any, .any, .any, .any, .any, .any, .any, .any, .any], [x, .row 30 32 (ints .u8 32 f)])) := by
    refine region_run (n := 89) (ops_cons (st1 := ([.sl q0 l0 c0, .str s, .any, .any, .bool false, .ptr (some (1, 0)), .any, .any, .any, .any, .any, .any, .sl (some (1, 0)) 32 (.fix 32), .any, .any, .any, .any, .any, .any, .any, .any, .any, .any, .any, .any, .any, .any, .any, .any, .any, .any, .any, .any, .any, .any, .any, .any, .any, .any, .any, .any, .any, .any, .any, .any, .any, .any, .any, .any, .any, .any, .any, .any, .any, .any, .any, .any, .any, .any, .any, .any, .any, .any, .any, .any, .any, .any], [x, .row 30 32 (z3 .u8 32)])) (by kernel_rfl) (ops_cons (st1 := ([.sl q0 l0 c0, .str s, .any, .any, .bool false, .ptr (some (1, 0)), .any, .any, .any, .any, .any, .any, .sl (some (1, 0)) 32 (.fix 32), .sl q0 l0 c0, .any, .any, .any, .any, .any, .any, .any, .any, .any, .any, .any, .any, .any, .any, .any, .any, .any, .any, .any, .any, .any, .any, .any, .any, .any, .any, .any, .any, .any, .any, .any, .any, .any, .any, .any, .any, .any, .any, .any, .any, .any, .any, .any, .any, .any, .any, .any, .any, .any, .any, .any, .any, .any], [x, .row 30 32 (z3 .u8 32)])) (by kernel_rfl) (ops_cons (step_copy (k := 1) (o := 0) (n := 32) (c := .fix 32) (t := 30) (sz := 32) (cs := z3 .u8 32) (v := .sl q0 l0 c0) (src := src0) rfl rfl h0 rfl o1 (by simp [z3, ints_length]; omega)) ?_)))
    rw [← hc0, e0]
    rfl
  have r3 : ∃ st', evP Try.prog SX8 F8 60 (.inl (rest8 p8.body 3)) ([.sl q0 l0 c0, .str s, .any, .any, .bool false, .ptr (some (1, 0)), .any, .any, .any, .any, .any, .any, .sl (some (1, 0)) 32 (.fix 32), .sl q0 l0 c0, .int .i64 ((min src0.1 32 : Nat) : Int), .any, .any, .any, .any, .any, .any, .any, .any, .any, .any, .any, .any, .any, .any, .any, .any, .any, .any, .any, .any, .any, .any, .any, .any, .any, .any, .any, .any, .any, .any, .any, .any, .any, .any, .any, .any, .any, .any, .any, .any, .any, .any, .any, .any, .any, .any, .any, .any, .any, .any, .any, .any], [x, .row 30 32 (ints .u8 32 f)]) = some (.ret, st') ∧ st'.1[4]? = some (.bool true) := by
    cases hs : parseB s with
    | true =>
      have h := law8_t x (.sl q0 l0 c0) (.sl q0 l0 c0) (.int .i64 ((min src0.1 32 : Nat) : Int)) f s
      simp only [Option.map_eq_some_iff] at h
      obtain ⟨⟨⟨ex, st'⟩, hs', cl⟩, h1, h2⟩ := h
      simp only [Prod.mk.injEq] at h2
      obtain ⟨rfl, h3, rfl⟩ := h2
      exact ⟨st', evV_ok _ _ _ _ cv8_ok _ _ h1 (con8_t_ok hf hs), h3⟩
    | false =>
      have h := law8_f x (.sl q0 l0 c0) (.sl q0 l0 c0) (.int .i64 ((min src0.1 32 : Nat) : Int)) f s
      simp only [Option.map_eq_some_iff] at h
      obtain ⟨⟨⟨ex, st'⟩, hs', cl⟩, h1, h2⟩ := h
      simp only [Prod.mk.injEq] at h2
      obtain ⟨rfl, h3, rfl⟩ := h2
      exact ⟨st', evV_ok _ _ _ _ cv8_ok _ _ h1 (con8_f_ok hf hs), h3⟩
  obtain ⟨st', r4, r5⟩ := r3
  have fin : evP Try.prog SX8 F8 100 (.inl p8.body) ([.sl q0 l0 c0, .str s] ++ List.replicate (p8.ntmps - [AV.sl q0 l0 c0, .str s].length) .any, [x]) = some (.ret, st') := by
    refine seq_run (st1 := ([.sl q0 l0 c0, .str s, .any, .any, .bool false, .any, .any, .any, .any, .any, .any, .any, .any, .any, .any, .any, .any, .any, .any, .any, .any, .any, .any, .any, .any, .any, .any, .any, .any, .any, .any, .any, .any, .any, .any, .any, .any, .any, .any, .any, .any, .any, .any, .any, .any, .any, .any, .any, .any, .any, .any, .any, .any, .any, .any, .any, .any, .any, .any, .any, .any, .any, .any, .any, .any, .any, .any], [x])) (by kernel_rfl) ?_
    refine seq_run (st1 := ([.sl q0 l0 c0, .str s, .any, .any, .bool false, .ptr (some (1, 0)), .any, .any, .any, .any, .any, .any, .any, .any, .any, .any, .any, .any, .any, .any, .any, .any, .any, .any, .any, .any, .any, .any, .any, .any, .any, .any, .any, .any, .any, .any, .any, .any, .any, .any, .any, .any, .any, .any, .any, .any, .any, .any, .any, .any, .any, .any, .any, .any, .any, .any, .any, .any, .any, .any, .any, .any, .any, .any, .any, .any, .any], [x, .row 30 32 (z3 .u8 32)])) (by kernel_rfl) ?_
    refine seq_run (evP_le c2 (by omega)) ?_
    exact evP_le r4 (by omega)
  refine ⟨_, _, runF_ret fin (v := .bool true) ?_⟩
  have : resultA Try.prog st' (.tmp 4) = some (.bool true) := by
    show (match st'.1[4]? with | some .any => none | some v => some v | none => none) = _
    rw [r5]
  show ((List.mapM (resultA Try.prog st') [.tmp 4]).map _) = _
  simp only [List.mapM_cons, List.mapM_nil, this]
  rfl
end Go.Proofs.Ytiijphmpkmmpjaa
