/- Parse of both sides, as contracts. -/
import Derived.Test.YtiijphmpkmmpjaaShaTa
namespace Go.Proofs.Ytiijphmpkmmpjaa
open Go Go.Am
set_option maxRecDepth 100000
set_option linter.unusedVariables false
set_option linter.unusedSimpArgs false

theorem run37 (c : Int) : (runF Try.prog S0 (fun _ => []) 60 p37 [.int .u8 c] []).map (·.1) = some (.tup [.int .u8 (dv c), .bool (dok c)]) := by
  by_cases a1 : c ≥ 48 <;> by_cases a2 : c ≤ 57 <;> by_cases a3 : c ≥ 97 <;> by_cases a4 : c ≤ 102 <;>
  first
  | (rw [runV_ok Try.prog S0 (fun _ => none) noCV (noCV_ok _) (d37_1 c) ?_] <;> simp [dv, dok, a1, a2, a3, a4] <;> done)
  | (rw [runV_ok Try.prog S0 (fun _ => none) noCV (noCV_ok _) (d37_2 c) ?_] <;> simp [dv, dok, a1, a2, a3, a4] <;> done)
  | (rw [runV_ok Try.prog S0 (fun _ => none) noCV (noCV_ok _) (d37_3 c) ?_] <;> simp [dv, dok, a1, a2, a3, a4] <;> done)
  | (rw [runV_ok Try.prog S0 (fun _ => none) noCV (noCV_ok _) (d37_4 c) ?_] <;> simp [dv, dok, a1, a2, a3, a4] <;> done)
  | (rw [runV_ok Try.prog S0 (fun _ => none) noCV (noCV_ok _) (d37_5 c) ?_] <;> simp [dv, dok, a1, a2, a3, a4] <;> done)
  | (rw [runV_ok Try.prog S0 (fun _ => none) noCV (noCV_ok _) (d37_6 c) ?_] <;> simp [dv, dok, a1, a2, a3, a4] <;> done)
  | (rw [runV_ok Try.prog S0 (fun _ => none) noCV (noCV_ok _) (d37_7 c) ?_] <;> simp [dv, dok, a1, a2, a3, a4] <;> done)
theorem dig37_ok : QuietOK Try.prog 37 fun args _ => digS args := quiet_of_plain mixed S0_ok ht37 fun args v hv => by
  unfold digS at hv
  split at hv
  · rename_i c
    cases hv
    have h := run37 c
    simp only [Option.map_eq_some_iff] at h
    obtain ⟨⟨v1, h1⟩, h2, h3⟩ := h
    simp only at h3
    subst h3
    exact ⟨rfl, rfl, _, _, _, runF_sound S0_q c37 h2⟩
  · cases hv
theorem run38 (c : Int) : (runF Try.prog S0 (fun _ => []) 60 p38 [.int .u8 c] []).map (·.1) = some (.int .i64 (rdv c)) := by
  by_cases a1 : c ≥ 48 <;> by_cases a2 : c ≤ 57 <;> by_cases a3 : c ≥ 97 <;> by_cases a4 : c ≤ 102 <;>
  first
  | (rw [runV_ok Try.prog S0 (fun _ => none) noCV (noCV_ok _) (d38_1 c) ?_] <;> simp [rdv, a1, a2, a3, a4] <;> done)
  | (rw [runV_ok Try.prog S0 (fun _ => none) noCV (noCV_ok _) (d38_2 c) ?_] <;> simp [rdv, a1, a2, a3, a4] <;> done)
  | (rw [runV_ok Try.prog S0 (fun _ => none) noCV (noCV_ok _) (d38_3 c) ?_] <;> simp [rdv, a1, a2, a3, a4] <;> done)
  | (rw [runV_ok Try.prog S0 (fun _ => none) noCV (noCV_ok _) (d38_4 c) ?_] <;> simp [rdv, a1, a2, a3, a4] <;> done)
  | (rw [runV_ok Try.prog S0 (fun _ => none) noCV (noCV_ok _) (d38_5 c) ?_] <;> simp [rdv, a1, a2, a3, a4] <;> done)
  | (rw [runV_ok Try.prog S0 (fun _ => none) noCV (noCV_ok _) (d38_6 c) ?_] <;> simp [rdv, a1, a2, a3, a4] <;> done)
  | (rw [runV_ok Try.prog S0 (fun _ => none) noCV (noCV_ok _) (d38_7 c) ?_] <;> simp [rdv, a1, a2, a3, a4] <;> done)
theorem dig38_ok : QuietOK Try.prog 38 fun args _ => rdigS args := quiet_of_plain mixed S0_ok ht38 fun args v hv => by
  unfold rdigS at hv
  split at hv
  · rename_i c
    cases hv
    have h := run38 c
    simp only [Option.map_eq_some_iff] at h
    obtain ⟨⟨v1, h1⟩, h2, h3⟩ := h
    simp only at h3
    subst h3
    exact ⟨rfl, rfl, _, _, _, runF_sound S0_q c38 h2⟩
  · cases hv
theorem ST_ok : ST.OK Try.prog := mkS_ok quietText (fun g s _ h => by
  split at h
  · cases h; exact dig37_ok
  · cases h; exact dig38_ok
  · cases h) (fun _ _ h => by cases h)

/-- The byte at a place of a text. -/
def atS (s : List UInt8) (k : Nat) : Int := ((s.getD k 0).toNat : Nat)
def okj (s : List UInt8) (j : Nat) : Bool := dok (atS s (2 * j)) && dok (atS s (2 * j + 1))
def pv (s : List UInt8) (j : Nat) : Int := IntKind.u8.wrap (IntKind.u8.wrap (16 * dv (atS s (2 * j))) + dv (atS s (2 * j + 1)))
def pvR (s : List UInt8) (j : Nat) : Int := IntKind.u8.wrap (IntKind.i64.wrap (IntKind.i64.wrap (16 * rdv (atS s (2 * j))) + rdv (atS s (2 * j + 1))))
theorem wu8 (n : Int) : IntKind.u8.wrap n = n % 256 := by simp [IntKind.wrap, IntKind.bits, IntKind.signed]
theorem w1 {i : Nat} (h : i < 32) : IntKind.i64.wrap (2 * (i : Int)) = ((2 * i : Nat) : Int) := by rw [IntKind.wrap_i64]; omega
theorem w2 {i : Nat} (h : i < 32) : IntKind.i64.wrap (((2 * i : Nat) : Int) + 1) = ((2 * i + 1 : Nat) : Int) := by rw [IntKind.wrap_i64]; omega
theorem w3 {i : Nat} (h : i < 32) : IntKind.i64.wrap ((i : Int) + 1) = ((i + 1 : Nat) : Int) := by rw [IntKind.wrap_i64]; omega
theorem rdv_neg (c : Int) : decide (rdv c < 0) = !dok c := by
  unfold rdv dok
  by_cases a1 : c ≥ 48 <;> by_cases a2 : c ≤ 57 <;> by_cases a3 : c ≥ 97 <;> by_cases a4 : c ≤ 102 <;> simp [a1, a2, a3, a4] <;> (simp only [IntKind.wrap_i64, wu8]; omega)
def outG (g : Nat → Int) : Nat → List AV
  | 0 => z3 .u8 32
  | i + 1 => spliceA (outG g i) i [.int .u8 (g i)]
theorem outG_len (g : Nat → Int) : ∀ i, i ≤ 32 → (outG g i).length = 32
  | 0, _ => by simp [outG, z3, ints_length]
  | i + 1, h => by
    have := outG_len g i (by omega)
    simp only [outG]
    rw [splice_len _ _ _ (by simp; omega), this]
theorem outG_fin (g : Nat → Int) : outG g 32 = ints .u8 32 g := by kernel_rfl
def C23 (s : List UInt8) (i : Nat) (cs : List AV) : St := ([.str s, .any, .ptr (some (0, 0)), .bool false, .ptr (some (1, 0)), .any, .any, .any, .any, .any, .any, .any, .any, .any, .int .i64 i, .any, .any, .any, .any, .any, .any, .any, .any, .any, .any, .any, .any, .any, .any, .any, .any, .any, .any, .any, .any, .any, .any, .any, .any, .any, .any, .any, .any, .any, .any, .any, .any, .any, .any], [.row 30 32 (z3 .u8 32), .row 30 32 cs])
theorem s23_ok (s : List UInt8) (i : Nat) (cs : List AV) (hi : i < 32) (hs : s.length = 64) (hc : cs.length = 32) (h : okj s i = true) :
    ∃ st', evP Try.prog ST F23 60 (.inl p23_l0) (C23 s i cs) = some (.normal, st') ∧ forget (F23 5) st' = C23 s (i + 1) (spliceA cs i [.int .u8 (pv s i)]) := by
  have ho : dok (atS s (2 * i)) = true ∧ dok (atS s (2 * i + 1)) = true := by simpa [okj] using h
  obtain ⟨o1, o2⟩ := ho
  have e1 : (s.getD (2 * i) 0).toNat = (atS s (2 * i)) := rfl
  have e2 : (s.getD (2 * i + 1) 0).toNat = (atS s (2 * i + 1)) := rfl
  refine ⟨_, evV_ok _ _ _ _ (noCV_ok _) _ _ (l23_0 s i cs) ?_, ?_⟩
  · simp only [w1 hi, w2 hi, w3 hi, Int.toNat_natCast, e1, e2, o1, o2]
    simp [hs, hc]
    omega
  · simp only [w1 hi, w2 hi, w3 hi, Int.toNat_natCast, Nat.zero_add, Nat.mul_one, e1, e2]
    kernel_rfl
theorem s23_bad (s : List UInt8) (i : Nat) (cs : List AV) (hi : i < 32) (hs : s.length = 64) (h : okj s i = false) :
    ∃ st', evP Try.prog ST F23 60 (.inl p23_l0) (C23 s i cs) = some (.ret, st') ∧ ((p23.results.mapM (resultA Try.prog st')).map fun vs => match vs with | [v] => v | vs => .tup vs) = some (.tup [.agg (z3 .u8 32), .bool false]) := by
  have e1 : (s.getD (2 * i) 0).toNat = (atS s (2 * i)) := rfl
  have e2 : (s.getD (2 * i + 1) 0).toNat = (atS s (2 * i + 1)) := rfl
  cases o1 : dok (atS s (2 * i)) with
  | true =>
    have o2 : dok (atS s (2 * i + 1)) = false := by simpa [okj, o1] using h
    refine ⟨_, evV_ok _ _ _ _ (noCV_ok _) _ _ (l23_1 s i cs) ?_, ?_⟩
    · simp only [w1 hi, w2 hi, w3 hi, Int.toNat_natCast, e1, e2, o1, o2]
      simp [hs]
      omega
    · kernel_rfl
  | false =>
    refine ⟨_, evV_ok _ _ _ _ (noCV_ok _) _ _ (l23_2 s i cs) ?_, ?_⟩
    · simp only [w1 hi, w2 hi, w3 hi, Int.toNat_natCast, e1, e2, o1]
      simp [hs]
      omega
    · kernel_rfl
theorem L23_ok (s : List UInt8) (hs : s.length = 64) (h : ∀ j, j < 32 → okj s j = true) : ∀ k i, i + k = 32 → ∃ st', evP Try.prog ST F23 (61 + k) (.inl (.loop p23_l0)) (C23 s i (outG (pv s) i)) = some (.exit 0, st') ∧ st' = ([.str s, .any, .ptr (some (0, 0)), .bool false, .ptr (some (1, 0)), .any, .any, .any, .any, .any, .any, .any, .any, .any, .int .i64 ((32 : Nat) : Int), .bool false, .any, .any, .any, .any, .any, .any, .any, .any, .any, .any, .any, .any, .any, .any, .any, .any, .any, .any, .any, .any, .any, .any, .any, .any, .any, .any, .any, .any, .any, .any, .any, .any, .any], [.row 30 32 (z3 .u8 32), .row 30 32 (ints .u8 32 (pv s))])
  | 0, i, hi => by
    obtain rfl : i = 32 := by omega
    refine ⟨_, loop_stop (evV_ok _ _ _ _ (noCV_ok _) _ _ (l23_3 s 32 (outG (pv s) 32)) ?_) (fun h => by cases h), ?_⟩
    · simp
    · rw [outG_fin]; kernel_rfl
  | k + 1, i, hi => by
    obtain ⟨st1, a1, a2⟩ := s23_ok s i (outG (pv s) i) (by omega) hs (outG_len _ _ (by omega)) (h i (by omega))
    obtain ⟨st2, b1, b2⟩ := L23_ok s hs h k (i + 1) (by omega)
    have hf : forget (F23 5) (C23 s (i + 1) (spliceA (outG (pv s) i) i [.int .u8 (pv s i)])) = C23 s (i + 1) (spliceA (outG (pv s) i) i [.int .u8 (pv s i)]) := by kernel_rfl
    exact ⟨st2, loop_next (n := 61 + k) (id := 5) rfl (evP_le a1 (by omega)) (a2.trans hf.symm) b1, b2⟩
theorem L23_bad (s : List UInt8) (hs : s.length = 64) (m : Nat) (hm : m < 32) (h : ∀ j, j < m → okj s j = true) (hb : okj s m = false) : ∀ k i, i + k = m → ∃ st', evP Try.prog ST F23 (61 + k) (.inl (.loop p23_l0)) (C23 s i (outG (pv s) i)) = some (.ret, st') ∧ ((p23.results.mapM (resultA Try.prog st')).map fun vs => match vs with | [v] => v | vs => .tup vs) = some (.tup [.agg (z3 .u8 32), .bool false])
  | 0, i, hi => by
    obtain rfl : i = m := by omega
    obtain ⟨st1, a1, a2⟩ := s23_bad s i (outG (pv s) i) hm hs hb
    exact ⟨st1, loop_stop (evP_le a1 (by omega)) (fun h => by cases h), a2⟩
  | k + 1, i, hi => by
    obtain ⟨st1, a1, a2⟩ := s23_ok s i (outG (pv s) i) (by omega) hs (outG_len _ _ (by omega)) (h i (by omega))
    obtain ⟨st2, b1, b2⟩ := L23_bad s hs m hm h hb k (i + 1) (by omega)
    have hf : forget (F23 5) (C23 s (i + 1) (spliceA (outG (pv s) i) i [.int .u8 (pv s i)])) = C23 s (i + 1) (spliceA (outG (pv s) i) i [.int .u8 (pv s i)]) := by kernel_rfl
    exact ⟨st2, loop_next (n := 61 + k) (id := 5) rfl (evP_le a1 (by omega)) (a2.trans hf.symm) b1, b2⟩
def C24 (s : List UInt8) (i : Nat) (cs : List AV) : St := ([.str s, .any, .ptr (some (0, 0)), .bool false, .ptr (some (1, 0)), .int .i64 i, .any, .any, .any, .any, .any, .any, .any, .any, .any, .any, .any, .any, .any, .any, .any, .any, .any, .any, .any, .any, .any, .any, .any, .any, .any, .any, .any, .any, .any, .any, .any, .any, .any, .any, .any, .any], [.row 30 32 (z3 .u8 32), .row 30 32 cs])
theorem s24_ok (s : List UInt8) (i : Nat) (cs : List AV) (hi : i < 32) (hs : s.length = 64) (hc : cs.length = 32) (h : okj s i = true) :
    ∃ st', evP Try.prog ST F24 60 (.inl p24_l0) (C24 s i cs) = some (.normal, st') ∧ forget (F24 5) st' = C24 s (i + 1) (spliceA cs i [.int .u8 (pvR s i)]) := by
  have ho : dok (atS s (2 * i)) = true ∧ dok (atS s (2 * i + 1)) = true := by simpa [okj] using h
  obtain ⟨o1, o2⟩ := ho
  have e1 : (s.getD (2 * i) 0).toNat = (atS s (2 * i)) := rfl
  have e2 : (s.getD (2 * i + 1) 0).toNat = (atS s (2 * i + 1)) := rfl
  refine ⟨_, evV_ok _ _ _ _ (noCV_ok _) _ _ (l24_0 s i cs) ?_, ?_⟩
  · simp only [w1 hi, w2 hi, w3 hi, Int.toNat_natCast, e1, e2, o1, o2, rdv_neg]
    simp [hs, hc]
    omega
  · simp only [w1 hi, w2 hi, w3 hi, Int.toNat_natCast, Nat.zero_add, Nat.mul_one, e1, e2]
    kernel_rfl
theorem s24_bad (s : List UInt8) (i : Nat) (cs : List AV) (hi : i < 32) (hs : s.length = 64) (h : okj s i = false) :
    ∃ st', evP Try.prog ST F24 60 (.inl p24_l0) (C24 s i cs) = some (.ret, st') ∧ ((p24.results.mapM (resultA Try.prog st')).map fun vs => match vs with | [v] => v | vs => .tup vs) = some (.tup [.agg (z3 .u8 32), .bool false]) := by
  have e1 : (s.getD (2 * i) 0).toNat = (atS s (2 * i)) := rfl
  have e2 : (s.getD (2 * i + 1) 0).toNat = (atS s (2 * i + 1)) := rfl
  cases o1 : dok (atS s (2 * i)) with
  | true =>
    have o2 : dok (atS s (2 * i + 1)) = false := by simpa [okj, o1] using h
    refine ⟨_, evV_ok _ _ _ _ (noCV_ok _) _ _ (l24_1 s i cs) ?_, ?_⟩
    · simp only [w1 hi, w2 hi, w3 hi, Int.toNat_natCast, e1, e2, o1, o2, rdv_neg]
      simp [hs]
      omega
    · kernel_rfl
  | false =>
    refine ⟨_, evV_ok _ _ _ _ (noCV_ok _) _ _ (l24_2 s i cs) ?_, ?_⟩
    · simp only [w1 hi, w2 hi, w3 hi, Int.toNat_natCast, e1, e2, o1, rdv_neg]
      simp [hs]
      omega
    · kernel_rfl
theorem L24_ok (s : List UInt8) (hs : s.length = 64) (h : ∀ j, j < 32 → okj s j = true) : ∀ k i, i + k = 32 → ∃ st', evP Try.prog ST F24 (61 + k) (.inl (.loop p24_l0)) (C24 s i (outG (pvR s) i)) = some (.exit 0, st') ∧ st' = ([.str s, .any, .ptr (some (0, 0)), .bool false, .ptr (some (1, 0)), .int .i64 ((32 : Nat) : Int), .any, .any, .any, .any, .any, .any, .int .i64 ((32 : Nat) : Int), .bool false, .any, .any, .any, .any, .any, .any, .any, .any, .any, .any, .any, .any, .any, .any, .any, .any, .any, .any, .any, .any, .any, .any, .any, .any, .any, .any, .any, .any], [.row 30 32 (z3 .u8 32), .row 30 32 (ints .u8 32 (pvR s))])
  | 0, i, hi => by
    obtain rfl : i = 32 := by omega
    refine ⟨_, loop_stop (evV_ok _ _ _ _ (noCV_ok _) _ _ (l24_3 s 32 (outG (pvR s) 32)) ?_) (fun h => by cases h), ?_⟩
    · simp
    · rw [outG_fin]; kernel_rfl
  | k + 1, i, hi => by
    obtain ⟨st1, a1, a2⟩ := s24_ok s i (outG (pvR s) i) (by omega) hs (outG_len _ _ (by omega)) (h i (by omega))
    obtain ⟨st2, b1, b2⟩ := L24_ok s hs h k (i + 1) (by omega)
    have hf : forget (F24 5) (C24 s (i + 1) (spliceA (outG (pvR s) i) i [.int .u8 (pvR s i)])) = C24 s (i + 1) (spliceA (outG (pvR s) i) i [.int .u8 (pvR s i)]) := by kernel_rfl
    exact ⟨st2, loop_next (n := 61 + k) (id := 5) rfl (evP_le a1 (by omega)) (a2.trans hf.symm) b1, b2⟩
theorem L24_bad (s : List UInt8) (hs : s.length = 64) (m : Nat) (hm : m < 32) (h : ∀ j, j < m → okj s j = true) (hb : okj s m = false) : ∀ k i, i + k = m → ∃ st', evP Try.prog ST F24 (61 + k) (.inl (.loop p24_l0)) (C24 s i (outG (pvR s) i)) = some (.ret, st') ∧ ((p24.results.mapM (resultA Try.prog st')).map fun vs => match vs with | [v] => v | vs => .tup vs) = some (.tup [.agg (z3 .u8 32), .bool false])
  | 0, i, hi => by
    obtain rfl : i = m := by omega
    obtain ⟨st1, a1, a2⟩ := s24_bad s i (outG (pvR s) i) hm hs hb
    exact ⟨st1, loop_stop (evP_le a1 (by omega)) (fun h => by cases h), a2⟩
  | k + 1, i, hi => by
    obtain ⟨st1, a1, a2⟩ := s24_ok s i (outG (pvR s) i) (by omega) hs (outG_len _ _ (by omega)) (h i (by omega))
    obtain ⟨st2, b1, b2⟩ := L24_bad s hs m hm h hb k (i + 1) (by omega)
    have hf : forget (F24 5) (C24 s (i + 1) (spliceA (outG (pvR s) i) i [.int .u8 (pvR s i)])) = C24 s (i + 1) (spliceA (outG (pvR s) i) i [.int .u8 (pvR s i)]) := by kernel_rfl
    exact ⟨st2, loop_next (n := 61 + k) (id := 5) rfl (evP_le a1 (by omega)) (a2.trans hf.symm) b1, b2⟩
theorem first_bad (p : Nat → Bool) : ∀ n, (∀ j, j < n → p j = true) ∨ ∃ m, m < n ∧ (∀ j, j < m → p j = true) ∧ p m = false
  | 0 => .inl fun j hj => by omega
  | n + 1 => by
    rcases first_bad p n with ih | ⟨m, h1, h2, h3⟩
    · cases hq : p n with
      | true =>
        refine .inl fun j hj => ?_
        rcases Nat.lt_or_ge j n with q | q
        · exact ih j q
        · obtain rfl : j = n := by omega
          exact hq
      | false => exact .inr ⟨n, by omega, ih, hq⟩
    · exact .inr ⟨m, by omega, h2, h3⟩
def parseB (s : List UInt8) : Bool := s.length == 64 && (List.range 32).all (okj s)
def pf (s : List UInt8) (j : Nat) : Int := if parseB s then pv s j else 0
def parseV (s : List UInt8) : AV := .tup [.agg (ints .u8 32 (pf s)), .bool (parseB s)]
theorem parseV_bad {s : List UInt8} (h : parseB s = false) : parseV s = .tup [.agg (z3 .u8 32), .bool false] := by
  have : pf s = fun _ => 0 := funext fun j => by simp [pf, h]
  unfold parseV
  rw [this, h]
  rfl
theorem parseV_ok {s : List UInt8} (h : parseB s = true) : parseV s = .tup [.agg (ints .u8 32 (pv s)), .bool true] := by
  have : pf s = pv s := funext fun j => by simp [pf, h]
  unfold parseV
  rw [this, h]
def parseS : List AV → Option AV
  | [.str s] => some (parseV s)
  | _ => none
theorem dv_rdv {c : Int} (h : dok c = true) : rdv c = dv c ∧ 0 ≤ dv c ∧ dv c < 16 := by
  simp only [dok, Bool.or_eq_true, Bool.and_eq_true, decide_eq_true_eq] at h
  unfold rdv dv
  rcases h with h | h
  · rw [if_pos h, if_pos h]
    simp only [IntKind.wrap_i64, wu8]
    omega
  · have h1 : ¬ (c ≥ 48 ∧ c ≤ 57) := by omega
    rw [if_neg h1, if_neg h1, if_pos h, if_pos h]
    simp only [IntKind.wrap_i64, wu8]
    omega
theorem pvR_eq {s : List UInt8} (h : ∀ j, j < 32 → okj s j = true) : ints .u8 32 (pvR s) = ints .u8 32 (pv s) := by
  unfold ints
  refine List.map_congr_left fun j hj => ?_
  have ho := h j (List.mem_range.1 hj)
  simp only [okj, Bool.and_eq_true] at ho
  obtain ⟨a1, a2, a3⟩ := dv_rdv ho.1
  obtain ⟨b1, b2, b3⟩ := dv_rdv ho.2
  simp only [pvR, pv, a1, b1, IntKind.wrap_i64, wu8]
  congr 1
  omega
theorem parse23_run (s : List UInt8) : ∃ n h, runF Try.prog ST F23 n p23 [.str s] [] = some (parseV s, h) := by
  by_cases hs : s.length = 64
  · have hb : ∃ stB, evP Try.prog ST F23 60 (.inl (headTo p23.body)) ([.str s] ++ List.replicate (p23.ntmps - 1) .any, []) = some (.normal, stB) ∧ forget (F23 5) stB = forget (F23 5) (C23 s 0 (outG (pv s) 0)) :=
      ⟨_, evV_ok _ _ _ _ (noCV_ok _) _ _ (b23 s) (by simp [hs]), by kernel_rfl⟩
    obtain ⟨stB, hb1, hb2⟩ := hb
    by_cases hj : ∀ j, j < 32 → okj s j = true
    · have hB : parseB s = true := by simp [parseB, hs, List.all_eq_true]; exact hj
      obtain ⟨st2, c1, c2⟩ := L23_ok s hs hj 32 0 rfl
      subst c2
      have hl := (ev_forget (P := Try.prog) (S := ST) (61 + 32) (pc := .loop p23_l0) rfl hb2).trans c1
      have ht := evV_ok _ _ _ _ (noCV_ok _) _ _ (t23 s 32 (pv s)) (by simp [ints_length, z3])
      obtain ⟨k, hk⟩ := headTo_run p23.body hb1 (seq_run (n := 200) (evP_le (block_stop hl) (by omega)) (evP_le ht (by omega)))
      refine ⟨k, _, runF_ret (v := parseV s) hk ?_⟩
      rw [parseV_ok hB]
      kernel_rfl
    · have hm : ∃ m, m < 32 ∧ (∀ j, j < m → okj s j = true) ∧ okj s m = false := by
        rcases first_bad (okj s) 32 with q | q
        · exact absurd q hj
        · exact q
      obtain ⟨m, m1, m2, m3⟩ := hm
      have hB : parseB s = false := by
        simp only [parseB, Bool.and_eq_false_iff]
        refine .inr ?_
        rw [List.all_eq_false]
        exact ⟨m, List.mem_range.2 m1, by simp [m3]⟩
      obtain ⟨st2, c1, c2⟩ := L23_bad s hs m m1 m2 m3 m 0 (by omega)
      have hl := (ev_forget (P := Try.prog) (S := ST) (61 + m) (pc := .loop p23_l0) rfl hb2).trans c1
      obtain ⟨k, hk⟩ := headTo_run p23.body hb1 (seq_pass (n := 200) (evP_le (block_pass hl) (by omega)))
      refine ⟨k, _, runF_ret (v := parseV s) hk ?_⟩
      rw [parseV_bad hB]
      exact c2
  · have hB : parseB s = false := by simp [parseB, hs]
    have he := runV_ok _ _ _ _ (noCV_ok _) (e23 s) (by simp; omega)
    rw [parseV_bad hB]
    exact ⟨60, _, he⟩
theorem parse23_ok : QuietOK Try.prog 23 fun args _ => parseS args := quiet_of_plain mixed ST_ok ht23 fun args v hv => by
  unfold parseS at hv
  split at hv
  · rename_i s
    cases hv
    obtain ⟨n, h, hr⟩ := parse23_run s
    exact ⟨rfl, by kernel_rfl, _, _, _, runF_sound ST_q c23 hr⟩
  · cases hv
theorem parse24_run (s : List UInt8) : ∃ n h, runF Try.prog ST F24 n p24 [.str s] [] = some (parseV s, h) := by
  by_cases hs : s.length = 64
  · have hb : ∃ stB, evP Try.prog ST F24 60 (.inl (headTo p24.body)) ([.str s] ++ List.replicate (p24.ntmps - 1) .any, []) = some (.normal, stB) ∧ forget (F24 5) stB = forget (F24 5) (C24 s 0 (outG (pvR s) 0)) :=
      ⟨_, evV_ok _ _ _ _ (noCV_ok _) _ _ (b24 s) (by simp [hs]), by kernel_rfl⟩
    obtain ⟨stB, hb1, hb2⟩ := hb
    by_cases hj : ∀ j, j < 32 → okj s j = true
    · have hB : parseB s = true := by simp [parseB, hs, List.all_eq_true]; exact hj
      obtain ⟨st2, c1, c2⟩ := L24_ok s hs hj 32 0 rfl
      subst c2
      have hl := (ev_forget (P := Try.prog) (S := ST) (61 + 32) (pc := .loop p24_l0) rfl hb2).trans c1
      have ht := evV_ok _ _ _ _ (noCV_ok _) _ _ (t24 s 32 (pvR s)) (by simp [ints_length, z3])
      obtain ⟨k, hk⟩ := headTo_run p24.body hb1 (seq_run (n := 200) (evP_le (block_stop hl) (by omega)) (evP_le ht (by omega)))
      refine ⟨k, _, runF_ret (v := parseV s) hk ?_⟩
      rw [parseV_ok hB]
      rw [← pvR_eq hj]; kernel_rfl
    · have hm : ∃ m, m < 32 ∧ (∀ j, j < m → okj s j = true) ∧ okj s m = false := by
        rcases first_bad (okj s) 32 with q | q
        · exact absurd q hj
        · exact q
      obtain ⟨m, m1, m2, m3⟩ := hm
      have hB : parseB s = false := by
        simp only [parseB, Bool.and_eq_false_iff]
        refine .inr ?_
        rw [List.all_eq_false]
        exact ⟨m, List.mem_range.2 m1, by simp [m3]⟩
      obtain ⟨st2, c1, c2⟩ := L24_bad s hs m m1 m2 m3 m 0 (by omega)
      have hl := (ev_forget (P := Try.prog) (S := ST) (61 + m) (pc := .loop p24_l0) rfl hb2).trans c1
      obtain ⟨k, hk⟩ := headTo_run p24.body hb1 (seq_pass (n := 200) (evP_le (block_pass hl) (by omega)))
      refine ⟨k, _, runF_ret (v := parseV s) hk ?_⟩
      rw [parseV_bad hB]
      exact c2
  · have hB : parseB s = false := by simp [parseB, hs]
    have he := runV_ok _ _ _ _ (noCV_ok _) (e24 s) (by simp; omega)
    rw [parseV_bad hB]
    exact ⟨60, _, he⟩
theorem parse24_ok : QuietOK Try.prog 24 fun args _ => parseS args := quiet_of_plain mixed ST_ok ht24 fun args v hv => by
  unfold parseS at hv
  split at hv
  · rename_i s
    cases hv
    obtain ⟨n, h, hr⟩ := parse24_run s
    exact ⟨rfl, by kernel_rfl, _, _, _, runF_sound ST_q c24 hr⟩
  · cases hv
end Go.Proofs.Ytiijphmpkmmpjaa
