/- The document's Unquote: its loop and contract. -/
import Derived.Test.YtahdfjmdoljgiaaDoorLxH
namespace Go.Proofs.YtahdfjmdoljgiaaDoor
open Go Go.Am
set_option maxRecDepth 100000
set_option linter.unusedVariables false
set_option linter.unusedSimpArgs false

theorem eq92 (c : UInt8) : (((c.toNat : Nat) : Int) == 92) = (c == 92) := by
  have h := ne92 c
  rw [bne, bne] at h
  exact Bool.not_inj h
theorem byteX (a b : UInt8) : IntKind.wrap .u8 (IntKind.wrap .u8 (16 * ((a.toNat : Nat) : Int)) + ((b.toNat : Nat) : Int)) = ((16 * a + b).toNat : Int) := by
  have ha := a.toNat_lt
  have hb := b.toNat_lt
  rw [IntKind.wrap_u8, IntKind.wrap_u8, UInt8.toNat_add, UInt8.toNat_mul]
  have : (16 : UInt8).toNat = 16 := rfl
  rw [this]
  omega
def g13 (s : List UInt8) (p : Nat × Nat × List UInt8) : St := if p.2.2.isEmpty then n13 s p.2.1 else h13 s p.2.1 p.2.2
def x13s (s acc : List UInt8) : St := if acc.isEmpty then xn13 s else xh13 s acc
theorem g13_app (s : List UInt8) (f : Nat) (i : Nat) (acc : List UInt8) (c : UInt8) : g13 s (f, i, acc ++ [c]) = (envOf 74 [(0, .str s), (2, .str []), (3, .bool false), (4, .sl (some (0, 0)) (acc.length + 1) (.rel 0)), (5, .int .i64 i)], [.row 5 1 (bv acc ++ [.int .u8 c.toNat])]) := by
  unfold g13
  have he : (acc ++ [c]).isEmpty = false := by cases acc <;> rfl
  simp only [he, Bool.false_eq_true, if_false]
  unfold h13
  rw [bv_app, List.length_append]
  rfl
theorem loop13 (s : List UInt8) (hn : s.length ≤ 1099511627776) : ∀ p : Nat × Nat × List UInt8, (1 ≤ p.2.1 ∧ s.length + 2 ≤ p.1 + p.2.1 ∧ 1 ≤ p.1 ∧ p.2.2.length ≤ p.2.1) →
    W Tryd.prog (tbS Q tb13) 0 (.inl (.loop p13_l0)) (g13 s p) (fun e st => e = .exit 0 ∧ st = x13s s (refFrom s p.1 p.2.1 p.2.2)) := by
  have hcw : CwOK (tbS Q tb13) (tbW Q tb13) := tbW_ok rfl
  refine W_roundsG (P := Tryd.prog) (g13 s) (fun p => 1 ≤ p.2.1 ∧ s.length + 2 ≤ p.1 + p.2.1 ∧ 1 ≤ p.1 ∧ p.2.2.length ≤ p.2.1) (fun p => p.1) (fun p e st => e = .exit 0 ∧ st = x13s s (refFrom s p.1 p.2.1 p.2.2)) ?_
  rintro ⟨f, i, acc⟩ ⟨h1, h2, h3, h4⟩
  simp only at h1 h2 h3 h4
  obtain ⟨f, rfl⟩ : ∃ g, f = g + 1 := ⟨f - 1, by omega⟩
  have hstop : ¬ (i + 1 < s.length) → refFrom s (f + 1) i acc = acc := fun h => by rw [refFrom, if_neg h]
  have go : ∀ (j : Nat) (c : UInt8), i < j → i + 1 < s.length → refFrom s (f + 1) i acc = refFrom s f j (acc ++ [c]) → ∀ (n' : Nat) (cs : List AV), n' = acc.length + 1 → cs = bv acc ++ [.int .u8 c.toNat] →
      ∃ s', ((envOf 74 [(0, .str s), (2, .str []), (3, .bool false), (4, .sl (some (0, 0)) n' (.rel 0)), (5, .int .i64 (j : Int))], [.row 5 1 cs]) : St) = g13 s s' ∧ (1 ≤ s'.2.1 ∧ s.length + 2 ≤ s'.1 + s'.2.1 ∧ 1 ≤ s'.1 ∧ s'.2.2.length ≤ s'.2.1) ∧ s'.1 < f + 1 ∧ ∀ e st, (e = AExit.exit 0 ∧ st = x13s s (refFrom s s'.1 s'.2.1 s'.2.2)) → (e = AExit.exit 0 ∧ st = x13s s (refFrom s (f + 1) i acc)) := by
    rintro j c hj hlt hu n' cs rfl rfl
    refine ⟨(f, j, acc ++ [c]), by rw [g13_app], ⟨by show 1 ≤ j; omega, by show s.length + 2 ≤ f + j; omega, by show 1 ≤ f; omega, by show (acc ++ [c]).length ≤ j; rw [List.length_append]; simp only [List.length_cons, List.length_nil]; omega⟩, by show f < f + 1; omega, fun e st h => by rw [hu]; exact h⟩
  have w1 : i + 1 < s.length → IntKind.wrap .i64 ((i : Int) + 1) = ((i + 1 : Nat) : Int) := fun _ => by rw [IntKind.wrap_i64]; omega
  have w2 : i + 1 < s.length → IntKind.wrap .i64 ((i : Int) + 2) = ((i + 2 : Nat) : Int) := fun _ => by rw [IntKind.wrap_i64]; omega
  have w3 : i + 1 < s.length → IntKind.wrap .i64 ((i : Int) + 3) = ((i + 3 : Nat) : Int) := fun _ => by rw [IntKind.wrap_i64]; omega
  have w4 : i + 1 < s.length → IntKind.wrap .i64 (((i + 3 : Nat) : Int) + 1) = ((i + 4 : Nat) : Int) := fun _ => by rw [IntKind.wrap_i64]; omega
  have w5 : i + 1 < s.length → IntKind.wrap .i64 (((i + 1 : Nat) : Int) + 1) = ((i + 2 : Nat) : Int) := fun _ => by rw [IntKind.wrap_i64]; omega
  have wl : IntKind.wrap .i64 ((s.length : Int) - 1) = (s.length : Int) - 1 := by rw [IntKind.wrap_i64]; omega
  by_cases hE : acc.isEmpty = true
  · obtain rfl := List.isEmpty_iff.1 hE
    refine W_wpX (C := C13l) hcw (by intro x hx; cases hx) (n := 40) (tn := t13) (tx := x13) (tr := x13) ((v13bn s i _).mp ?_)
    by_cases hlt : i + 1 < s.length
    · simp only [w1 hlt, w2 hlt, w3 hlt, w4 hlt, w5 hlt, wl, Int.toNat_natCast, eq92, ne120]
      refine askT (decide_eq_true (by omega)) (chkI (decide_eq_true (by omega)) (chkI (decide_eq_true (by omega)) ?_))
      refine askI (fun f1 => ?_) fun f1 => ?_
      · refine askI (fun f2 => ?_) fun f2 => ?_
        · simp only [decide_eq_true_eq] at f2
          refine chkI (decide_eq_true (by omega)) (chkI (decide_eq_true (by omega)) (askI (fun f3 => ?_) fun f3 => ?_))
          · refine chkI (decide_eq_true (by omega)) (chkI (decide_eq_true (by omega)) ?_)
            exact go (i + 2) (s.getD (i + 1) 0) (by omega) hlt (by rw [refFrom, if_pos hlt, if_pos (by rw [f1, f3, decide_eq_true (show i + 2 < s.length by omega)]; rfl)]) 1 _ rfl rfl
          · have hno : (s.getD i 0 == 92 && decide (i + 2 < s.length) && s.getD (i + 1) 0 != 120) = false := by rw [f3, Bool.and_false]
            refine askI (fun g1 => ?_) fun g1 => ?_
            · refine askI (fun g2 => ?_) fun g2 => ?_
              · simp only [decide_eq_true_eq] at g2
                refine chkI (decide_eq_true (by omega)) (chkI (decide_eq_true (by omega)) ⟨_, sHex_at _, chkI (decide_eq_true (by omega)) (chkI (decide_eq_true (by omega)) ⟨_, sHex_at _, ?_⟩)⟩)
                rw [byteX]
                exact go (i + 4) (16 * hexv (s.getD (i + 2) 0) + hexv (s.getD (i + 3) 0)) (by omega) hlt (by rw [refFrom, if_pos hlt, if_neg (by rw [hno]; decide), if_pos (by simp only [g1, Bool.true_and]; exact decide_eq_true (by omega))]) 1 _ rfl rfl
              · simp only [decide_eq_false_iff_not] at g2
                exact go (i + 1) (s.getD i 0) (by omega) hlt (by rw [refFrom, if_pos hlt, if_neg (by rw [hno]; decide), if_neg (by rw [decide_eq_false (show ¬ (i + 4 < s.length) by omega), Bool.and_false]; decide)]) 1 _ rfl rfl
            · exact go (i + 1) (s.getD i 0) (by omega) hlt (by rw [refFrom, if_pos hlt, if_neg (by rw [hno]; decide), if_neg (by rw [g1, Bool.false_and]; decide)]) 1 _ rfl rfl
        · simp only [decide_eq_false_iff_not] at f2
          have hno : (s.getD i 0 == 92 && decide (i + 2 < s.length) && s.getD (i + 1) 0 != 120) = false := by rw [decide_eq_false (show ¬ (i + 2 < s.length) by omega), Bool.and_false, Bool.false_and]
          refine askI (fun g1 => ?_) fun g1 => ?_
          · refine askI (fun g2 => ?_) fun g2 => ?_
            · simp only [decide_eq_true_eq] at g2
              refine chkI (decide_eq_true (by omega)) (chkI (decide_eq_true (by omega)) ⟨_, sHex_at _, chkI (decide_eq_true (by omega)) (chkI (decide_eq_true (by omega)) ⟨_, sHex_at _, ?_⟩)⟩)
              rw [byteX]
              exact go (i + 4) (16 * hexv (s.getD (i + 2) 0) + hexv (s.getD (i + 3) 0)) (by omega) hlt (by rw [refFrom, if_pos hlt, if_neg (by rw [hno]; decide), if_pos (by simp only [g1, Bool.true_and]; exact decide_eq_true (by omega))]) 1 _ rfl rfl
            · simp only [decide_eq_false_iff_not] at g2
              exact go (i + 1) (s.getD i 0) (by omega) hlt (by rw [refFrom, if_pos hlt, if_neg (by rw [hno]; decide), if_neg (by rw [decide_eq_false (show ¬ (i + 4 < s.length) by omega), Bool.and_false]; decide)]) 1 _ rfl rfl
          · exact go (i + 1) (s.getD i 0) (by omega) hlt (by rw [refFrom, if_pos hlt, if_neg (by rw [hno]; decide), if_neg (by rw [g1, Bool.false_and]; decide)]) 1 _ rfl rfl
      · have hno : (s.getD i 0 == 92 && decide (i + 2 < s.length) && s.getD (i + 1) 0 != 120) = false := by rw [f1, Bool.false_and, Bool.false_and]
        refine askI (fun g1 => ?_) fun g1 => ?_
        · refine askI (fun g2 => ?_) fun g2 => ?_
          · simp only [decide_eq_true_eq] at g2
            refine chkI (decide_eq_true (by omega)) (chkI (decide_eq_true (by omega)) ⟨_, sHex_at _, chkI (decide_eq_true (by omega)) (chkI (decide_eq_true (by omega)) ⟨_, sHex_at _, ?_⟩)⟩)
            rw [byteX]
            exact go (i + 4) (16 * hexv (s.getD (i + 2) 0) + hexv (s.getD (i + 3) 0)) (by omega) hlt (by rw [refFrom, if_pos hlt, if_neg (by rw [hno]; decide), if_pos (by simp only [g1, Bool.true_and]; exact decide_eq_true (by omega))]) 1 _ rfl rfl
          · simp only [decide_eq_false_iff_not] at g2
            exact go (i + 1) (s.getD i 0) (by omega) hlt (by rw [refFrom, if_pos hlt, if_neg (by rw [hno]; decide), if_neg (by rw [decide_eq_false (show ¬ (i + 4 < s.length) by omega), Bool.and_false]; decide)]) 1 _ rfl rfl
        · exact go (i + 1) (s.getD i 0) (by omega) hlt (by rw [refFrom, if_pos hlt, if_neg (by rw [hno]; decide), if_neg (by rw [g1, Bool.false_and]; decide)]) 1 _ rfl rfl
    · refine askF (by rw [wl]; exact decide_eq_false (by omega)) ?_
      skip
      refine ⟨rfl, ?_⟩
      rw [hstop hlt]
      skip
      rfl
  · have hE : acc.isEmpty = false := by simpa using hE
    have hg : g13 s (f + 1, i, acc) = h13 s i acc := by unfold g13; simp only [hE, Bool.false_eq_true, if_false]
    rw [hg]
    refine W_wpX (C := C13m) hcw (by intro x hx; cases hx) (n := 40) (tn := t13) (tx := x13) (tr := x13) ((v13b s i acc _).mp ?_)
    by_cases hlt : i + 1 < s.length
    · simp only [w1 hlt, w2 hlt, w3 hlt, w4 hlt, w5 hlt, wl, Int.toNat_natCast, eq92, ne120]
      refine askT (decide_eq_true (by omega)) (chkI (decide_eq_true (by omega)) (chkI (decide_eq_true (by omega)) ?_))
      refine askI (fun f1 => ?_) fun f1 => ?_
      · refine askI (fun f2 => ?_) fun f2 => ?_
        · simp only [decide_eq_true_eq] at f2
          refine chkI (decide_eq_true (by omega)) (chkI (decide_eq_true (by omega)) (askI (fun f3 => ?_) fun f3 => ?_))
          · refine chkI (decide_eq_true (by omega)) (chkI (decide_eq_true (by omega)) ?_)
            exact ⟨5, 1, _, rfl, chkI rfl (chkI rfl (chkI (by rw [bv_len]; simp) (chkI (decide_eq_true (by omega)) (chkI (decide_eq_true (by omega)) (chkI (by show AV.refsL _ _ _ = true; rw [refsL_eq, List.all_append, ← refsL_eq, bv_closed]; rfl) (go (i + 2) (s.getD (i + 1) 0) (by omega) hlt (by rw [refFrom, if_pos hlt, if_pos (by rw [f1, f3, decide_eq_true (show i + 2 < s.length by omega)]; rfl)]) _ _ rfl rfl))))))⟩
          · have hno : (s.getD i 0 == 92 && decide (i + 2 < s.length) && s.getD (i + 1) 0 != 120) = false := by rw [f3, Bool.and_false]
            refine askI (fun g1 => ?_) fun g1 => ?_
            · refine askI (fun g2 => ?_) fun g2 => ?_
              · simp only [decide_eq_true_eq] at g2
                refine chkI (decide_eq_true (by omega)) (chkI (decide_eq_true (by omega)) ⟨_, sHex_at _, chkI (decide_eq_true (by omega)) (chkI (decide_eq_true (by omega)) ⟨_, sHex_at _, ?_⟩)⟩)
                rw [byteX]
                exact ⟨5, 1, _, rfl, chkI rfl (chkI rfl (chkI (by rw [bv_len]; simp) (chkI (decide_eq_true (by omega)) (chkI (decide_eq_true (by omega)) (chkI (by show AV.refsL _ _ _ = true; rw [refsL_eq, List.all_append, ← refsL_eq, bv_closed]; rfl) (go (i + 4) (16 * hexv (s.getD (i + 2) 0) + hexv (s.getD (i + 3) 0)) (by omega) hlt (by rw [refFrom, if_pos hlt, if_neg (by rw [hno]; decide), if_pos (by simp only [g1, Bool.true_and]; exact decide_eq_true (by omega))]) _ _ rfl rfl))))))⟩
              · simp only [decide_eq_false_iff_not] at g2
                exact ⟨5, 1, _, rfl, chkI rfl (chkI rfl (chkI (by rw [bv_len]; simp) (chkI (decide_eq_true (by omega)) (chkI (decide_eq_true (by omega)) (chkI (by show AV.refsL _ _ _ = true; rw [refsL_eq, List.all_append, ← refsL_eq, bv_closed]; rfl) (go (i + 1) (s.getD i 0) (by omega) hlt (by rw [refFrom, if_pos hlt, if_neg (by rw [hno]; decide), if_neg (by rw [decide_eq_false (show ¬ (i + 4 < s.length) by omega), Bool.and_false]; decide)]) _ _ rfl rfl))))))⟩
            · exact ⟨5, 1, _, rfl, chkI rfl (chkI rfl (chkI (by rw [bv_len]; simp) (chkI (decide_eq_true (by omega)) (chkI (decide_eq_true (by omega)) (chkI (by show AV.refsL _ _ _ = true; rw [refsL_eq, List.all_append, ← refsL_eq, bv_closed]; rfl) (go (i + 1) (s.getD i 0) (by omega) hlt (by rw [refFrom, if_pos hlt, if_neg (by rw [hno]; decide), if_neg (by rw [g1, Bool.false_and]; decide)]) _ _ rfl rfl))))))⟩
        · simp only [decide_eq_false_iff_not] at f2
          have hno : (s.getD i 0 == 92 && decide (i + 2 < s.length) && s.getD (i + 1) 0 != 120) = false := by rw [decide_eq_false (show ¬ (i + 2 < s.length) by omega), Bool.and_false, Bool.false_and]
          refine askI (fun g1 => ?_) fun g1 => ?_
          · refine askI (fun g2 => ?_) fun g2 => ?_
            · simp only [decide_eq_true_eq] at g2
              refine chkI (decide_eq_true (by omega)) (chkI (decide_eq_true (by omega)) ⟨_, sHex_at _, chkI (decide_eq_true (by omega)) (chkI (decide_eq_true (by omega)) ⟨_, sHex_at _, ?_⟩)⟩)
              rw [byteX]
              exact ⟨5, 1, _, rfl, chkI rfl (chkI rfl (chkI (by rw [bv_len]; simp) (chkI (decide_eq_true (by omega)) (chkI (decide_eq_true (by omega)) (chkI (by show AV.refsL _ _ _ = true; rw [refsL_eq, List.all_append, ← refsL_eq, bv_closed]; rfl) (go (i + 4) (16 * hexv (s.getD (i + 2) 0) + hexv (s.getD (i + 3) 0)) (by omega) hlt (by rw [refFrom, if_pos hlt, if_neg (by rw [hno]; decide), if_pos (by simp only [g1, Bool.true_and]; exact decide_eq_true (by omega))]) _ _ rfl rfl))))))⟩
            · simp only [decide_eq_false_iff_not] at g2
              exact ⟨5, 1, _, rfl, chkI rfl (chkI rfl (chkI (by rw [bv_len]; simp) (chkI (decide_eq_true (by omega)) (chkI (decide_eq_true (by omega)) (chkI (by show AV.refsL _ _ _ = true; rw [refsL_eq, List.all_append, ← refsL_eq, bv_closed]; rfl) (go (i + 1) (s.getD i 0) (by omega) hlt (by rw [refFrom, if_pos hlt, if_neg (by rw [hno]; decide), if_neg (by rw [decide_eq_false (show ¬ (i + 4 < s.length) by omega), Bool.and_false]; decide)]) _ _ rfl rfl))))))⟩
          · exact ⟨5, 1, _, rfl, chkI rfl (chkI rfl (chkI (by rw [bv_len]; simp) (chkI (decide_eq_true (by omega)) (chkI (decide_eq_true (by omega)) (chkI (by show AV.refsL _ _ _ = true; rw [refsL_eq, List.all_append, ← refsL_eq, bv_closed]; rfl) (go (i + 1) (s.getD i 0) (by omega) hlt (by rw [refFrom, if_pos hlt, if_neg (by rw [hno]; decide), if_neg (by rw [g1, Bool.false_and]; decide)]) _ _ rfl rfl))))))⟩
      · have hno : (s.getD i 0 == 92 && decide (i + 2 < s.length) && s.getD (i + 1) 0 != 120) = false := by rw [f1, Bool.false_and, Bool.false_and]
        refine askI (fun g1 => ?_) fun g1 => ?_
        · refine askI (fun g2 => ?_) fun g2 => ?_
          · simp only [decide_eq_true_eq] at g2
            refine chkI (decide_eq_true (by omega)) (chkI (decide_eq_true (by omega)) ⟨_, sHex_at _, chkI (decide_eq_true (by omega)) (chkI (decide_eq_true (by omega)) ⟨_, sHex_at _, ?_⟩)⟩)
            rw [byteX]
            exact ⟨5, 1, _, rfl, chkI rfl (chkI rfl (chkI (by rw [bv_len]; simp) (chkI (decide_eq_true (by omega)) (chkI (decide_eq_true (by omega)) (chkI (by show AV.refsL _ _ _ = true; rw [refsL_eq, List.all_append, ← refsL_eq, bv_closed]; rfl) (go (i + 4) (16 * hexv (s.getD (i + 2) 0) + hexv (s.getD (i + 3) 0)) (by omega) hlt (by rw [refFrom, if_pos hlt, if_neg (by rw [hno]; decide), if_pos (by simp only [g1, Bool.true_and]; exact decide_eq_true (by omega))]) _ _ rfl rfl))))))⟩
          · simp only [decide_eq_false_iff_not] at g2
            exact ⟨5, 1, _, rfl, chkI rfl (chkI rfl (chkI (by rw [bv_len]; simp) (chkI (decide_eq_true (by omega)) (chkI (decide_eq_true (by omega)) (chkI (by show AV.refsL _ _ _ = true; rw [refsL_eq, List.all_append, ← refsL_eq, bv_closed]; rfl) (go (i + 1) (s.getD i 0) (by omega) hlt (by rw [refFrom, if_pos hlt, if_neg (by rw [hno]; decide), if_neg (by rw [decide_eq_false (show ¬ (i + 4 < s.length) by omega), Bool.and_false]; decide)]) _ _ rfl rfl))))))⟩
        · exact ⟨5, 1, _, rfl, chkI rfl (chkI rfl (chkI (by rw [bv_len]; simp) (chkI (decide_eq_true (by omega)) (chkI (decide_eq_true (by omega)) (chkI (by show AV.refsL _ _ _ = true; rw [refsL_eq, List.all_append, ← refsL_eq, bv_closed]; rfl) (go (i + 1) (s.getD i 0) (by omega) hlt (by rw [refFrom, if_pos hlt, if_neg (by rw [hno]; decide), if_neg (by rw [g1, Bool.false_and]; decide)]) _ _ rfl rfl))))))⟩
    · refine askF (by rw [wl]; exact decide_eq_false (by omega)) ?_
      refine chkI (bv_ocl _) ?_
      refine ⟨rfl, ?_⟩
      rw [hstop hlt]
      unfold x13s
      simp only [hE, Bool.false_eq_true, if_false]
      rfl

end Go.Proofs.YtahdfjmdoljgiaaDoor
