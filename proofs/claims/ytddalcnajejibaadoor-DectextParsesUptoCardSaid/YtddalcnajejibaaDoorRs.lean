/- ParseAt: contracts; the walk of DectextParses. -/
import Derived.Test.YtddalcnajejibaaDoorRr
namespace Go.Proofs.YtddalcnajejibaaDoor
open Go Go.Am
set_option maxRecDepth 100000
set_option maxHeartbeats 1000000
set_option linter.unusedVariables false
set_option linter.unusedSimpArgs false

theorem bB : (0 : Int) < 115792089237316195423570985008687907853269984665640564039457584007913129639936 := by decide
theorem zl : (0 : Int) ≤ 18 := by decide
theorem parseN_bd (t : List UInt8) : 0 ≤ (parseN t).1 ∧ (parseN t).1 < 115792089237316195423570985008687907853269984665640564039457584007913129639936 := by
  unfold parseN
  split
  · exact ⟨Int.le_refl _, by decide⟩
  · split
    · exact ⟨Int.le_refl _, by decide⟩
    · split
      · rename_i hA
        split
        · rename_i v hv
          have h1 := fold_ge t 0 v (Int.le_refl _) hA hv
          have h2 := fold_lt t 0 v (by decide) hv
          rw [Int.zero_mul] at h1
          exact ⟨h1, h2⟩
        · exact ⟨Int.le_refl _, by decide⟩
      · exact ⟨Int.le_refl _, by decide⟩
theorem parseN_pos {c : UInt8} {l : List UInt8} (hc : (c == 48) = false) (h : ((parseN (c :: l)).2 != 0) = false) : (parseN (c :: l)).1 ≠ 0 := by
  have hr := pn_rest (s := c :: l) (List.cons_ne_nil _ _) (.inl hc)
  rw [hr] at h ⊢
  by_cases hA : allD (c :: l) = true
  · rw [if_pos hA] at h ⊢
    cases hv : foldD 0 (c :: l) with
    | none => rw [hv] at h; cases h
    | some v =>
      show v ≠ 0
      have hd : isD c = true ∧ allD l = true := by simpa [allD] using hA
      have hd1 := hd.1
      simp only [isD, Bool.and_eq_true, decide_eq_true_eq] at hd1
      simp only [foldD] at hv
      split at hv
      · cases hv
      · have h1 := fold_ge l _ v (by omega) hd.2 hv
        have hp : 0 < (10 : Int) ^ l.length := Int.pow_pos (by decide)
        have hne : c.toNat ≠ 48 := fun e => by
          have : c = 48 := UInt8.toNat_inj.1 e
          rw [this] at hc; cases hc
        have : 1 * (10 : Int) ^ l.length ≤ (0 * 10 + ((c.toNat : Int) - 48)) * 10 ^ l.length := Int.mul_le_mul_of_nonneg_right (by omega) (Int.le_of_lt hp)
        omega
  · rw [if_neg hA] at h
    cases h
def Hd (acc : List UInt8) : Prop := acc = [] ∨ ∃ c l, acc = c :: l ∧ (c == 48) = false
theorem al_head : ∀ (l acc : List UInt8), Hd acc → Hd (allR l acc)
  | [], _, h => h
  | c :: l, acc, h => by
    rw [allR]
    split
    · exact al_head l acc h
    · split
      · split
        · rename_i hk
          refine al_head l _ ?_
          rcases h with rfl | ⟨d, m, rfl, hd⟩
          · refine .inr ⟨c, [], rfl, ?_⟩
            rw [show decide (0 < ([] : List UInt8).length) = false from rfl, Bool.false_or, bne] at hk
            simpa using hk
          · exact .inr ⟨d, m ++ [c], rfl, hd⟩
        · exact al_head l acc h
      · exact al_head l acc h
theorem al_ge : ∀ (l acc : List UInt8), acc.length ≤ (allR l acc).length
  | [], _ => Nat.le_refl _
  | c :: l, acc => by
    have h1 := al_ge l acc
    have h2 := al_ge l (acc ++ [c])
    rw [List.length_append] at h2
    rw [allR]
    split
    · exact h1
    · split
      · split
        · omega
        · exact h1
      · exact h1
theorem al_mem : ∀ (l acc : List UInt8) (c : UInt8), c ∈ l → isD c = true → (c != 48) = true → 0 < (allR l acc).length
  | d :: l, acc, c, hm, hd, hn => by
    rw [allR]
    rcases List.mem_cons.1 hm with rfl | hm
    · rw [if_neg (by rw [isD_46 hd]; decide), if_pos hd, if_pos (by rw [hn, Bool.or_true])]
      have := al_ge l (acc ++ [c])
      rw [List.length_append, List.length_singleton] at this
      omega
    · split
      · exact al_mem l acc c hm hd hn
      · split
        · split
          · exact al_mem l _ c hm hd hn
          · exact al_mem l acc c hm hd hn
        · exact al_mem l acc c hm hd hn
theorem nz_mem : ∀ (l : List UInt8), nzD l = true → ∃ c, c ∈ l ∧ isD c = true ∧ (c != 48) = true
  | c :: l, h => by
    rw [nzD] at h
    split at h
    · rename_i hd
      cases hc : (c != 48) with
      | true => exact ⟨c, List.mem_cons_self .., hd, hc⟩
      | false =>
        rw [hc, Bool.false_or] at h
        obtain ⟨d, h1, h2⟩ := nz_mem l h
        exact ⟨d, List.mem_cons_of_mem _ h1, h2⟩
    · cases h
theorem neg_some {s : List UInt8} (hw : wR s = true) (hn : (s.getD 0 0 == 45) = true) : 0 < (allR s []).length := by
  have hl : 0 < s.length := by
    cases s with
    | nil => rw [wR_nil] at hw; cases hw
    | cons _ _ => simp
  have hwf : wRf s 1 = true := by
    rw [← hw]; unfold wR; rw [hn, decide_eq_true hl]; rfl
  have hnb : (s.getD 0 0 != 45) = false := by rw [bne, hn]; rfl
  have key : (nzD (s.drop 1) || nzD (s.drop (1 + runD (s.drop 1) + 1))) = true := by
    unfold wRf at hwf
    split at hwf
    · cases hwf
    · split at hwf
      · split at hwf
        · cases hwf
        · split at hwf
          · rw [hnb, Bool.or_false] at hwf; exact hwf
          · cases hwf
      · rw [hnb, Bool.or_false] at hwf
        rw [hwf]; rfl
  rw [Bool.or_eq_true] at key
  rcases key with k | k
  · obtain ⟨c, h1, h2, h3⟩ := nz_mem _ k
    exact al_mem s [] c (List.mem_of_mem_drop h1) h2 h3
  · obtain ⟨c, h1, h2, h3⟩ := nz_mem _ k
    exact al_mem s [] c (List.mem_of_mem_drop h1) h2 h3
/-- What a text's number is. -/
theorem parseD_facts (s : List UInt8) : (0 ≤ (parseD s).2.1 ∧ (parseD s).2.1 < 115792089237316195423570985008687907853269984665640564039457584007913129639936) ∧ (0 ≤ (parseD s).2.2.1 ∧ (parseD s).2.2.1 ≤ 18) ∧ ((parseD s).1 = true → (parseD s).2.1 ≠ 0) := by
  rw [← parse_same]
  unfold parse44
  cases hw : wR s with
  | false =>
    rw [if_pos rfl]
    exact ⟨⟨Int.le_refl _, bB⟩, ⟨Int.le_refl _, zl⟩, fun h => by cases h⟩
  | true =>
    rw [if_neg (by decide)]
    split
    · exact ⟨⟨Int.le_refl _, bB⟩, ⟨Int.le_refl _, zl⟩, fun h => by cases h⟩
    · rename_i hb
      split
      · rename_i hE
        refine ⟨⟨Int.le_refl _, bB⟩, ⟨by show (0 : Int) ≤ ((behR s false 0 : Nat) : Int); omega, by show ((behR s false 0 : Nat) : Int) ≤ 18; omega⟩, fun h => ?_⟩
        have := neg_some hw h
        rw [List.isEmpty_iff.1 hE] at this
        cases this
      · rename_i hE
        split
        · exact ⟨⟨Int.le_refl _, bB⟩, ⟨Int.le_refl _, zl⟩, fun h => by cases h⟩
        · rename_i he
          refine ⟨parseN_bd _, ⟨by show (0 : Int) ≤ ((behR s false 0 : Nat) : Int); omega, by show ((behR s false 0 : Nat) : Int) ≤ 18; omega⟩, fun _ => ?_⟩
          show (parseN (allR s [])).1 ≠ 0
          rcases al_head s [] (.inl rfl) with h | ⟨c, l, h, hc⟩
          · rw [h] at hE; exact absurd rfl hE
          · rw [h] at he ⊢
            exact parseN_pos hc (by simpa using he)
theorem parseAtX_shape (s : List UInt8) (sc : Int) : Shp (parseAtX s sc) := by
  unfold parseAtX
  split
  · exact ⟨_, _, _, _, _, _, _, rfl⟩
  · split
    · exact ⟨_, _, _, _, _, _, _, rfl⟩
    · split
      · exact ⟨_, _, _, _, _, _, _, rfl⟩
      · exact scX_shape _ _ _
theorem parseAtX_closed (s : List UInt8) (sc : Int) : (parseAtX s sc).closed = true := by
  obtain ⟨b, n1, n2, n3, n4, n5, n6, h⟩ := parseAtX_shape s sc
  rw [h]; rfl
theorem parseAt_ok : QuietOK Tryd.prog 15 fun vs _ => sParseAt vs := quiet_plain htz15 fun args v h => by
  unfold sParseAt at h
  split at h
  · rename_i s sc
    split at h
    · rename_i hs
      cases h
      refine ⟨rfl, parseAtX_closed _ _, ?_⟩
      have hS : (tbS Q tb15r).OK Tryd.prog := tbS_ok quietText (by
        intro x hx
        simp only [tb15r, List.mem_cons, List.not_mem_nil, or_false] at hx
        rcases hx with rfl | rfl
        · exact parse_dec_ok
        · exact rescale_ok)
      obtain ⟨u, h', rfl, hsem⟩ := sem_vc mixed (C := tbC Q tb15r (fun _ => false) kdI) hS (tbS_q _ _) (tbW_ok rfl) htz15 cz15 (no_parts rfl) (v15r s sc fun u _ => u = parseAtX s sc) (by
        obtain ⟨⟨b0, b1⟩, ⟨d0, d1⟩, hneg⟩ := parseD_facts s
        have hP := parseD_at (s := s) hs
        have X1 : sc < 0 ∨ sc > 18 → parseAtX s sc = .tup [zDec, .int .i64 1] := fun h => if_pos h
        refine askI (fun g1 => ?_) fun g1 => askI (fun g2 => ?_) fun g2 => ?_
        · simp only [decide_eq_true_eq] at g1
          rw [X1 (.inl g1)]; rfl
        · simp only [decide_eq_true_eq] at g2
          rw [X1 (.inr g2)]; rfl
        simp only [decide_eq_false_iff_not] at g1 g2
        have X2 : parseAtX s sc = if ((parseD s).2.2.2 != 0) = true then .tup [zDec, .int .i64 (parseD s).2.2.2]
          else if (parseD s).2.2.1 > sc then .tup [zDec, .int .i64 31]
          else scX (parseD s).1 ((parseD s).2.1 * 10 ^ (sc - (parseD s).2.2.1).toNat) sc := if_neg (by omega)
        rw [X2]
        generalize (parseD s).1 = neg at hneg hP ⊢
        generalize (parseD s).2.1 = v at b0 b1 hneg hP ⊢
        generalize (parseD s).2.2.1 = d at d0 d1 hP ⊢
        generalize (parseD s).2.2.2 = e at hP ⊢
        clear X1 X2
        refine ⟨_, _, _, _, _, _, _, hP, askI (fun g3 => ?_) fun g3 => askI (fun g4 => ?_) fun g4 => ?_⟩
        · rw [if_pos g3]; rfl
        · simp only [decide_eq_true_eq] at g4
          rw [if_neg (by rw [g3]; decide), if_pos g4]; rfl
        simp only [decide_eq_false_iff_not] at g4
        rw [if_neg (by rw [g3]; decide), if_neg g4]
        have hR : sRescale [.agg [.bool neg, .int .u64 (v % 18446744073709551616), .int .u64 (v / 18446744073709551616 % 18446744073709551616), .int .u64 (v / 18446744073709551616 / 18446744073709551616 % 18446744073709551616), .int .u64 (v / 18446744073709551616 / 18446744073709551616 / 18446744073709551616 % 18446744073709551616), .int .i64 d], .int .i64 sc, .int .i64 3] = some (scX neg (v * 10 ^ (sc - d).toNat) sc) := by
          have h := num_limbs b0 b1
          have hn := nz_limbs b0 b1
          have e0 : sRescale [.agg [.bool neg, .int .u64 (v % 18446744073709551616), .int .u64 (v / 18446744073709551616 % 18446744073709551616), .int .u64 (v / 18446744073709551616 / 18446744073709551616 % 18446744073709551616), .int .u64 (v / 18446744073709551616 / 18446744073709551616 / 18446744073709551616 % 18446744073709551616), .int .i64 d], .int .i64 sc, .int .i64 3] = some (scX neg (num4 (v % 18446744073709551616) (v / 18446744073709551616 % 18446744073709551616) (v / 18446744073709551616 / 18446744073709551616 % 18446744073709551616) (v / 18446744073709551616 / 18446744073709551616 / 18446744073709551616 % 18446744073709551616) * 10 ^ (sc - d).toNat) sc) := if_pos ⟨u64_limbs v, d0, by omega, by omega, by decide, by decide, by
            rw [hn]
            cases neg with
            | false => rfl
            | true => rw [decide_eq_true (hneg rfl)]; rfl⟩
          rw [h] at e0
          exact e0
        obtain ⟨b, n1, n2, n3, n4, n5, n6, hx⟩ := scX_shape neg (v * 10 ^ (sc - d).toNat) sc
        rw [hx] at hR
        exact ⟨b, n1, n2, n3, n4, n5, n6, hR, hx.symm⟩)
      exact ⟨h', hsem⟩
    · cases h
  · cases h
theorem refParseAt_ok : QuietOK Tryd.prog 16 fun vs _ => sParseAt vs := quiet_plain htz16 fun args v h => by
  unfold sParseAt at h
  split at h
  · rename_i s sc
    split at h
    · rename_i hs
      cases h
      refine ⟨rfl, parseAtX_closed _ _, ?_⟩
      have hS : (tbS Q tb16r).OK Tryd.prog := tbS_ok quietText (by
        intro x hx
        simp only [tb16r, List.mem_cons, List.not_mem_nil, or_false] at hx
        rcases hx with rfl | rfl | rfl
        · exact refParse_ok
        · exact ten36_ok
        · exact mulR_ok)
      obtain ⟨u, h', rfl, hsem⟩ := sem_vc mixed (C := tbC Q tb16r (fun _ => false) kdI) hS (tbS_q _ _) (tbW_ok rfl) htz16 cz16 (no_parts rfl) (v16r s sc fun u _ => u = parseAtX s sc) (by
        obtain ⟨⟨b0, b1⟩, ⟨d0, d1⟩, hneg⟩ := parseD_facts s
        have hP := parseD_at (s := s) hs
        have X1 : sc < 0 ∨ sc > 18 → parseAtX s sc = .tup [zDec, .int .i64 1] := fun h => if_pos h
        refine askI (fun g1 => ?_) fun g1 => askI (fun g2 => ?_) fun g2 => ?_
        · simp only [decide_eq_true_eq] at g1
          rw [X1 (.inl g1)]; rfl
        · simp only [decide_eq_true_eq] at g2
          rw [X1 (.inr g2)]; rfl
        simp only [decide_eq_false_iff_not] at g1 g2
        have X2 : parseAtX s sc = if ((parseD s).2.2.2 != 0) = true then .tup [zDec, .int .i64 (parseD s).2.2.2]
          else if (parseD s).2.2.1 > sc then .tup [zDec, .int .i64 31]
          else scX (parseD s).1 ((parseD s).2.1 * 10 ^ (sc - (parseD s).2.2.1).toNat) sc := if_neg (by omega)
        rw [X2]
        generalize (parseD s).1 = neg at hneg hP ⊢
        generalize (parseD s).2.1 = v at b0 b1 hneg hP ⊢
        generalize (parseD s).2.2.1 = d at d0 d1 hP ⊢
        generalize (parseD s).2.2.2 = e at hP ⊢
        clear X1 X2
        refine ⟨_, _, _, _, _, _, _, hP, askI (fun g3 => ?_) fun g3 => askI (fun g4 => ?_) fun g4 => ?_⟩
        · rw [if_pos g3]; rfl
        · simp only [decide_eq_true_eq] at g4
          rw [if_neg (by rw [g3]; decide), if_pos g4]; rfl
        simp only [decide_eq_false_iff_not] at g4
        rw [if_neg (by rw [g3]; decide), if_neg g4]
        have w1 : IntKind.wrap .i64 (sc - d) = sc - d := by rw [IntKind.wrap_i64]; omega
        obtain ⟨p1, p2⟩ := pow_ten (sc - d).toNat (by omega)
        have pp : 0 < (10 : Int) ^ (sc - d).toNat := Int.pow_pos (by decide)
        obtain ⟨q1, q2⟩ := pow_bd (k := (sc - d).toNat) b0 b1 (by omega)
        have hT : sTen [.int .i64 (sc - d)] = some (.tup [.agg (limbs (10 ^ (sc - d).toNat)), .bool true]) := if_pos ⟨by omega, by omega⟩
        have hM := mul_limbs b0 b1 p1 p2
        have hw0 : neg = true → v * 10 ^ (sc - d).toNat ≠ 0 := fun h e => by
          rcases Int.mul_eq_zero.1 e with e | e
          · exact hneg h e
          · omega
        rw [w1]
        generalize (10 : Int) ^ (sc - d).toNat = t at p1 p2 q1 q2 hT hM hw0 ⊢
        generalize hwv : v * t = w at q1 q2 hM hw0 ⊢
        refine ⟨_, _, _, _, true, hT, askT rfl ⟨_, _, _, _, _, _, _, _, hM, ?_⟩⟩
        refine askI (fun g5 => ?_) fun g5 => ?_
        · have g5' : nz4 ((w / 115792089237316195423570985008687907853269984665640564039457584007913129639936) % 18446744073709551616) ((w / 115792089237316195423570985008687907853269984665640564039457584007913129639936) / 18446744073709551616 % 18446744073709551616) ((w / 115792089237316195423570985008687907853269984665640564039457584007913129639936) / 18446744073709551616 / 18446744073709551616 % 18446744073709551616) ((w / 115792089237316195423570985008687907853269984665640564039457584007913129639936) / 18446744073709551616 / 18446744073709551616 / 18446744073709551616 % 18446744073709551616) = true := g5
          rw [nz_limbs (x := w / 115792089237316195423570985008687907853269984665640564039457584007913129639936) (by omega) q2, decide_eq_true_eq] at g5'
          have hge : w ≥ 115792089237316195423570985008687907853269984665640564039457584007913129639936 := by omega
          have hX : scX neg w sc = .tup [zDec, .int .i64 7] := if_pos hge
          rw [hX]; rfl
        · have g5' : nz4 ((w / 115792089237316195423570985008687907853269984665640564039457584007913129639936) % 18446744073709551616) ((w / 115792089237316195423570985008687907853269984665640564039457584007913129639936) / 18446744073709551616 % 18446744073709551616) ((w / 115792089237316195423570985008687907853269984665640564039457584007913129639936) / 18446744073709551616 / 18446744073709551616 % 18446744073709551616) ((w / 115792089237316195423570985008687907853269984665640564039457584007913129639936) / 18446744073709551616 / 18446744073709551616 / 18446744073709551616 % 18446744073709551616) = false := g5
          rw [nz_limbs (x := w / 115792089237316195423570985008687907853269984665640564039457584007913129639936) (by omega) q2, decide_eq_false_iff_not] at g5'
          have hlt : ¬ w ≥ 115792089237316195423570985008687907853269984665640564039457584007913129639936 := by omega
          have hX : scX neg w sc = .tup [decV (neg && decide (w ≠ 0)) w sc, .int .i64 0] := if_neg hlt
          have hnn : (neg && decide (w ≠ 0)) = neg := by
            cases neg with
            | false => rfl
            | true => rw [decide_eq_true (hw0 rfl)]; rfl
          rw [hX, hnn]; rfl)
      exact ⟨h', hsem⟩
    · cases h
  · cases h
theorem tb4r_ok : (tbS Q tb4r).OK Tryd.prog := tbS_ok quietText (by
  intro x hx
  simp only [tb4r, List.mem_cons, List.not_mem_nil, or_false] at hx
  rcases hx with rfl | rfl | rfl | rfl | rfl
  · exact parse_dec_ok
  · exact refParse_ok
  · exact parseAt_ok
  · exact refParseAt_ok
  · exact live_ok)
theorem parses_run (s : List UInt8) (sc : Int) (hs : s.length ≤ 1048576) : ∃ h', CallSem Tryd.prog 4 [.str s, .int .i64 sc] [] (.bool true) h' := by
  have hP := parseD_at (s := s) (by omega)
  have hA : sParseAt [.str s, .int .i64 sc] = some (parseAtX s sc) := if_pos (by omega)
  obtain ⟨b, n1, n2, n3, n4, n5, n6, hx⟩ := parseAtX_shape s sc
  rw [hx] at hA
  obtain ⟨u, h', rfl, hsem⟩ := sem_vc mixed (C := tbC Q tb4r (fun _ => false) kdI) tb4r_ok (tbS_q _ _) (tbW_ok rfl) htz4 cz4 (no_parts rfl) (v4r s sc fun u _ => u = .bool true)
    ⟨_, _, _, _, _, _, _, hP, _, _, _, _, _, _, _, hP, b, n1, n2, n3, n4, n5, n6, hA, b, n1, n2, n3, n4, n5, n6, hA, true, live_at [], askT rfl (askT (by simp) (askT (by simp) (askT (by simp) (askT (by simp) rfl))))⟩
  exact ⟨h', hsem⟩
end Go.Proofs.YtddalcnajejibaaDoor
