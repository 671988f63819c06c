/- times, round, Rescale, ParseAt: contracts. -/
import Derived.Test.YtddalcnajejibaaDoorRq
namespace Go.Proofs.YtddalcnajejibaaDoor
open Go Go.Am
set_option maxRecDepth 100000
set_option maxHeartbeats 1000000
set_option linter.unusedVariables false
set_option linter.unusedSimpArgs false

theorem nz_limbs {x : Int} (h0 : 0 ≤ x) (h1 : x < 115792089237316195423570985008687907853269984665640564039457584007913129639936) : nz4 (x % 18446744073709551616) (x / 18446744073709551616 % 18446744073709551616) (x / 18446744073709551616 / 18446744073709551616 % 18446744073709551616) (x / 18446744073709551616 / 18446744073709551616 / 18446744073709551616 % 18446744073709551616) = decide (x ≠ 0) := by
  unfold nz4
  by_cases h : x = 0
  · subst h; rfl
  · rw [decide_eq_true h]
    cases hc : (x % 18446744073709551616 == 0 && (x / 18446744073709551616 % 18446744073709551616 == 0 && (x / 18446744073709551616 / 18446744073709551616 % 18446744073709551616 == 0 && (x / 18446744073709551616 / 18446744073709551616 / 18446744073709551616 % 18446744073709551616 == 0 && true)))) with
    | false => rfl
    | true =>
      simp only [Bool.and_eq_true, beq_iff_eq] at hc
      obtain ⟨a, b, c, d, -⟩ := hc
      exact absurd (by omega) h
theorem u64_limbs (x : Int) : u64s (x % 18446744073709551616) (x / 18446744073709551616 % 18446744073709551616) (x / 18446744073709551616 / 18446744073709551616 % 18446744073709551616) (x / 18446744073709551616 / 18446744073709551616 / 18446744073709551616 % 18446744073709551616) = true := by
  simp only [u64s, u64B, Bool.and_eq_true, decide_eq_true_eq]; omega
theorem num_limbs {x : Int} (h0 : 0 ≤ x) (h1 : x < 115792089237316195423570985008687907853269984665640564039457584007913129639936) : num4 (x % 18446744073709551616) (x / 18446744073709551616 % 18446744073709551616) (x / 18446744073709551616 / 18446744073709551616 % 18446744073709551616) (x / 18446744073709551616 / 18446744073709551616 / 18446744073709551616 % 18446744073709551616) = x := by unfold num4; omega
def Shp (v : AV) : Prop := ∃ (b : Bool) (n1 n2 n3 n4 n5 n6 : Int), v = .tup [.agg [.bool b, .int .u64 n1, .int .u64 n2, .int .u64 n3, .int .u64 n4, .int .i64 n5], .int .i64 n6]
theorem scX_shape (neg : Bool) (w sc : Int) : Shp (scX neg w sc) := by
  unfold scX
  split
  · exact ⟨_, _, _, _, _, _, _, rfl⟩
  · exact ⟨_, _, _, _, _, _, _, rfl⟩
theorem scX_closed (neg : Bool) (w sc : Int) : (scX neg w sc).closed = true := by
  unfold scX; split <;> rfl
theorem made_sc (neg : Bool) {w : Int} (sc : Int) (h0 : 0 ≤ w) (h1 : w / 115792089237316195423570985008687907853269984665640564039457584007913129639936 < 115792089237316195423570985008687907853269984665640564039457584007913129639936) :
    (if nz4 ((w / 115792089237316195423570985008687907853269984665640564039457584007913129639936) % 18446744073709551616) ((w / 115792089237316195423570985008687907853269984665640564039457584007913129639936) / 18446744073709551616 % 18446744073709551616) ((w / 115792089237316195423570985008687907853269984665640564039457584007913129639936) / 18446744073709551616 / 18446744073709551616 % 18446744073709551616) ((w / 115792089237316195423570985008687907853269984665640564039457584007913129639936) / 18446744073709551616 / 18446744073709551616 / 18446744073709551616 % 18446744073709551616) then AV.tup [.agg [.bool false, .int .u64 0, .int .u64 0, .int .u64 0, .int .u64 0, .int .i64 0], .int .i64 7] else .tup [.agg [.bool (neg && nz4 (w % 18446744073709551616) (w / 18446744073709551616 % 18446744073709551616) (w / 18446744073709551616 / 18446744073709551616 % 18446744073709551616) (w / 18446744073709551616 / 18446744073709551616 / 18446744073709551616 % 18446744073709551616)), .int .u64 (w % 18446744073709551616), .int .u64 (w / 18446744073709551616 % 18446744073709551616), .int .u64 (w / 18446744073709551616 / 18446744073709551616 % 18446744073709551616), .int .u64 (w / 18446744073709551616 / 18446744073709551616 / 18446744073709551616 % 18446744073709551616), .int .i64 sc], .int .i64 0]) = scX neg w sc := by
  rw [nz_limbs (x := w / 115792089237316195423570985008687907853269984665640564039457584007913129639936) (by omega) h1]
  unfold scX
  by_cases h : w ≥ 115792089237316195423570985008687907853269984665640564039457584007913129639936
  · rw [if_pos h, if_pos (by rw [decide_eq_true_eq]; omega)]; rfl
  · rw [if_neg h, if_neg (by rw [decide_eq_true_eq]; omega), nz_limbs h0 (by omega)]; rfl
theorem pow_bd {v : Int} {k : Nat} (h0 : 0 ≤ v) (h1 : v < 115792089237316195423570985008687907853269984665640564039457584007913129639936) (hk : k ≤ 77) : 0 ≤ v * 10 ^ k ∧ v * 10 ^ k / 115792089237316195423570985008687907853269984665640564039457584007913129639936 < 115792089237316195423570985008687907853269984665640564039457584007913129639936 := by
  obtain ⟨p1, p2⟩ := pow_ten k hk
  generalize (10 : Int) ^ k = p at p1 p2 ⊢
  refine ⟨Int.mul_nonneg h0 p1, ?_⟩
  have : v * p ≤ 115792089237316195423570985008687907853269984665640564039457584007913129639936 * p := Int.mul_le_mul_of_nonneg_right (by omega) p1
  omega
theorem times_at {v n : Int} (h0 : 0 ≤ v) (h1 : v < 115792089237316195423570985008687907853269984665640564039457584007913129639936) (hn : 0 ≤ n ∧ n ≤ 77) : sTimesN [.agg (limbs v), .int .i64 n] = some (.agg (limbs (v * 10 ^ n.toNat / 115792089237316195423570985008687907853269984665640564039457584007913129639936) ++ limbs (v * 10 ^ n.toNat))) := by
  unfold limbs sTimesN
  simp only [u64_limbs, num_limbs h0 h1, true_and, if_pos hn]
  rfl
theorem times_ok : QuietOK Tryd.prog 42 fun vs _ => sTimesN vs := quiet_plain htz42 fun args v h => by
  unfold sTimesN at h
  split at h
  · rename_i a0 a1 a2 a3 n
    split at h
    · rename_i hs
      cases h
      refine ⟨rfl, rfl, ?_⟩
      have hS : (tbS Q tb42).OK Tryd.prog := tbS_ok quietText (by
        intro x hx
        simp only [tb42, List.mem_cons, List.not_mem_nil, or_false] at hx
        rcases hx with rfl | rfl
        · exact ten71_ok
        · exact mul_ok)
      obtain ⟨u, h', rfl, hsem⟩ := sem_vc mixed (C := tbC Q tb42 (fun _ => false) kdI) hS (tbS_q _ _) (tbW_ok rfl) htz42 cz42 (no_parts rfl) (v42t a0 a1 a2 a3 n fun u _ => u = .agg (limbs (num4 a0 a1 a2 a3 * 10 ^ n.toNat / 115792089237316195423570985008687907853269984665640564039457584007913129639936) ++ limbs (num4 a0 a1 a2 a3 * 10 ^ n.toNat))) (by
        obtain ⟨hl, b0, b1⟩ := limbs_num hs.1
        obtain ⟨p1, p2⟩ := pow_ten n.toNat (by omega)
        have hM := mul_limbs b0 b1 p1 p2
        rw [← hl] at hM
        have hT : sTen [.int .i64 n] = some (.tup [.agg (limbs (10 ^ n.toNat)), .bool true]) := if_pos hs.2
        generalize (10 : Int) ^ n.toNat = p at p1 p2 hM hT ⊢
        generalize num4 a0 a1 a2 a3 = v at hM ⊢
        exact ⟨_, _, _, _, true, hT, askT rfl ⟨_, _, _, _, _, _, _, _, hM, rfl⟩⟩)
      exact ⟨h', hsem⟩
    · cases h
  · cases h
theorem round_ok : QuietOK Tryd.prog 68 fun vs _ => sRound vs := quiet_plain htz68 fun args v h => by
  unfold sRound at h
  split at h
  · rename_i neg h0 h1 h2 h3 l0 l1 l2 l3 fr sc p
    split at h
    · rename_i hs
      cases h
      refine ⟨rfl, scX_closed _ _ _, ?_⟩
      have hS : (tbS Q tb68).OK Tryd.prog := tbS_ok quietText (by
        intro x hx
        simp only [tb68, List.mem_cons, List.not_mem_nil, or_false] at hx
        rcases hx with rfl | rfl
        · exact times_ok
        · exact made_ok)
      obtain ⟨u, h', rfl, hsem⟩ := sem_vc mixed (C := tbC Q tb68 (fun _ => false) kdI) hS (tbS_q _ _) (tbW_ok rfl) htz68 cz68 (no_parts rfl) (v68r neg h0 h1 h2 h3 l0 l1 l2 l3 fr sc p fun u _ => u = scX neg (num4 l0 l1 l2 l3 * 10 ^ (sc - fr).toNat) sc) (by
        obtain ⟨z1, z2, z3, z4, z5⟩ := hs
        have w1 : IntKind.wrap .i64 (sc - fr) = sc - fr := by rw [IntKind.wrap_i64]; omega
        obtain ⟨hl, b0, b1⟩ := limbs_num z2
        obtain ⟨q1, q2⟩ := pow_bd (k := (sc - fr).toNat) b0 b1 (by omega)
        have hT := times_at (n := sc - fr) b0 b1 (by omega)
        rw [← hl] at hT
        generalize num4 l0 l1 l2 l3 * 10 ^ (sc - fr).toNat = w at q1 q2 hT ⊢
        have hm := made_sc neg sc q1 q2
        obtain ⟨b, n1, n2, n3, n4, n5, n6, hx⟩ := scX_shape neg w sc
        rw [w1]
        refine chkI (decide_eq_true (by omega)) (askF z1 (askI (fun g => ?_) fun g => ?_))
        · subst g
          exact ⟨_, _, _, _, _, _, _, _, hT, b, n1, n2, n3, n4, n5, n6, congrArg some (hm.trans hx), hx.symm⟩
        · subst g
          exact ⟨_, _, _, _, _, _, _, _, hT, b, n1, n2, n3, n4, n5, n6, congrArg some (hm.trans hx), hx.symm⟩)
      exact ⟨h', hsem⟩
    · cases h
  · cases h
theorem rescale_ok : QuietOK Tryd.prog 35 fun vs _ => sRescale vs := quiet_plain htz35 fun args v h => by
  unfold sRescale at h
  split at h
  · rename_i neg l0 l1 l2 l3 fr sc p
    split at h
    · rename_i hs
      cases h
      refine ⟨rfl, scX_closed _ _ _, ?_⟩
      have hS : (tbS Q tb35r).OK Tryd.prog := tbS_ok quietText (by
        intro x hx
        simp only [tb35r, List.mem_cons, List.not_mem_nil, or_false] at hx
        rcases hx with rfl | rfl | rfl
        · exact check_ok
        · exact may_ok
        · exact round_ok)
      obtain ⟨u, h', rfl, hsem⟩ := sem_vc mixed (C := tbC Q tb35r (fun _ => false) kdI) hS (tbS_q _ _) (tbW_ok rfl) htz35 cz35 (no_parts rfl) (v35r neg l0 l1 l2 l3 fr sc p fun u _ => u = scX neg (num4 l0 l1 l2 l3 * 10 ^ (sc - fr).toNat) sc) (by
        obtain ⟨z2, z3, z4, z5, z6, z7, z8⟩ := hs
        obtain ⟨b, n1, n2, n3, n4, n5, n6, hx⟩ := scX_shape neg (num4 l0 l1 l2 l3 * 10 ^ (sc - fr).toNat) sc
        have hR : sRound [.bool neg, .agg [.int .u64 0, .int .u64 0, .int .u64 0, .int .u64 0, .int .u64 l0, .int .u64 l1, .int .u64 l2, .int .u64 l3], .int .i64 fr, .int .i64 sc, .int .i64 p] = some (scX neg (num4 l0 l1 l2 l3 * 10 ^ (sc - fr).toNat) sc) := if_pos ⟨rfl, z2, z3, z4, z5⟩
        rw [hx] at hR
        have e1 : (decide (fr < 0) || decide (fr > 18) || (neg && !(nz4 l0 l1 l2 l3))) = false := by rw [z8, decide_eq_false (by omega), decide_eq_false (by omega)]; rfl
        have e2 : (decide (sc < 0) || decide (sc > 18)) = false := by rw [decide_eq_false (by omega), decide_eq_false (by omega)]; rfl
        have e3 : (decide (p < 1) || decide (p > 5)) = false := by rw [decide_eq_false (by omega), decide_eq_false (by omega)]; rfl
        refine ⟨0, by rw [e1]; rfl, askF rfl ⟨0, by rw [e2, e3]; rfl, askF rfl (askI (fun g => ?_) fun g => ?_)⟩⟩
        · subst g
          exact ⟨b, n1, n2, n3, n4, n5, n6, hR, hx.symm⟩
        · subst g
          exact ⟨b, n1, n2, n3, n4, n5, n6, hR, hx.symm⟩)
      exact ⟨h', hsem⟩
    · cases h
  · cases h
end Go.Proofs.YtddalcnajejibaaDoor
