/- Ten, times, made, Check, may: contracts. -/
import Derived.Test.YtddalcnajejibaaDoorRm
namespace Go.Proofs.YtddalcnajejibaaDoor
open Go Go.Am
set_option maxRecDepth 100000
set_option maxHeartbeats 1000000
set_option linter.unusedVariables false
set_option linter.unusedSimpArgs false

theorem pow_ten (i : Nat) (h : i ≤ 77) : 0 ≤ (10 : Int) ^ i ∧ (10 : Int) ^ i < 115792089237316195423570985008687907853269984665640564039457584007913129639936 := by
  have : ∀ j : Fin 78, 0 ≤ (10 : Int) ^ j.1 ∧ (10 : Int) ^ j.1 < 115792089237316195423570985008687907853269984665640564039457584007913129639936 := by decide +kernel
  exact this ⟨i, by omega⟩
theorem tb71_ok : (tbS Q tb71).OK Tryd.prog := tbS_ok quietText (by
  intro x hx
  simp only [tb71, List.mem_cons, List.not_mem_nil, or_false] at hx
  rcases hx with rfl | rfl
  · exact from_ok
  · exact mul_ok)
theorem loop71t (n : Nat) (hn : n ≤ 77) : W Tryd.prog (tbS Q tb71) 0 (.inl (.loop pz71_l0)) (q71t n 1 0) (fun e st => e = .exit 0 ∧ st = (envOf 24 [(2, .ptr (some (0, 0))), (4, .ptr (some (1, 0)))], [tn4 0, tn4 (10 ^ n)])) := by
  have hcw : CwOK (tbS Q tb71) (tbW Q tb71) := tbW_ok rfl
  have main := W_roundsG (P := Tryd.prog) (S := tbS Q tb71) (b0 := 0) (a := pz71_l0) (fun i : Nat => q71t n (10 ^ i) i)
    (fun i => i ≤ n) (fun i => n - i) (fun _ e st => e = .exit 0 ∧ st = (envOf 24 [(2, .ptr (some (0, 0))), (4, .ptr (some (1, 0)))], [tn4 0, tn4 (10 ^ n)])) ?_ 0 (Nat.zero_le _)
  · exact main
  · rintro i h1
    refine W_wpX (C := C71t) hcw (by intro x hx; cases hx) (n := 60) (tn := t71t) (tx := x71t) (tr := x71t) ((v71tb n (10 ^ i) i _).mp ?_)
    rcases Nat.lt_or_ge i n with hi | hi
    · have w1 : IntKind.wrap .i64 ((i : Int) + 1) = ((i + 1 : Nat) : Int) := by rw [IntKind.wrap_i64]; omega
      obtain ⟨p1, p2⟩ := pow_ten i (by omega)
      have hnext : (10 : Int) ^ (i + 1) = 10 ^ i * 10 := Int.pow_succ ..
      rw [w1]
      generalize (10 : Int) ^ i = v at p1 p2 hnext ⊢
      refine askT (decide_eq_true (by omega)) ⟨10, 0, 0, 0, rfl, _, _, _, _, _, _, _, _, mul_ten p1 p2, i + 1, ?_, hi, by show n - (i + 1) < n - i; omega, fun _ _ h => h⟩
      show _ = q71t n (10 ^ (i + 1)) ((i + 1 : Nat) : Int)
      rw [hnext]
      rfl
    · have : i = n := by omega
      subst this
      exact askF (decide_eq_false (by omega)) ⟨rfl, rfl⟩
theorem ten71_ok : QuietOK Tryd.prog 71 fun vs _ => sTen vs := quiet_plain htz71 fun args v h => by
  unfold sTen at h
  split at h
  · rename_i z
    split at h
    · rename_i hs
      cases h
      refine ⟨rfl, rfl, ?_⟩
      have hS : (tbS Q tb71).OK Tryd.prog := tbS_ok quietText (by
        intro x hx
        simp only [tb71, List.mem_cons, List.not_mem_nil, or_false] at hx
        rcases hx with rfl | rfl
        · exact from_ok
        · exact mul_ok)
      obtain ⟨n, rfl⟩ : ∃ n : Nat, z = n := ⟨z.toNat, by omega⟩
      obtain ⟨u, h', rfl, hsem⟩ := sem_vc mixed (C := C71T n) hS (tbS_q _ _) (tbW_ok rfl) htz71 cz71 (one_part rfl (part_loop (id := 5) rfl rfl fun st K hT => by
        obtain ⟨rfl, hk⟩ := hT
        refine W_mono (loop71t n (by omega)) fun e st he => ?_
        obtain ⟨rfl, rfl⟩ := he
        exact hk)) (v71t n fun u _ => u = .tup [.agg (limbs (10 ^ (n : Int).toNat)), .bool true]) (by
        refine askF (decide_eq_false (by omega)) ⟨1, 0, 0, 0, rfl, rfl, rfl⟩)
      exact ⟨h', hsem⟩
    · cases h
  · cases h
theorem tb36t_ok : (tbS Q tb36t).OK Tryd.prog := tbS_ok quietText (by
  intro x hx
  simp only [tb36t, List.mem_cons, List.not_mem_nil, or_false] at hx
  rcases hx with rfl | rfl
  · exact fromR_ok
  · exact mulR_ok)
theorem loop36t (n : Nat) (hn : n ≤ 77) : W Tryd.prog (tbS Q tb36t) 0 (.inl (.loop pz36_l0)) (q36t n 1 0) (fun e st => e = .exit 0 ∧ st = (envOf 26 [(2, .ptr (some (0, 0))), (4, .ptr (some (1, 0)))], [tn4 0, tn4 (10 ^ n)])) := by
  have hcw : CwOK (tbS Q tb36t) (tbW Q tb36t) := tbW_ok rfl
  have main := W_roundsG (P := Tryd.prog) (S := tbS Q tb36t) (b0 := 0) (a := pz36_l0) (fun i : Nat => q36t n (10 ^ i) i)
    (fun i => i ≤ n) (fun i => n - i) (fun _ e st => e = .exit 0 ∧ st = (envOf 26 [(2, .ptr (some (0, 0))), (4, .ptr (some (1, 0)))], [tn4 0, tn4 (10 ^ n)])) ?_ 0 (Nat.zero_le _)
  · exact main
  · rintro i h1
    refine W_wpX (C := C36t) hcw (by intro x hx; cases hx) (n := 60) (tn := t36t) (tx := x36t) (tr := x36t) ((v36tb n (10 ^ i) i _).mp ?_)
    rcases Nat.lt_or_ge i n with hi | hi
    · have w1 : IntKind.wrap .i64 ((i : Int) + 1) = ((i + 1 : Nat) : Int) := by rw [IntKind.wrap_i64]; omega
      obtain ⟨p1, p2⟩ := pow_ten i (by omega)
      have hnext : (10 : Int) ^ (i + 1) = 10 ^ i * 10 := Int.pow_succ ..
      rw [w1]
      generalize (10 : Int) ^ i = v at p1 p2 hnext ⊢
      refine askT (decide_eq_true (by omega)) ⟨10, 0, 0, 0, rfl, _, _, _, _, _, _, _, _, mul_ten p1 p2, i + 1, ?_, hi, by show n - (i + 1) < n - i; omega, fun _ _ h => h⟩
      show _ = q36t n (10 ^ (i + 1)) ((i + 1 : Nat) : Int)
      rw [hnext]
      rfl
    · have : i = n := by omega
      subst this
      exact askF (decide_eq_false (by omega)) ⟨rfl, rfl⟩
theorem ten36_ok : QuietOK Tryd.prog 36 fun vs _ => sTen vs := quiet_plain htz36 fun args v h => by
  unfold sTen at h
  split at h
  · rename_i z
    split at h
    · rename_i hs
      cases h
      refine ⟨rfl, rfl, ?_⟩
      have hS : (tbS Q tb36t).OK Tryd.prog := tbS_ok quietText (by
        intro x hx
        simp only [tb36t, List.mem_cons, List.not_mem_nil, or_false] at hx
        rcases hx with rfl | rfl
        · exact fromR_ok
        · exact mulR_ok)
      obtain ⟨n, rfl⟩ : ∃ n : Nat, z = n := ⟨z.toNat, by omega⟩
      obtain ⟨u, h', rfl, hsem⟩ := sem_vc mixed (C := C36T n) hS (tbS_q _ _) (tbW_ok rfl) htz36 cz36 (one_part rfl (part_loop (id := 5) rfl rfl fun st K hT => by
        obtain ⟨rfl, hk⟩ := hT
        refine W_mono (loop36t n (by omega)) fun e st he => ?_
        obtain ⟨rfl, rfl⟩ := he
        exact hk)) (v36t n fun u _ => u = .tup [.agg (limbs (10 ^ (n : Int).toNat)), .bool true]) (by
        refine askF (decide_eq_false (by omega)) ⟨1, 0, 0, 0, rfl, rfl, rfl⟩)
      exact ⟨h', hsem⟩
    · cases h
  · cases h
theorem limbs_num {a0 a1 a2 a3 : Int} (h : u64s a0 a1 a2 a3 = true) : ([.int .u64 a0, .int .u64 a1, .int .u64 a2, .int .u64 a3] : List AV) = limbs (num4 a0 a1 a2 a3) ∧ 0 ≤ num4 a0 a1 a2 a3 ∧ num4 a0 a1 a2 a3 < 115792089237316195423570985008687907853269984665640564039457584007913129639936 := by
  simp only [u64s, u64B, Bool.and_eq_true, decide_eq_true_eq] at h
  obtain ⟨⟨⟨⟨h0, g0⟩, h1, g1⟩, h2, g2⟩, h3, g3⟩ := h
  have e : num4 a0 a1 a2 a3 = a0 + 18446744073709551616 * (a1 + 18446744073709551616 * (a2 + 18446744073709551616 * a3)) := rfl
  refine ⟨?_, by omega, by omega⟩
  have e0 : num4 a0 a1 a2 a3 % 18446744073709551616 = a0 := by omega
  have e1 : num4 a0 a1 a2 a3 / 18446744073709551616 % 18446744073709551616 = a1 := by omega
  have e2 : num4 a0 a1 a2 a3 / 18446744073709551616 / 18446744073709551616 % 18446744073709551616 = a2 := by omega
  have e3 : num4 a0 a1 a2 a3 / 18446744073709551616 / 18446744073709551616 / 18446744073709551616 % 18446744073709551616 = a3 := by omega
  unfold limbs
  rw [e0, e1, e2, e3]
theorem mul_limbs {v w : Int} (h0 : 0 ≤ v) (h1 : v < 115792089237316195423570985008687907853269984665640564039457584007913129639936) (g0 : 0 ≤ w) (g1 : w < 115792089237316195423570985008687907853269984665640564039457584007913129639936) : sMul [.agg (limbs v), .agg (limbs w)] = some (.tup [.agg (limbs (v * w / 115792089237316195423570985008687907853269984665640564039457584007913129639936)), .agg (limbs (v * w))]) := by
  unfold limbs sMul
  have hu : (u64s (v % 18446744073709551616) (v / 18446744073709551616 % 18446744073709551616) (v / 18446744073709551616 / 18446744073709551616 % 18446744073709551616) (v / 18446744073709551616 / 18446744073709551616 / 18446744073709551616 % 18446744073709551616) && u64s (w % 18446744073709551616) (w / 18446744073709551616 % 18446744073709551616) (w / 18446744073709551616 / 18446744073709551616 % 18446744073709551616) (w / 18446744073709551616 / 18446744073709551616 / 18446744073709551616 % 18446744073709551616)) = true := by
    simp only [u64s, u64B, Bool.and_eq_true, decide_eq_true_eq]; omega
  simp only [hu, if_true]
  have hn : num4 (v % 18446744073709551616) (v / 18446744073709551616 % 18446744073709551616) (v / 18446744073709551616 / 18446744073709551616 % 18446744073709551616) (v / 18446744073709551616 / 18446744073709551616 / 18446744073709551616 % 18446744073709551616) = v := by unfold num4; omega
  have hm : num4 (w % 18446744073709551616) (w / 18446744073709551616 % 18446744073709551616) (w / 18446744073709551616 / 18446744073709551616 % 18446744073709551616) (w / 18446744073709551616 / 18446744073709551616 / 18446744073709551616 % 18446744073709551616) = w := by unfold num4; omega
  rw [hn, hm]
  rfl
theorem check_ok : QuietOK Tryd.prog 21 fun vs _ => sCheck vs := quiet_plain htz21 fun args v h => by
  unfold sCheck at h
  split at h
  · rename_i neg l0 l1 l2 l3 sc
    cases h
    · skip
      refine ⟨rfl, rfl, ?_⟩
      have hS : (tbS Q []).OK Tryd.prog := tbS_ok quietText (by simp)
      obtain ⟨u, h', rfl, hsem⟩ := sem_vc mixed (C := tbC Q [] (fun _ => false) kdI) hS (tbS_q _ _) (tbW_ok rfl) htz21 cz21 (no_parts rfl) (v21t neg l0 l1 l2 l3 sc fun u _ => u = .int .i64 (if decide (sc < 0) || decide (sc > 18) || (neg && !(nz4 l0 l1 l2 l3)) then 20 else 0)) (by
        refine askI (fun g1 => ?_) fun g1 => askI (fun g2 => ?_) fun g2 => askI (fun g3 => askI (fun g4 => ?_) fun g4 => ?_) fun g3 => ?_
        · rw [g1]; rfl
        · rw [g1, g2]; rfl
        · have e : nz4 l0 l1 l2 l3 = false := by unfold nz4; rw [g4]; rfl
          rw [g1, g2, g3, e]; rfl
        · have e : nz4 l0 l1 l2 l3 = true := by unfold nz4; rw [g4]; rfl
          rw [g1, g2, g3, e]; rfl
        · rw [g1, g2, g3]; rfl)
      exact ⟨h', hsem⟩
  · cases h
theorem may_ok : QuietOK Tryd.prog 67 fun vs _ => sMay vs := quiet_plain htz67 fun args v h => by
  unfold sMay at h
  split at h
  · rename_i sc p
    cases h
    · skip
      refine ⟨rfl, rfl, ?_⟩
      have hS : (tbS Q []).OK Tryd.prog := tbS_ok quietText (by simp)
      obtain ⟨u, h', rfl, hsem⟩ := sem_vc mixed (C := tbC Q [] (fun _ => false) kdI) hS (tbS_q _ _) (tbW_ok rfl) htz67 cz67 (no_parts rfl) (v67t sc p fun u _ => u = .int .i64 (if decide (sc < 0) || decide (sc > 18) then 21 else if decide (p < 1) || decide (p > 5) then 22 else 0)) (by
        refine askI (fun g1 => ?_) fun g1 => askI (fun g2 => ?_) fun g2 => askI (fun g3 => ?_) fun g3 => askI (fun g4 => ?_) fun g4 => ?_
        · rw [g1]; rfl
        · rw [g1, g2]; rfl
        · rw [g1, g2, g3]; rfl
        · rw [g1, g2, g3, g4]; rfl
        · rw [g1, g2, g3, g4]; rfl)
      exact ⟨h', hsem⟩
  · cases h
theorem made_ok : QuietOK Tryd.prog 86 fun vs _ => sMade vs := quiet_plain htz86 fun args v h => by
  unfold sMade at h
  split at h
  · rename_i neg h0 h1 h2 h3 l0 l1 l2 l3 sc
    cases h
    · skip
      refine ⟨rfl, (by split <;> rfl), ?_⟩
      have hS : (tbS Q []).OK Tryd.prog := tbS_ok quietText (by simp)
      obtain ⟨u, h', rfl, hsem⟩ := sem_vc mixed (C := tbC Q [] (fun _ => false) kdI) hS (tbS_q _ _) (tbW_ok rfl) htz86 cz86 (no_parts rfl) (v86t neg h0 h1 h2 h3 l0 l1 l2 l3 sc fun u _ => u = if nz4 h0 h1 h2 h3 then .tup [.agg [.bool false, .int .u64 0, .int .u64 0, .int .u64 0, .int .u64 0, .int .i64 0], .int .i64 7] else .tup [.agg [.bool (neg && nz4 l0 l1 l2 l3), .int .u64 l0, .int .u64 l1, .int .u64 l2, .int .u64 l3, .int .i64 sc], .int .i64 0]) (by
        refine askI (fun g1 => ?_) fun g1 => askI (fun g2 => askI (fun g3 => ?_) fun g3 => ?_) fun g2 => ?_
        · have e : nz4 h0 h1 h2 h3 = true := g1
          rw [e]; rfl
        · have e : nz4 h0 h1 h2 h3 = false := g1
          have e2 : nz4 l0 l1 l2 l3 = true := g3
          rw [e, e2, g2]; rfl
        · have e : nz4 h0 h1 h2 h3 = false := g1
          have e2 : nz4 l0 l1 l2 l3 = false := g3
          rw [e, e2, g2]; rfl
        · have e : nz4 h0 h1 h2 h3 = false := g1
          rw [e, g2]; rfl)
      exact ⟨h', hsem⟩
  · cases h
end Go.Proofs.YtddalcnajejibaaDoor
