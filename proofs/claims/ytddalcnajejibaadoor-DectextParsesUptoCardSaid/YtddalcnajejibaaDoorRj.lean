/- DectextPrefix' walk. -/
import Derived.Test.YtddalcnajejibaaDoorRi
namespace Go.Proofs.YtddalcnajejibaaDoor
open Go Go.Am
set_option maxRecDepth 100000
set_option linter.unusedVariables false
set_option linter.unusedSimpArgs false

theorem live_at (h : AHeap) : sLive [] h = some (.bool true) := by unfold sLive; rw [if_pos rfl]
theorem parseD_at {s : List UInt8} (h : s.length ≤ 1048577) : sParseD [.str s] = some (.tup [decV (parseD s).1 (parseD s).2.1 (parseD s).2.2.1, .int .i64 (parseD s).2.2.2]) := if_pos h
theorem tbP_ok : (tbS Q tbP).OK Tryd.prog := tbS_ok quietText (by
  intro x hx
  simp only [tbP, List.mem_cons, List.not_mem_nil, or_false] at hx
  rcases hx with rfl | rfl | rfl | rfl
  · exact prefix_ok
  · exact live_ok
  · exact refPrefix_ok
  · exact refParse_ok)
theorem loopP (s : List UInt8) (hs : s.length ≤ 300) : W Tryd.prog (tbS Q tbP) 0 (.inl (.loop pz5_l0)) (qP s (prefixF s) ((s.length : Int) + 1) 0) (fun e st => e = .exit 0 ∧ st = (envOf 56 [], [])) := by
  have hcw : CwOK (tbS Q tbP) (tbW Q tbP) := tbW_ok rfl
  have main := W_roundsG (P := Tryd.prog) (S := tbS Q tbP) (b0 := 0) (a := pz5_l0) (fun i : Nat => qP s (prefixF s) ((s.length : Int) + 1) i)
    (fun i => i ≤ s.length + 1) (fun i => s.length + 1 - i) (fun _ e st => e = .exit 0 ∧ st = (envOf 56 [], [])) ?_ 0 (Nat.zero_le _)
  · exact main
  · rintro i h1
    refine W_wpX (C := CPl) hcw (by intro x hx; cases hx) (n := 80) (tn := tP) (tx := xP) (tr := rP) ((vPb s (prefixF s) i _).mp ?_)
    rcases Nat.lt_or_ge i (s.length + 1) with hi | hi
    · have w1 : IntKind.wrap .i64 ((i : Int) + 1) = ((i + 1 : Nat) : Int) := by rw [IntKind.wrap_i64]; omega
      have hE := err30 (s.take i)
      have go : ∃ s' : Nat, qP s (prefixF s) ((s.length : Int) + 1) ((i + 1 : Nat) : Int) = qP s (prefixF s) ((s.length : Int) + 1) s' ∧ s' ≤ s.length + 1 ∧ s.length + 1 - s' < s.length + 1 - i ∧ ∀ e st, (e = AExit.exit 0 ∧ st = ((envOf 56 [], []) : St)) → (e = AExit.exit 0 ∧ st = ((envOf 56 [], []) : St)) :=
        ⟨i + 1, rfl, by omega, by omega, fun _ _ h => h⟩
      rw [w1, List.drop_zero]
      refine askT (decide_eq_true (by omega)) (chkI (decide_eq_true (by omega)) ⟨_, _, _, _, _, _, _, parseD_at (s := s.take i) (by rw [List.length_take]; omega), askI (fun g1 => ?_) fun g1 => ?_⟩)
      · rw [hE] at g1
        have := is_short (by omega) g1
        exact askF (decide_eq_false (by omega)) (askI (fun _ => askI (fun _ => go) fun _ => go) fun _ => go)
      · rw [hE] at g1
        refine askI (fun g2 => askI (fun g3 => ?_) fun _ => go) fun _ => go
        rw [beq_iff_eq] at g2
        simp only [decide_eq_true_eq] at g3
        have hin : i = prefixF s := by omega
        have := is_one (s := s) (by omega)
        rw [← hin, g1] at this
        cases this
    · exact askF (decide_eq_false (by omega)) ⟨rfl, rfl⟩
theorem prefix_run (s : List UInt8) (hs : s.length ≤ 9223372036854775807) : ∃ h', CallSem Tryd.prog 5 [.str s] [] (.bool true) h' := by
  have hP : sPrefix [.str s] = some (.int .i64 (prefixF s)) := if_pos (by omega)
  obtain ⟨u, h', rfl, hsem⟩ := sem_vc mixed (C := CP s) tbP_ok (tbS_q _ _) (tbW_ok rfl) htz5 cz5 (one_part rfl (part_loop (id := 7) rfl rfl fun st K hT => by
    obtain ⟨rfl, hl, hk⟩ := hT
    refine W_mono (loopP s hl) fun e st he => ?_
    obtain ⟨rfl, rfl⟩ := he
    exact hk)) (vP s fun u _ => u = .bool true) (by
    refine ⟨_, hP, true, live_at [], askT rfl ⟨_, hP, askF (by simp) (askI (fun _ => rfl) fun g => ?_)⟩⟩
    simp only [decide_eq_false_iff_not] at g
    have w1 : IntKind.wrap .i64 ((s.length : Int) + 1) = (s.length : Int) + 1 := by rw [IntKind.wrap_i64]; omega
    rw [w1]
    exact ⟨rfl, by omega, rfl⟩)
  exact ⟨h', hsem⟩
end Go.Proofs.YtddalcnajejibaaDoor
