/- The contracts of Parent, Around and Within. -/
import Derived.Test.YtcigcknagbjlbaaDoorPaE
namespace Go.Proofs.YtcigcknagbjlbaaDoor
open Go Go.Am
set_option maxRecDepth 100000
set_option linter.unusedVariables false
set_option linter.unusedSimpArgs false

theorem sound_all {L : List Sc} : ∀ (f i : Nat), soundFrom L f i = true → ∀ j, i ≤ j → j < i + f → soundAt L j = true
  | 0, i, _, j, h1, h2 => by omega
  | f + 1, i, h, j, h1, h2 => by
    simp only [soundFrom, Bool.and_eq_true] at h
    by_cases hj : j = i
    · subst hj; exact h.1
    · exact sound_all f (i + 1) h.2 j (by omega) (by omega)
theorem sound_at {L : List Sc} (h : soundF L = true) {i : Nat} (hi : i < L.length) : soundAt L i = true := sound_all L.length 0 h i (by omega) (by omega)
/-- What a row that may be is like. -/
theorem check_facts {L : List Sc} {r : Rw} (h : checkF L r = true) : soundF L = true ∧ 0 ≤ r.s ∧ r.s < L.length ∧ idOk (dep L r.s) 0 r.a = true ∧ idOk (dep L r.s) 1 r.b = true ∧ idOk (dep L r.s) 2 r.c = true := by
  unfold checkF at h
  simp only [Bool.and_eq_true, Bool.not_eq_true', decide_eq_false_iff_not] at h
  obtain ⟨⟨⟨⟨⟨h1, h2⟩, h3⟩, h4⟩, h5⟩, h6⟩ := h
  exact ⟨h1, by omega, by omega, h4, h5, h6⟩
theorem dep_range {L : List Sc} (h : soundF L = true) {i : Int} (h0 : 0 ≤ i) (hi : i < L.length) : 1 ≤ dep L i ∧ dep L i ≤ 4 := by
  have hs := sound_at h (i := i.toNat) (by omega)
  unfold soundAt at hs
  unfold dep
  cases hq : L[i.toNat]? with
  | none => rw [hq] at hs; cases hs
  | some s =>
    rw [hq] at hs
    simp only [Bool.and_eq_true, Bool.not_eq_true', decide_eq_false_iff_not] at hs
    exact ⟨by simp only; omega, by simp only; omega⟩

theorem sub7 : ∀ g ∈ [6], ∀ s, qAll g = some s → QuietOK Tryd.prog g s := by
  intro g hg s hs
  simp only [List.mem_cons, List.not_mem_nil, or_false] at hg
  subst hg; cases hs
  exact check_ok
theorem zr_av : AV.agg [.int .i64 0, .int .i64 0, .int .i64 0, .int .i64 0] = zr.av := rfl
theorem parent_ok : QuietOK Tryd.prog 7 (secS F7) := sec_ok ht7
  (fun L n c rest v hn hn2 hr hv => by
    unfold F7 at hv
    split at hv <;> cases hv
    rename_i s a b c'
    refine ⟨rfl, ?_⟩
    have hw := (v7 L n c s a b c' fun u _ => u = .tup [(parentF (L.take n) ⟨s, a, b, c'⟩).1.av, .bool (parentF (L.take n) ⟨s, a, b, c'⟩).2]).mp (by
      have hl : (L.take n).length = n := by rw [List.length_take, Nat.min_eq_left hn]
      simp only [partR_none, cellsAt_ro, Option.bind_some, Nat.zero_add]
      by_cases hcf : checkF (L.take n) ⟨s, a, b, c'⟩ = true
      · obtain ⟨f1, f2, f3, -⟩ := check_facts hcf
        simp only [hl] at f2 f3
        obtain ⟨q, hq⟩ : ∃ q, L[s.toNat]? = some q := ⟨L[s.toNat]'(by omega), List.getElem?_eq_getElem _⟩
        have hd : dep (L.take n) s = q.d := by unfold dep; rw [at_take (by omega), hq]
        have hp : par (L.take n) s = q.p := by unfold par; rw [at_take (by omega), hq]
        have hr := dep_range f1 f2 (by rw [hl]; exact f3)
        rw [hd] at hr
        have k1 : decide (0 ≤ s) = true := by simp; omega
        have k2 : decide (s < (n : Int)) = true := by simp; omega
        simp only [k1, k2, chk_true]
        refine ⟨0, by rw [secS_at rfl hn hn2 rfl]; simp [F6, errOf, hcf], ?_⟩
        refine ⟨q.d, cellD hq, askI (fun h => ?_) (fun h => ?_)⟩
        · have : parentF (L.take n) ⟨s, a, b, c'⟩ = (zr, false) := by unfold parentF; simp only [hcf, hd, h, Bool.not_true, Bool.and_false, Bool.false_eq_true, if_false]
          rw [this]; rfl
        · have hpf : parentF (L.take n) ⟨s, a, b, c'⟩ = (upF (L.take n) ⟨s, a, b, c'⟩, true) := by unfold parentF; simp only [hcf, hd, h, Bool.not_false, Bool.and_true, if_true]
          have hne : q.d ≠ 1 := by simpa using h
          rw [hpf]
          unfold upF
          simp only [hd, hp]
          have hcell := cellD hq
          have hcp := cellP hq
          refine ⟨q.d, ?_⟩
          rcases (show q.d = 2 ∨ q.d = 3 ∨ q.d = 4 by omega) with e | e | e <;> rw [e] at hcell ⊢
          · exact ⟨hcell, q.p, hcp, rfl⟩
          · exact ⟨hcell, q.p, hcp, rfl⟩
          · exact ⟨hcell, q.p, hcp, rfl⟩
      · have hcf : checkF (L.take n) ⟨s, a, b, c'⟩ = false := by simpa using hcf
        refine ⟨150, by rw [secS_at rfl hn hn2 rfl]; simp [F6, errOf, hcf], ?_⟩
        have : parentF (L.take n) ⟨s, a, b, c'⟩ = (zr, false) := by unfold parentF; simp only [hcf, Bool.false_and, Bool.false_eq_true, if_false]
        rw [this]; rfl)
    obtain ⟨u, h', rfl, hs⟩ := sem_wp mixed (C := CS [6] kd7) (SS_ok sub7) (SS_q _) (cwP_ok _) ht7 c7 (no_parts rfl) hw
    exact ⟨h', hs⟩)
  (fun rest v hr hv => by
    unfold F7 at hv
    split at hv <;> cases hv
    rename_i s a b c'
    have hpf : parentF [] ⟨s, a, b, c'⟩ = (zr, false) := by unfold parentF; simp only [check_nil, Bool.false_and, Bool.false_eq_true, if_false]
    rw [hpf]
    refine ⟨rfl, ?_⟩
    have hw := (v7n s a b c' fun u _ => u = .tup [zr.av, .bool false]).mp ⟨by rw [check_nil]; rfl, rfl⟩
    obtain ⟨u, h', rfl, hs⟩ := sem_wp mixed (C := CN [6]) (SS_ok sub7) (SS_q _) (cwN_ok _) ht7 c7 (no_parts rfl) hw
    exact ⟨h', hs⟩)
end Go.Proofs.YtcigcknagbjlbaaDoor
