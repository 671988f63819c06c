/- The contracts of Around and Within. -/
import Derived.Test.YtcigcknagbjlbaaDoorPaF
namespace Go.Proofs.YtcigcknagbjlbaaDoor
open Go Go.Am
set_option maxRecDepth 100000
set_option linter.unusedVariables false
set_option linter.unusedSimpArgs false

/-- The row around one that may be may be, and its section stands ahead. -/
theorem up_check {L : List Sc} {r : Rw} (h : checkF L r = true) (hd : dep L r.s ≠ 1) : checkF L (upF L r) = true ∧ 0 ≤ (upF L r).s ∧ (upF L r).s < r.s := by
  obtain ⟨f1, f2, f3, f4, f5, f6⟩ := check_facts h
  have hr := dep_range f1 f2 f3
  have hs := sound_at f1 (i := r.s.toNat) (by omega)
  obtain ⟨q, hq⟩ : ∃ q, L[r.s.toNat]? = some q := ⟨L[r.s.toNat]'(by omega), List.getElem?_eq_getElem _⟩
  have hdq : dep L r.s = q.d := by unfold dep; rw [hq]
  have hpq : par L r.s = q.p := by unfold par; rw [hq]
  unfold soundAt at hs
  rw [hq] at hs
  simp only [Bool.and_eq_true, Bool.not_eq_true', decide_eq_false_iff_not] at hs
  obtain ⟨-, hs⟩ := hs
  split at hs
  · exfalso
    simp only [Bool.and_eq_true, Bool.not_eq_true', bne_eq_false_iff_eq] at hs
    exact hd (by rw [hdq]; exact hs.2)
  · simp only [Bool.and_eq_true, Bool.not_eq_true', decide_eq_false_iff_not, bne_eq_false_iff_eq] at hs
    obtain ⟨⟨p0, p1⟩, p2⟩ := hs
    have hrp := dep_range f1 (i := q.p) (by omega) (by omega)
    have hw : IntKind.i64.wrap (dep L q.p + 1) = dep L q.p + 1 := by rw [IntKind.wrap_i64]; omega
    rw [hw] at p2
    have hdp : dep L q.p = dep L r.s - 1 := by rw [hdq]; omega
    have hus : (upF L r).s = q.p := by
      unfold upF
      split <;> exact hpq
    refine ⟨?_, by rw [hus]; omega, by rw [hus]; omega⟩
    unfold checkF
    rw [hus, hdp, f1]
    have e1 : decide (q.p < 0) = false := by simp; omega
    have e2 : decide (q.p ≥ (L.length : Int)) = false := by simp; omega
    rw [e1, e2]
    simp only [Bool.not_false, Bool.and_true, Bool.true_and]
    unfold upF
    rcases (show dep L r.s = 2 ∨ dep L r.s = 3 ∨ dep L r.s = 4 by omega) with e | e | e <;> rw [e] at f4 f5 f6 ⊢
    · simp only [idOk] at f4 f5 f6 ⊢
      have w1 : IntKind.i64.wrap (2 - 1) = 1 := by decide
      have w0 : IntKind.i64.wrap ((2 : Int) - 1 - 1) = 0 := by decide
      rw [w1] at f4 f5 f6
      rw [w0]
      simp at f4 f5 f6 ⊢
      exact ⟨f5, f6⟩
    · simp only [idOk] at f4 f5 f6 ⊢
      have w1 : IntKind.i64.wrap (3 - 1) = 2 := by decide
      have w0 : IntKind.i64.wrap ((3 : Int) - 1 - 1) = 1 := by decide
      rw [w1] at f4 f5 f6
      rw [w0]
      simp at f4 f5 f6 ⊢
      exact ⟨f4, f6⟩
    · simp only [idOk] at f4 f5 f6 ⊢
      have w1 : IntKind.i64.wrap (4 - 1) = 3 := by decide
      have w0 : IntKind.i64.wrap ((4 : Int) - 1 - 1) = 2 := by decide
      rw [w1] at f4 f5 f6
      rw [w0]
      simp at f4 f5 f6 ⊢
      exact ⟨f4, f5⟩
theorem parent_facts {L : List Sc} {r : Rw} (h : checkF L r = true) (hp : (parentF L r).2 = true) : checkF L (parentF L r).1 = true ∧ 0 ≤ (parentF L r).1.s ∧ (parentF L r).1.s < r.s := by
  have hne : dep L r.s ≠ 1 := fun e => by
    unfold parentF at hp
    simp [h, e] at hp
  have e : parentF L r = (upF L r, true) := by
    unfold parentF
    have : (dep L r.s == 1) = false := by simpa using hne
    simp [h, this]
  rw [e]
  exact up_check h hne

/-- What Around's loop comes to. -/
def K11 (L : List Sc) (n : Nat) (q : Int) (s : Nat × Rw × Bool) (e : AExit) (st : St) : Prop := (e, st) = match aroundG (L.take n) q s.1 s.2.1 s.2.2 with
  | some x => (AExit.ret, e11 L x true)
  | none => (AExit.exit 0, e11 L zr false)
theorem sub11 : ∀ g ∈ [6, 7], ∀ s, qAll g = some s → QuietOK Tryd.prog g s := by
  intro g hg s hs
  simp only [List.mem_cons, List.not_mem_nil, or_false] at hg
  rcases hg with rfl | rfl <;> cases hs
  · exact check_ok
  · exact parent_ok
theorem loop11 (L : List Sc) (n c : Nat) (q : Int) (r0 : Rw) (hn : n ≤ L.length) (hn2 : n ≤ 100) : ∀ s : Nat × Rw × Bool, ((s.2.2 = true → checkF (L.take n) s.2.1 = true) ∧ (if s.2.2 = true then s.2.1.s + 2 else 1) ≤ (s.1 : Int)) →
    W Tryd.prog (C11 L n c q r0).S (C11 L n c q r0).b0 (.inl (.loop p11_l0)) (st11 L n c q s.2.1 s.2.2) (K11 L n q s) := by
  refine W_rounds (C := C11 L n c q r0) (P := Tryd.prog) (cwP_ok _) (a := p11_l0) (no_parts rfl) (fun s : Nat × Rw × Bool => st11 L n c q s.2.1 s.2.2) _ (fun s => s.1) (K11 L n q) t11 x11 ?_
  rintro ⟨f, r, ok⟩ ⟨hI, hf⟩
  refine ⟨30, (v11b L n c q r r0 ok _).mp ?_⟩
  simp only [hclL, chk_true]
  simp only at hI hf
  cases ok with
  | false =>
    obtain ⟨f, rfl⟩ : ∃ m, f = m + 1 := ⟨f - 1, by simp at hf; omega⟩
    exact (rfl : K11 L n q (f + 1, r, false) (.exit 0) (e11 L zr false))
  | true =>
    have hc := hI rfl
    obtain ⟨g1, g2, g3, -⟩ := check_facts hc
    simp only [if_true] at hf
    obtain ⟨f, rfl⟩ : ∃ m, f = m + 1 := ⟨f - 1, by omega⟩
    rw [ask_true]
    refine askI (fun h => ?_) (fun h => ?_)
    · show K11 L n q (f + 1, r, true) .ret (e11 L r true)
      unfold K11
      simp only [aroundG, if_true, h]
    · have hK : ∀ e st, K11 L n q (f, (parentF (L.take n) r).1, (parentF (L.take n) r).2) e st → K11 L n q (f + 1, r, true) e st := fun e st hk => by
        unfold K11 at hk ⊢
        simp only [aroundG, if_true, h, Bool.false_eq_true, if_false] at hk ⊢
        exact hk
      refine ⟨(parentF (L.take n) r).1.s, (parentF (L.take n) r).1.a, (parentF (L.take n) r).1.b, (parentF (L.take n) r).1.c, (parentF (L.take n) r).2, by rw [secS_at rfl hn hn2 rfl]; rfl, ?_⟩
      have hp := parent_facts hc
      obtain ⟨pr, hpr⟩ : ∃ pr, parentF (L.take n) r = pr := ⟨_, rfl⟩
      rw [hpr] at hK hp ⊢
      obtain ⟨pr, ok'⟩ := pr
      simp only at hK hp ⊢
      refine askI (fun h2 => ?_) (fun h2 => ?_)
      · subst h2
        obtain ⟨p1, p2, p3⟩ := hp rfl
        exact ⟨(f, pr, true), rfl, ⟨fun _ => p1, by simp only [if_true]; omega⟩, by simp, hK⟩
      · subst h2
        exact ⟨(f, pr, false), rfl, ⟨fun h => (by cases h), (by simp only [Bool.false_eq_true, if_false]; omega)⟩, by simp, hK⟩
theorem around_nil (r : Rw) (q : Int) : aroundF [] r q = none := by
  unfold aroundF aroundG
  rw [check_nil]; rfl
theorem around_ok : QuietOK Tryd.prog 11 (secS F11) := sec_ok ht11
  (fun L n c rest v hn hn2 hr hv => by
    unfold F11 at hv
    split at hv
    · rename_i s a b c' q
      have hl : (L.take n).length = n := by rw [List.length_take, Nat.min_eq_left hn]
      obtain ⟨res, hres⟩ : ∃ res, res = (match aroundF (L.take n) ⟨s, a, b, c'⟩ q with | some x => AV.tup [x.av, .bool true] | none => AV.tup [zr.av, .bool false]) := ⟨_, rfl⟩
      have hv' : v = res := by rw [hres]; split at hv <;> cases hv <;> rename_i h <;> rw [h]
      subst hv'
      refine ⟨by rw [hres]; split <;> rfl, ?_⟩
      have hw := (v11 L n c q ⟨s, a, b, c'⟩ fun u _ => u = v).mp (by
        simp only [hclL, chk_true]
        have body : ∀ ok : Bool, ok = checkF (L.take n) ⟨s, a, b, c'⟩ → ∃ x found, ((found, x) = match aroundG (L.take n) q ((L.take n).length + 1) ⟨s, a, b, c'⟩ ok with | some x => (true, x) | none => (false, zr)) ∧ askB found (AV.tup [AV.agg [AV.int .i64 (Rw.s x), AV.int .i64 (Rw.a x), AV.int .i64 (Rw.b x), AV.int .i64 (Rw.c x)], AV.bool true] = v) (AV.tup [AV.agg [AV.int .i64 0, AV.int .i64 0, AV.int .i64 0, AV.int .i64 0], AV.bool false] = v) := fun ok hok => by
          have e : aroundF (L.take n) ⟨s, a, b, c'⟩ q = aroundG (L.take n) q ((L.take n).length + 1) ⟨s, a, b, c'⟩ ok := by rw [hok]; rfl
          rw [e] at hres
          cases hg : aroundG (L.take n) q ((L.take n).length + 1) ⟨s, a, b, c'⟩ ok with
          | some x => rw [hg] at hres; exact ⟨x, true, rfl, by rw [hres]; rfl⟩
          | none => rw [hg] at hres; exact ⟨zr, false, rfl, by rw [hres]; rfl⟩
        cases hcf : checkF (L.take n) ⟨s, a, b, c'⟩ with
        | true => exact ⟨0, by rw [secS_at rfl hn hn2 rfl]; simp [F6, errOf, hcf], true, fun _ => rfl, rfl, body true hcf.symm⟩
        | false => exact ⟨150, by rw [secS_at rfl hn hn2 rfl]; simp [F6, errOf, hcf], false, fun h => (by cases h), rfl, body false hcf.symm⟩)
      obtain ⟨u, h', rfl, hs⟩ := sem_wp mixed (C := C11 L n c q ⟨s, a, b, c'⟩) (SS_ok sub11) (SS_q _) (cwP_ok _) ht11 c11 (one_part rfl (part_loop (id := 2) rfl rfl fun st K hT => by
        obtain ⟨ok, hI, rfl, x, found, hx, hk⟩ := hT
        refine W_mono (loop11 L n c q ⟨s, a, b, c'⟩ hn hn2 ((L.take n).length + 1, ⟨s, a, b, c'⟩, ok) ⟨hI, ?_⟩) fun e st' he => ?_
        · cases ok with
          | true => obtain ⟨-, g2, g3, -⟩ := check_facts (hI rfl); simp only [if_true] at g2 g3 ⊢; omega
          | false => simp only [Bool.false_eq_true, if_false]; omega
        · unfold K11 at he
          simp only at he
          revert hx he
          cases aroundG (L.take n) q ((L.take n).length + 1) ⟨s, a, b, c'⟩ ok with
          | some y => intro hx he; cases hx; cases he; exact hk
          | none => intro hx he; cases hx; cases he; exact hk)) hw
      exact ⟨h', hs⟩
    · cases hv)
  (fun rest v hr hv => by
    unfold F11 at hv
    split at hv
    · rename_i s a b c' q
      rw [around_nil] at hv
      cases hv
      refine ⟨rfl, ?_⟩
      have hw := (v11n s a b c' q fun u _ => u = .tup [zr.av, .bool false]).mp ⟨by rw [check_nil]; rfl, rfl⟩
      obtain ⟨u, h', rfl, hs⟩ := sem_wp mixed (C := CN [6, 7]) (SS_ok sub11) (SS_q _) (cwN_ok _) ht11 c11 (one_part rfl (by intro T st K hT; cases hT)) hw
      exact ⟨h', hs⟩
    · cases hv)
end Go.Proofs.YtcigcknagbjlbaaDoor
