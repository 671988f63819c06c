/- The contract of Within; what is within what; the law's walk. -/
import Derived.Test.YtcigcknagbjlbaaDoorPaG
namespace Go.Proofs.YtcigcknagbjlbaaDoor
open Go Go.Am
set_option maxRecDepth 100000
set_option linter.unusedVariables false
set_option linter.unusedSimpArgs false

theorem sub5 : ∀ g ∈ [6, 11], ∀ s, qAll g = some s → QuietOK Tryd.prog g s := by
  intro g hg s hs
  simp only [List.mem_cons, List.not_mem_nil, or_false] at hg
  rcases hg with rfl | rfl <;> cases hs
  · exact check_ok
  · exact around_ok
theorem rw_eq (x o : Rw) : (x.s == o.s && (x.a == o.a && (x.b == o.b && (x.c == o.c && true)) && true)) = decide (x = o) := by
  rw [Bool.eq_iff_iff]
  simp only [Bool.and_true, Bool.and_eq_true, beq_iff_eq, decide_eq_true_eq]
  constructor
  · rintro ⟨h1, h2, h3, h4⟩; cases x; cases o; simp_all
  · rintro rfl; simp
theorem within_ok : QuietOK Tryd.prog 5 (secS F5) := sec_ok ht5
  (fun L n c rest v hn hn2 hr hv => by
    unfold F5 at hv
    split at hv <;> cases hv
    rename_i s a b c' s' a' b' c''
    refine ⟨rfl, ?_⟩
    have hw := (v5 L n c ⟨s, a, b, c'⟩ ⟨s', a', b', c''⟩ fun u _ => u = .bool (withinF (L.take n) ⟨s, a, b, c'⟩ ⟨s', a', b', c''⟩)).mp (by
      cases har : aroundF (L.take n) ⟨s, a, b, c'⟩ s' with
      | none =>
        have hF : withinF (L.take n) ⟨s, a, b, c'⟩ ⟨s', a', b', c''⟩ = false := by unfold withinF; simp only [har]
        rw [hF]
        exact ⟨0, 0, 0, 0, false, by rw [secS_at rfl hn hn2 rfl]; simp only [F11, har]; rfl, rfl⟩
      | some x =>
        have hF : withinF (L.take n) ⟨s, a, b, c'⟩ ⟨s', a', b', c''⟩ = (decide (x = ⟨s', a', b', c''⟩) && checkF (L.take n) ⟨s', a', b', c''⟩) := by unfold withinF; simp only [har]
        rw [hF]
        refine ⟨x.s, x.a, x.b, x.c, true, by rw [secS_at rfl hn hn2 rfl]; simp only [F11, har]; rfl, ?_⟩
        rw [ask_true, rw_eq x ⟨s', a', b', c''⟩]
        refine askI (fun h => ?_) (fun h => by rw [h]; rfl)
        rw [h]
        cases hcf : checkF (L.take n) ⟨s', a', b', c''⟩ with
        | true => exact ⟨0, by rw [secS_at rfl hn hn2 rfl]; simp [F6, errOf, hcf], rfl⟩
        | false => exact ⟨150, by rw [secS_at rfl hn hn2 rfl]; simp [F6, errOf, hcf], rfl⟩)
    obtain ⟨u, h', rfl, hs⟩ := sem_wp mixed (C := CS [6, 11] kdI) (SS_ok sub5) (SS_q _) (cwP_ok _) ht5 c5 (no_parts rfl) hw
    exact ⟨h', hs⟩)
  (fun rest v hr hv => by
    unfold F5 at hv
    split at hv <;> cases hv
    rename_i s a b c' s' a' b' c''
    have hF : withinF [] ⟨s, a, b, c'⟩ ⟨s', a', b', c''⟩ = false := by unfold withinF; simp only [around_nil]
    rw [hF]
    refine ⟨rfl, ?_⟩
    have hw := (v5n ⟨s, a, b, c'⟩ ⟨s', a', b', c''⟩ fun u _ => u = .bool false).mp ⟨by rw [secS_nil rfl]; simp only [F11, around_nil]; rfl, rfl⟩
    obtain ⟨u, h', rfl, hs⟩ := sem_wp mixed (C := CN [6, 11]) (SS_ok sub5) (SS_q _) (cwN_ok _) ht5 c5 (no_parts rfl) hw
    exact ⟨h', hs⟩)

/-! ### The plain law -/
/-- Going up, as long as there is a row around. -/
theorem around_up {L : List Sc} {q : Int} : ∀ (f : Nat) (r : Rw) (x : Rw), checkF L r = true → aroundG L q f r true = some x → checkF L x = true ∧ x.s = q ∧ (x = r ∨ x.s < r.s)
  | 0, r, x, _, h => by simp [aroundG] at h
  | f + 1, r, x, hc, h => by
    simp only [aroundG, if_true] at h
    split at h
    · rename_i he; cases h; exact ⟨hc, by simpa using he, .inl rfl⟩
    · cases hp : (parentF L r).2 with
      | false =>
        rw [hp] at h
        cases f <;> simp [aroundG] at h
      | true =>
        rw [hp] at h
        obtain ⟨p1, p2, p3⟩ := parent_facts hc hp
        obtain ⟨q1, q2, q3⟩ := around_up f _ x p1 h
        refine ⟨q1, q2, .inr ?_⟩
        rcases q3 with rfl | q3
        · exact p3
        · omega
/-- More rounds come to the same. -/
theorem around_more {L : List Sc} {q : Int} : ∀ (f g : Nat) (r : Rw), checkF L r = true → r.s + 2 ≤ (f : Int) → r.s + 2 ≤ (g : Int) → aroundG L q f r true = aroundG L q g r true
  | 0, g, r, hc, h1, h2 => by obtain ⟨-, g2, -⟩ := check_facts hc; omega
  | f + 1, 0, r, hc, h1, h2 => by obtain ⟨-, g2, -⟩ := check_facts hc; omega
  | f + 1, g + 1, r, hc, h1, h2 => by
    obtain ⟨-, g2, -⟩ := check_facts hc
    simp only [aroundG, if_true]
    split
    · rfl
    · cases hp : (parentF L r).2 with
      | false =>
        obtain ⟨f, rfl⟩ : ∃ m, f = m + 1 := ⟨f - 1, by omega⟩
        obtain ⟨g, rfl⟩ : ∃ m, g = m + 1 := ⟨g - 1, by omega⟩
        simp [aroundG]
      | true =>
        obtain ⟨p1, p2, p3⟩ := parent_facts hc hp
        exact around_more f g _ p1 (by omega) (by omega)
theorem around_trans {L : List Sc} {q s : Int} : ∀ (f : Nat) (a b : Rw), checkF L a = true → a.s + 2 ≤ (f : Int) → aroundG L q f a true = some b → s ≤ b.s → aroundG L s f a true = aroundG L s f b true
  | 0, a, b, hc, h1, h, hs => by simp [aroundG] at h
  | f + 1, a, b, hc, h1, h, hs => by
    obtain ⟨b1, b2, b3⟩ := around_up (f + 1) a b hc h
    obtain ⟨-, ga, -⟩ := check_facts hc
    obtain ⟨-, gb, -⟩ := check_facts b1
    have h' := h
    simp only [aroundG, if_true] at h'
    split at h'
    · cases h'; rfl
    · cases hp : (parentF L a).2 with
      | false =>
        rw [hp] at h'
        cases f <;> simp [aroundG] at h'
      | true =>
        rw [hp] at h'
        obtain ⟨p1, p2, p3⟩ := parent_facts hc hp
        have ih := around_trans f _ b p1 (by omega) h' hs
        obtain ⟨u1, u2, u3⟩ := around_up f _ b p1 h'
        have hlt : b.s < a.s := by
          rcases u3 with e | e
          · rw [e]; exact p3
          · omega
        have hne : (a.s == s) = false := by simp; omega
        have e1 : aroundG L s (f + 1) a true = aroundG L s f (parentF L a).1 true := by
          simp only [aroundG, if_true, hne, Bool.false_eq_true, if_false, hp]
        rw [e1, ih]
        exact around_more f (f + 1) b b1 (by omega) (by omega)
/-- What is within a row that is within a third one is within that. -/
theorem within_trans {L : List Sc} {a b c : Rw} (h1 : withinF L a b = true) (h2 : withinF L b c = true) : withinF L a c = true := by
  unfold withinF at h1 h2 ⊢
  cases ha : aroundF L a b.s with
  | none => rw [ha] at h1; cases h1
  | some x =>
    rw [ha] at h1
    simp only [Bool.and_eq_true, decide_eq_true_eq] at h1
    obtain ⟨rfl, hcx⟩ := h1
    cases hb : aroundF L x c.s with
    | none => rw [hb] at h2; cases h2
    | some y =>
      rw [hb] at h2
      simp only [Bool.and_eq_true, decide_eq_true_eq] at h2
      obtain ⟨rfl, hcy⟩ := h2
      have hca : checkF L a = true := by
        cases h : checkF L a with
        | true => rfl
        | false => unfold aroundF at ha; rw [h] at ha; simp [aroundG] at ha
      unfold aroundF at ha hb ⊢
      rw [hca] at ha ⊢
      rw [hcx] at hb
      obtain ⟨-, a2, a3, -⟩ := check_facts hca
      obtain ⟨q1, q2, q3⟩ := around_up _ _ _ hcx hb
      have hle : y.s ≤ x.s := by
        rcases q3 with e | e
        · rw [e]; exact Int.le_refl _
        · omega
      rw [around_trans (s := y.s) (L.length + 1) a x hca (by omega) ha hle, hb]
      simp [hcy]
theorem within_self {L : List Sc} (a : Rw) : withinF L a a = checkF L a := by
  unfold withinF aroundF
  cases h : checkF L a with
  | true => simp [aroundG]
  | false => simp [aroundG]

/-! ### The law's walk -/
theorem sub3 : ∀ g ∈ [4, 5, 6], ∀ s, qAll g = some s → QuietOK Tryd.prog g s := by
  intro g hg s hs
  simp only [List.mem_cons, List.not_mem_nil, or_false] at hg
  rcases hg with rfl | rfl | rfl <;> cases hs
  · exact live_ok
  · exact within_ok
  · exact check_ok
theorem cut_eq (n : Nat) : (if false = true then if 100 > (n : Int) then 100 else (n : Int) else if 100 < (n : Int) then 100 else (n : Int)) = ((min n 100 : Nat) : Int) := by
  rw [if_neg (by simp)]
  split <;> omega
def pairV (l : AV) (a b : Rw) (x y : Int) : AV := .agg [l, .int .i64 a.s, .int .i64 a.a, .int .i64 a.b, .int .i64 a.c, .int .i64 b.s, .int .i64 b.a, .int .i64 b.b, .int .i64 b.c, .int .i64 x, .int .i64 y]
theorem law_run (L : List Sc) (n c : Nat) (hn : n ≤ L.length) (a b r : Rw) (x y : Int) : ∃ h', CallSem Tryd.prog 3 [pairV (slL n c) a b x y, r.av] (hL L) (.bool true) h' := by
  have hw := (v3 L n c a b r x y fun u _ => u = .bool true).mp (by
    rw [cut_eq]
    have m1 : min n 100 ≤ L.length := by omega
    have m2 : min n 100 ≤ 100 := by omega
    simp only [Int.toNat_natCast]
    refine chkI (by simp) (chkI (by simp; omega) ?_)
    refine ⟨withinF (L.take (min n 100)) a b, secS_at rfl m1 m2 rfl, ?_⟩
    have hself : withinF (L.take (min n 100)) a a = checkF (L.take (min n 100)) a := within_self a
    have fin : ∀ h : AHeap, h[0]? = some (.ro (cellsOf L)) → ∃ b_4, secS F5 [slL (min n 100) c, a.av, a.av] h = some (.bool b_4) ∧ ∃ b_5, secS F6 [slL (min n 100) c, a.av] h = some (.int .i64 b_5) ∧ (b_5 == 0) = b_4 := fun h hh => by
      refine ⟨checkF (L.take (min n 100)) a, by rw [secS_at hh m1 m2 rfl]; simp only [F5, Rw.av]; rw [← hself], (if checkF (L.take (min n 100)) a then 0 else 150), by rw [secS_at hh m1 m2 rfl]; rfl, ?_⟩
      cases checkF (L.take (min n 100)) a <;> rfl
    have tail : ∀ h : AHeap, h[0]? = some (.ro (cellsOf L)) → ∃ b_4, secS F5 [slL (min n 100) c, a.av, a.av] h = some (.bool b_4) ∧ askB b_4 (∃ b_5, secS F6 [slL (min n 100) c, a.av] h = some (.int .i64 b_5) ∧ askB (b_5 == 0) True (AV.bool false = .bool true)) (∃ b_5, secS F6 [slL (min n 100) c, a.av] h = some (.int .i64 b_5) ∧ askB (b_5 == 0) (AV.bool false = .bool true) True) := fun h hh => by
      obtain ⟨b4, h1, b5, h2, h3⟩ := fin h hh
      exact ⟨b4, h1, askI (fun e => ⟨b5, h2, by rw [h3, e]; exact trivial⟩) (fun e => ⟨b5, h2, by rw [h3, e]; exact trivial⟩)⟩
    refine askI (fun e1 => ?_) (fun e1 => by
      refine tail _ ?_
      rfl)
    refine ⟨withinF (L.take (min n 100)) b r, secS_at rfl m1 m2 rfl, ?_⟩
    refine askI (fun e2 => ?_) (fun e2 => by
      refine tail _ ?_
      rfl)
    refine ⟨withinF (L.take (min n 100)) a r, secS_at rfl m1 m2 rfl, ?_⟩
    rw [within_trans e1 e2]
    refine tail _ ?_
    rfl)
  obtain ⟨u, h', rfl, hs⟩ := sem_wp mixed (C := CS [4, 5, 6] kdI) (SS_ok sub3) (SS_q _) (cwP_ok _) ht3 c3 (no_parts rfl) hw
  exact ⟨h', hs⟩
theorem law_nil (a b r : Rw) (x y : Int) : ∃ h', CallSem Tryd.prog 3 [pairV slN a b x y, r.av] [] (.bool true) h' := by
  have hnil : ∀ a b, withinF [] a b = false := fun a b => by unfold withinF; simp only [around_nil]
  obtain ⟨u, h', rfl, hs⟩ := sem_vc mixed (C := CN [4, 5, 6]) (SS_ok sub3) (SS_q _) (cwN_ok _) ht3 c3 (no_parts rfl) (v3n a b r x y fun u _ => u = .bool true) ⟨congrArg (fun b => some (AV.bool b)) (hnil _ _), congrArg (fun b => some (AV.bool b)) (hnil _ _), congrArg (fun b => some (errOf b)) (check_nil _), rfl⟩
  exact ⟨h', hs⟩
end Go.Proofs.YtcigcknagbjlbaaDoor
