/- The contracts of id, sound and Check. -/
import Derived.Test.YtcigcknagbjlbaaDoorPaD
namespace Go.Proofs.YtcigcknagbjlbaaDoor
open Go Go.Am
set_option maxRecDepth 100000
set_option linter.unusedVariables false
set_option linter.unusedSimpArgs false

theorem id_ok : QuietOK Tryd.prog 13 idS := quiet_plain ht13 (s := fun args => idS args []) fun args v hv => by
  unfold idS at hv
  split at hv
  · rename_i n
    cases hv
    refine ⟨rfl, rfl, ?_⟩
    have hw := (v13 n fun u _ => u = .bool (idB n)).mp (askI (fun h1 => askI (fun h2 => by simp [idB, h1, h2]) (fun h2 => by simp [idB, h1, h2])) (fun h1 => by simp [idB, h1]))
    obtain ⟨u, h', rfl, hs⟩ := sem_wp mixed (C := CN []) (SS_ok (by simp)) (SS_q _) (cwN_ok _) ht13 c13 (by intro x hx; cases hx) hw
    exact ⟨h', hs⟩
  · cases hv

theorem hclL (L : List Sc) : objClosed (.ro (cellsOf L)) = true := cells_closed L
theorem partR_none (cs : List AV) (o : Nat) : partR none cs o = cs[o]? := rfl
theorem cellsAt_ro (cs : List AV) (t : AHeap) : cellsAt (.ro cs :: t) 0 = some cs := rfl
theorem cellP {L : List Sc} {i : Nat} {s : Sc} (h : L[i]? = some s) : (cellsOf L)[i * 5 + 0]? = some (.int .i64 s.p) := cell_at h (by omega)
theorem cellD {L : List Sc} {i : Nat} {s : Sc} (h : L[i]? = some s) : (cellsOf L)[i * 5 + 1]? = some (.int .i64 s.d) := cell_at h (by omega)
theorem part5 {L : List Sc} {i : Nat} {s : Sc} (h : L[i]? = some s) : partR (some 5) (cellsOf L) (0 + i * 5) = some (.agg s.cells) := by
  have hl := lt_len h
  show (if 0 + i * 5 + 5 ≤ (cellsOf L).length then some (AV.agg (((cellsOf L).drop (0 + i * 5)).take 5)) else none) = _
  rw [Nat.zero_add, if_pos (by rw [cells_length]; omega), cells_at h]
theorem at_take {L : List Sc} {i n : Nat} (hi : i < n) : (L.take n)[i]? = L[i]? := List.getElem?_take_of_lt hi

/-- What sound's loop comes to. -/
def K12 (L : List Sc) (n : Nat) (i : Nat) (e : AExit) (st : St) : Prop := (e, st) = if soundFrom (L.take n) (n - i) i then (AExit.exit 0, (envOf 52 [], hL L)) else (AExit.ret, (envOf 52 [(2, .bool false)], hL L))
theorem loop12 (L : List Sc) (n c : Nat) (hn : n ≤ L.length) (hb : n < 9223372036854775807) : ∀ i : Nat, i ≤ n → W Tryd.prog (C12 L n c).S (C12 L n c).b0 (.inl (.loop p12_l0)) (st12 L n c i) (K12 L n i) := by
  refine W_rounds (C := C12 L n c) (P := Tryd.prog) (fun _ _ _ _ _ h => by cases h) (a := p12_l0) (by intro x hx; cases hx) (fun i : Nat => st12 L n c i) (fun i => i ≤ n) (fun i => n - i) (K12 L n) t12 x12 ?_
  intro i hi
  refine ⟨30, (v12b L n c i _).mp ?_⟩
  simp only [hclL, chk_true, partR_none, cellsAt_ro, Option.bind_some, Nat.zero_add, Int.toNat_natCast]
  refine askI (fun h1 => ?_) (fun h1 => ?_)
  · have h1 : i < n := by simpa using h1
    obtain ⟨s, hs⟩ : ∃ s, L[i]? = some s := ⟨L[i]'(by omega), List.getElem?_eq_getElem _⟩
    have hst : (L.take n)[i]? = some s := by rw [at_take h1, hs]
    have hK : soundFrom (L.take n) (n - i) i = (soundAt (L.take n) i && soundFrom (L.take n) (n - (i + 1)) (i + 1)) := by
      rw [show n - i = (n - (i + 1)) + 1 by omega]; rfl
    have hbad : soundAt (L.take n) i = false → K12 L n i .ret (envOf 52 [(2, .bool false)], hL L) := fun h => by
      unfold K12; rw [hK, h]; rfl
    have hgood : soundAt (L.take n) i = true → ∃ s', ((envOf 52 [(0, slL n c), (5, slL n c), (6, .int .i64 n), (7, .int .i64 (IntKind.i64.wrap (i + 1)))], [AObj.ro (cellsOf L)]) : St) = st12 L n c (s' : Nat) ∧ s' ≤ n ∧ n - s' < n - i ∧ ∀ e st, K12 L n s' e st → K12 L n i e st := fun h => by
      refine ⟨i + 1, ?_, by omega, by omega, fun e st hk => ?_⟩
      · rw [show IntKind.i64.wrap ((i : Int) + 1) = ((i + 1 : Nat) : Int) by rw [IntKind.wrap_i64]; omega]; rfl
      · unfold K12 at hk ⊢; rw [hK, h]; exact hk
    refine chkI (by simp) (chkI (by simpa using h1) ⟨s.p, s.d, s.nm, s.m, s.ia, s.il, s.ic, by have := part5 hs; rw [Nat.zero_add] at this; exact this, ?_⟩)
    have hsa : soundAt (L.take n) i = (!decide (s.d < 1) && !decide (s.d > 4) && (if ((i : Int) == 0) = true then !(s.p != -1) && !(s.d != 1) else !decide (s.p < 0) && !decide (s.p ≥ (i : Int)) && !(s.d != IntKind.i64.wrap (dep (L.take n) s.p + 1)))) := by
      unfold soundAt; rw [hst]
    refine askI (fun h2 => hbad (by rw [hsa, h2]; rfl)) (fun h2 => askI (fun h3 => hbad (by rw [hsa, h2, h3]; rfl)) (fun h3 => askI (fun h4 => ?_) (fun h4 => ?_)))
    · refine askI (fun h5 => hbad (by rw [hsa, h2, h3, h4, h5]; rfl)) (fun h5 => askI (fun h6 => hbad (by rw [hsa, h2, h3, h4, h5, h6]; rfl)) (fun h6 => ?_))
      exact hgood (by rw [hsa, h2, h3, h4, h5, h6]; rfl)
    · refine askI (fun h5 => hbad (by rw [hsa, h2, h3, h4, h5]; rfl)) (fun h5 => askI (fun h6 => hbad (by rw [hsa, h2, h3, h4, h5, h6]; rfl)) (fun h6 => ?_))
      simp only [decide_eq_false_iff_not] at h5 h6
      obtain ⟨q, hq⟩ : ∃ q, L[s.p.toNat]? = some q := ⟨L[s.p.toNat]'(by omega), List.getElem?_eq_getElem _⟩
      have hd : dep (L.take n) s.p = q.d := by unfold dep; rw [at_take (by omega), hq]
      refine chkI (by simp; omega) (chkI (by simp; omega) ⟨q.d, cellD hq, ?_⟩)
      rw [hd] at hsa
      have h5' : decide (s.p < 0) = false := by simpa using h5
      have h6' : decide (s.p ≥ (i : Int)) = false := by simpa using h6
      refine askI (fun h7 => hbad (by rw [hsa, h2, h3, h4, h5', h6', h7]; rfl)) (fun h7 => hgood (by rw [hsa, h2, h3, h4, h5', h6', h7]; rfl))
  · have h1 : i = n := by
      have : ¬ ((i : Int) < n) := by simpa using h1
      omega
    subst h1
    show K12 L i i (.exit 0) _
    unfold K12
    rw [Nat.sub_self]
    rfl

theorem part_loop {P : Program} {C : Cfg} {a : PC} {id : Nat} {T : St → (AExit → St → Prop) → Prop} (h1 : headId a = some id) (h2 : C.lw id = some T) (h3 : ∀ st K, T st K → W P C.S C.b0 (.inl (.loop a)) st K) : PartOK P C (.loop a) := by
  intro T' st K hT ht
  rw [h1, Option.bind_some, h2] at hT
  cases hT
  exact h3 st K ht
theorem no_parts {P : Program} {C : Cfg} {c : PC} (h : partsIn c = []) : ∀ x ∈ partsIn c, PartOK P C x := by
  intro x hx; rw [h] at hx; cases hx
theorem one_part {P : Program} {C : Cfg} {c a : PC} (h : partsIn c = [a]) (ha : PartOK P C a) : ∀ x ∈ partsIn c, PartOK P C x := by
  intro x hx; rw [h, List.mem_singleton] at hx; subst hx; exact ha

theorem sound_ok : QuietOK Tryd.prog 12 (secS F12) := sec_ok ht12
  (fun L n c rest v hn hn2 hr hv => by
    unfold F12 at hv
    split at hv <;> cases hv
    refine ⟨rfl, ?_⟩
    have hw := (v12 L n c fun u _ => u = .bool (soundF (L.take n))).mp (by
      simp only [hclL, chk_true]
      have e : soundF (L.take n) = soundFrom (L.take n) n 0 := by unfold soundF; rw [List.length_take, Nat.min_eq_left hn]
      refine ⟨trivial, ?_⟩
      rw [e]
      exact askI (fun h => by rw [h]) (fun h => by rw [h]))
    obtain ⟨u, h', rfl, hs⟩ := sem_wp mixed (C := C12 L n c) (SS_ok (by simp)) (SS_q _) (fun _ _ _ _ _ h => by cases h) ht12 c12 (one_part rfl (part_loop (id := 2) rfl rfl fun st K hT => by
      obtain ⟨rfl, hk⟩ := hT
      refine W_mono (loop12 L n c hn (by omega) 0 (by omega)) fun e st' he => ?_
      unfold K12 at he
      rw [Nat.sub_zero] at he
      rcases askD hk with ⟨h1, h2⟩ | ⟨h1, h2⟩
      · rw [h1] at he; cases he; exact h2
      · rw [h1] at he; cases he; exact h2)) hw
    exact ⟨h', hs⟩)
  (fun rest v hr hv => by
    unfold F12 at hv
    split at hv <;> cases hv
    refine ⟨rfl, ?_⟩
    have hw := (v12n fun u _ => u = .bool (soundF [])).mp (by first | exact rfl | trivial)
    obtain ⟨u, h', rfl, hs⟩ := sem_wp mixed (C := CN []) (SS_ok (by simp)) (SS_q _) (cwN_ok _) ht12 c12 (one_part rfl (by intro T st K hT; cases hT)) hw
    exact ⟨h', hs⟩)

theorem check_nil (r : Rw) : checkF [] r = false := by
  unfold checkF
  by_cases h : r.s < 0
  · simp [h]
  · have : decide (r.s ≥ ((([] : List Sc).length : Nat) : Int)) = true := by simp; omega
    rw [this]; simp only [Bool.not_true, Bool.and_false, Bool.false_and]
theorem sub6 : ∀ g ∈ [12, 13], ∀ s, qAll g = some s → QuietOK Tryd.prog g s := by
  intro g hg s hs
  simp only [List.mem_cons, List.not_mem_nil, or_false] at hg
  rcases hg with rfl | rfl <;> cases hs
  · exact sound_ok
  · exact id_ok
theorem check_ok : QuietOK Tryd.prog 6 (secS F6) := sec_ok ht6
  (fun L n c rest v hn hn2 hr hv => by
    unfold F6 at hv
    split at hv <;> cases hv
    rename_i s a b c'
    refine ⟨rfl, ?_⟩
    have hw := (v6 L n c s a b c' fun u _ => u = errOf (checkF (L.take n) ⟨s, a, b, c'⟩)).mp (by
      have hl : ((L.take n).length : Int) = n := by rw [List.length_take, Nat.min_eq_left hn]
      refine ⟨soundF (L.take n), secS_at rfl hn hn2 rfl, ?_⟩
      refine askI (fun h1 => ?_) (fun h1 => by simp [errOf, checkF, h1])
      refine askI (fun h2 => by simp [errOf, checkF, h2]) (fun h2 => ?_)
      refine askI (fun h3 => by
        have : checkF (L.take n) ⟨s, a, b, c'⟩ = false := by unfold checkF; simp only [hl, h3, Bool.not_true, Bool.and_false, Bool.false_and]
        rw [this]; rfl) (fun h3 => ?_)
      have g2 : ¬ s < 0 := by simpa using h2
      have g3 : ¬ s ≥ (n : Int) := by simpa using h3
      obtain ⟨q, hq⟩ : ∃ q, L[s.toNat]? = some q := ⟨L[s.toNat]'(by omega), List.getElem?_eq_getElem _⟩
      have hd : dep (L.take n) s = q.d := by unfold dep; rw [at_take (by omega), hq]
      have k1 : decide (0 ≤ s) = true := by simp; omega
      have k2 : decide (s < (n : Int)) = true := by simp; omega
      simp only [partR_none, cellsAt_ro, Option.bind_some, Nat.zero_add, cellD hq, k1, k2, chk_true, Option.some.injEq, AV.int.injEq, true_and, exists_eq_left']
      have hc : checkF (L.take n) ⟨s, a, b, c'⟩ = (idOk q.d 0 a && idOk q.d 1 b && idOk q.d 2 c') := by
        unfold checkF; simp only [h1, hl, h2, h3, hd, Bool.not_false, Bool.and_true, Bool.true_and]
      rw [hc]
      unfold idOk
      generalize decide (0 < IntKind.i64.wrap (q.d - 1)) = A0
      generalize decide (1 < IntKind.i64.wrap (q.d - 1)) = A1
      generalize decide (2 < IntKind.i64.wrap (q.d - 1)) = A2
      generalize idB a = B0
      generalize idB b = B1
      generalize idB c' = B2
      generalize (a != 0) = N0
      generalize (b != 0) = N1
      generalize (c' != 0) = N2
      cases A0 <;> cases A1 <;> cases A2 <;> cases B0 <;> cases B1 <;> cases B2 <;> cases N0 <;> cases N1 <;> cases N2 <;> rfl)
    obtain ⟨u, h', rfl, hs⟩ := sem_wp mixed (C := CS [12, 13] kdI) (SS_ok sub6) (SS_q _) (cwP_ok _) ht6 c6 (one_part rfl (by intro T st K hT; cases hT)) hw
    exact ⟨h', hs⟩)
  (fun rest v hr hv => by
    unfold F6 at hv
    split at hv <;> cases hv
    rename_i s a b c'
    refine ⟨rfl, ?_⟩
    have hw := (v6n s a b c' fun u _ => u = errOf (checkF [] ⟨s, a, b, c'⟩)).mp (by
      rw [check_nil]
      exact ⟨rfl, askI (fun _ => rfl) (fun h => chkI (by simp at h ⊢; exact h) rfl)⟩)
    obtain ⟨u, h', rfl, hs⟩ := sem_wp mixed (C := CN [12, 13]) (SS_ok sub6) (SS_q _) (cwN_ok _) ht6 c6 (one_part rfl (by intro T st K hT; cases hT)) hw
    exact ⟨h', hs⟩)
end Go.Proofs.YtcigcknagbjlbaaDoor
