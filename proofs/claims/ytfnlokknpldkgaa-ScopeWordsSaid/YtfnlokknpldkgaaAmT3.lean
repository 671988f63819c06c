/- Mixed regions, resolved. -/
import Derived.Test.YtfnlokknpldkgaaAmT
set_option linter.unusedVariables false
set_option linter.unusedSimpArgs false
namespace Go.Am
open Go Go.RowKit
/-- The loads that have been done: number, size, from where. -/
abbrev RLd := List (Nat × Option Nat × AV)
def ldR (env : List AV) (po : PO) : Option (Option Nat × AV) := match po.ri with
  | .load sz a => match wantedR env po with
    | some true => (evalOperand env a).map (sz, ·)
    | _ => none
  | _ => none
def addLd (i : Nat) (q : Option (Option Nat × AV)) (rl : RLd) : RLd := match q with
  | some q => (i, q.1, q.2) :: rl
  | none => rl
def loadZ (h : AHeap) (sz : Option Nat) : AV → Option AV
  | .ptr (some (k, o)) => (cellsAt h k).bind fun cs => partR sz cs o
  | _ => none
def StableR (h h' : AHeap) (wl : List Nat) : RLd → Prop
  | [] => True
  | (i, sz, p) :: r => if wl.contains i then StableR h h' wl r else loadZ h' sz p = loadZ h sz p ∧ StableR h h' wl r
section
variable (P : Program) (S : Specs)
def evalHM (base : Nat) : List (Nat × Nat × PO) → St × RLd → Option (St × RLd)
  | [], x => some x
  | (i, off, po) :: r, x => (stepR P S (base + off) po x.1).bind fun st => evalHM base r (st, addLd i (ldR x.1.1 po) x.2)
def TRun (base : Nat) : List (Nat × Nat × PO × List Nat) → St × RLd → St → Prop
  | [], x, st' => st' = x.1
  | (j, off, po, wl) :: r, x, st' => ∃ st, stepR P S (base + off) po x.1 = some st ∧ (po.ri.isPure = false → StableR x.1.2 st.2 wl x.2) ∧ TRun base r (st, x.2) st'
end
section
variable {P : Program} {S : Specs} {Q : FuncId → Bool}
theorem mapM_get {α β : Type} {f : α → Option β} : ∀ {l : List α} {r : List β}, l.mapM f = some r → ∀ (i : Nat) (x : α), l[i]? = some x → ∃ y, r[i]? = some y ∧ f x = some y
  | [], r, h, i, x, hx => by simp at hx
  | a :: l, r, h, i, x, hx => by
    simp only [List.mapM_cons, Option.pure_def, Option.bind_eq_bind, Option.bind_eq_some_iff] at h
    obtain ⟨b, hb, r', hr, he⟩ := h
    cases he
    cases i with
    | zero => simp only [List.getElem?_cons_zero, Option.some.injEq] at hx; subst hx; exact ⟨b, rfl, hb⟩
    | succ i => exact mapM_get hr i x (by simpa using hx)
theorem early_free {ops : Array Oper} {i : Nat} {o : Oper} (ho : ops[i]? = some o) (h : earlyAt P ops i = true) : freeOp P o = true ∧ headableQ Q o = true := by
  unfold earlyAt at h
  rw [ho] at h
  simp only [Bool.and_eq_true, Bool.not_eq_true'] at h
  refine ⟨h.1, ?_⟩
  obtain ⟨h1, h2⟩ := h
  unfold freeOp flatOp insens isLoad isAlloc isAppend at h1
  unfold isConv at h2
  unfold headableQ
  cases hop : o.op <;> simp only [hop] at h1 h2 ⊢ <;> first | rfl | (cases h2; done) | (simp at h1; done) | skip
  rename_i c
  obtain ⟨callee, as, tys⟩ := c
  cases callee with
  | builtin b => cases b <;> first | rfl | (simp at h1; done)
  | value f => simp at h1
  | invoke r m => simp at h1
def LogRel (P : Program) (y : Lds) (rl : RLd) : Prop := ∀ i t p, y[i]? = some (some (t, p)) → ∃ sz, aggSz P t = some sz ∧ (i, sz, p) ∈ rl
theorem logRel_step {ops : Array Oper} {o : Oper} {po : PO} (hpo : poOf P ops o = some po) {env : List AV} {i : Nat} {y : Lds} {rl : RLd} (h : LogRel P y rl) : LogRel P (setLd y i (ldOf ops env o)) (addLd i (ldR env po) rl) := by
  have hw := wanted_resolved hpo env
  have sub : ∀ q, q ∈ rl → q ∈ addLd i (ldR env po) rl := fun q hq => by
    unfold addLd
    split
    · exact List.mem_cons_of_mem _ hq
    · exact hq
  intro k t p hk
  cases hld : ldOf ops env o with
  | none =>
    rw [hld] at hk
    obtain ⟨sz, h1, h2⟩ := h k t p hk
    exact ⟨sz, h1, sub _ h2⟩
  | some q =>
    rw [hld] at hk
    simp only [setLd] at hk
    by_cases hki : k = i
    · subst hki
      have hlt : k < y.length := by
        rcases Nat.lt_or_ge k y.length with q' | q'
        · exact q'
        · rw [List.set_eq_of_length_le q', List.getElem?_eq_none q'] at hk; cases hk
      rw [List.getElem?_set_self hlt] at hk
      cases hk
      unfold ldOf at hld
      cases hop : o.op <;> simp only [hop, reduceCtorEq] at hld
      rename_i t' a
      simp only [poOf, Option.map_eq_some_iff] at hpo
      obtain ⟨ri, hr, rfl⟩ := hpo
      unfold resolve at hr
      simp only [hop, Option.map_eq_some_iff] at hr
      obtain ⟨sz, hsz, rfl⟩ := hr
      rw [hw] at hld
      have hld2 : ∃ v, wantedR env ⟨o.dst, .load sz a, o.guard.map fun g => ((ops[g.1]?).bind (·.dst), g.2)⟩ = some true ∧ evalOperand env a = some v ∧ t' = t ∧ v = p := by
        split at hld
        · rename_i hwt
          simp only [Option.map_eq_some_iff, Prod.mk.injEq] at hld
          obtain ⟨v, hv, rfl, rfl⟩ := hld
          exact ⟨_, hwt, hv, rfl, rfl⟩
        · cases hld
      obtain ⟨v, hwt, hv, rfl, rfl⟩ := hld2
      refine ⟨sz, hsz, ?_⟩
      unfold addLd ldR
      simp only [hwt, hv, Option.map_some]
      exact List.mem_cons_self
    · rw [List.getElem?_set_ne (fun e => hki e.symm)] at hk
      obtain ⟨sz, h1, h2⟩ := h k t p hk
      exact ⟨sz, h1, sub _ h2⟩
theorem runMix_append {T0 : List Nat} {ops : Array Oper} {sl : Nat → Nat} : ∀ (l1 l2 : List Nat) (x y z : St × Lds), RunMix P S T0 ops sl l1 x y → RunMix P S T0 ops sl l2 y z → RunMix P S T0 ops sl (l1 ++ l2) x z
  | [], l2, x, y, z, h1, h2 => by have h1 : y = x := h1; subst h1; exact h2
  | i :: l, l2, x, y, z, h1, h2 => by
    obtain ⟨o, u, ho, hs, hr⟩ := h1
    exact ⟨o, u, ho, hs, runMix_append l l2 u y z hr h2⟩
theorem stable_spec {h h' : AHeap} {wl : List Nat} : ∀ {rl : RLd}, StableR h h' wl rl → ∀ i sz p, (i, sz, p) ∈ rl → wl.contains i = false → loadZ h' sz p = loadZ h sz p
  | (j, sz', p') :: r, hs, i, sz, p, hm, hw => by
    unfold StableR at hs
    rcases List.mem_cons.1 hm with he | hm
    · cases he
      rw [hw] at hs
      simp only [Bool.false_eq_true, if_false] at hs
      exact hs.1
    · split at hs
      · exact stable_spec hs i sz p hm hw
      · exact stable_spec hs.2 i sz p hm hw
theorem load_z {h : AHeap} {t : TypeId} {sz : Option Nat} {p : AV} (hs : aggSz P t = some sz) : loadA P h t p = loadZ h sz p := by
  have key : ∀ k o, (cellsAt h k).bind (fun cs => partA P t cs o) = (cellsAt h k).bind fun cs => partR sz cs o := fun k o => by
    congr 1
    funext cs
    exact part_resolved hs cs _
  cases p with
  | ptr a => cases a with
    | none => rfl
    | some a => exact key a.1 a.2
  | _ => rfl
theorem hm_resolved (hQ : ∀ g, (S.q g).isSome = Q g) {ops : Array Oper} {l : List PO} (hl : ops.toList.mapM (poOf P ops) = some l) {T0 : List Nat} {base : Nat} : ∀ (H : List Nat) (x x' : St × RLd) (y : Lds), (∀ i ∈ H, i < ops.size ∧ earlyAt P ops i = true ∧ T0.contains i = false) → LogRel P y x.2 →
    evalHM P S base (H.filterMap fun i => (l[i]?).map fun po => (i, slotOf P ops.toList 0 i, po)) x = some x' →
    ∃ y', RunMix P S T0 ops (slotOf P ops.toList base) H (x.1, y) (x'.1, y') ∧ LogRel P y' x'.2
  | [], x, x', y, _, hy, he => by
    simp only [List.filterMap_nil, evalHM, Option.some.injEq] at he
    subst he
    exact ⟨y, rfl, hy⟩
  | i :: H, x, x', y, hH, hy, he => by
    obtain ⟨hi, hea, hT⟩ := hH i List.mem_cons_self
    have ho : ops.toList[i]? = some ops[i] := by simp [hi]
    obtain ⟨po, hpo, hpf⟩ := mapM_get hl i _ ho
    rw [List.filterMap_cons_some (by rw [hpo]; rfl)] at he
    simp only [evalHM, Option.bind_eq_some_iff] at he
    obtain ⟨st1, h1, h2⟩ := he
    obtain ⟨hfr, hhd⟩ := early_free (Q := Q) (o := ops[i]) (by simp [hi]) hea
    have hs0 := (step_resolved hpf h1).2 hQ hhd
    unfold headStep0 at hs0
    simp only [Option.map_eq_some_iff] at hs0
    obtain ⟨r, hr, hst⟩ := hs0
    have hslot : base + slotOf P ops.toList 0 i = slotOf P ops.toList base i := by unfold slotOf; omega
    obtain ⟨y', hr', hy'⟩ := hm_resolved hQ hl H (st1, addLd i (ldR x.1.1 po) x.2) x' (setLd y i (ldOf ops x.1.1 ops[i])) (fun k hk => hH k (List.mem_cons_of_mem _ hk)) (logRel_step hpf hy) h2
    refine ⟨y', ⟨ops[i], (st1, setLd y i (ldOf ops x.1.1 ops[i])), by simp [hi], ?_, hr'⟩, hy'⟩
    unfold MixStep
    rw [hT]
    simp only [Bool.false_eq_true, if_false]
    rw [← hslot]
    exact ⟨hfr, r, hr, by rw [hst]⟩
theorem tm_resolved (hQ : ∀ g, (S.q g).isSome = Q g) {ops : Array Oper} {l : List PO} (hl : ops.toList.mapM (poOf P ops) = some l) {T0 H0 : List Nat} {base : Nat} : ∀ (T : List Nat) (x : St × RLd) (st' : St) (y : Lds), (∀ i ∈ T, i < ops.size ∧ (T0.contains i = true ∨ T0.contains i = false ∧ flatAt P ops i = true)) → LogRel P y x.2 →
    TRun P S base (T.filterMap fun i => (l[i]?).map fun po => (i, slotOf P ops.toList 0 i, po, H0.filter fun k => waits ops k i)) x st' →
    RunMix P S T0 ops (slotOf P ops.toList base) T (x.1, y) (st', y)
  | [], x, st', y, _, hy, he => by
    simp only [List.filterMap_nil, TRun] at he
    subst he
    rfl
  | i :: T, x, st', y, hH, hy, he => by
    obtain ⟨hi, hT⟩ := hH i List.mem_cons_self
    have ho : ops.toList[i]? = some ops[i] := by simp [hi]
    obtain ⟨po, hpo, hpf⟩ := mapM_get hl i _ ho
    rw [List.filterMap_cons_some (by rw [hpo]; rfl)] at he
    simp only [TRun] at he
    obtain ⟨st1, h1, h2, h3⟩ := he
    have hslot : base + slotOf P ops.toList 0 i = slotOf P ops.toList base i := by unfold slotOf; omega
    refine ⟨ops[i], (st1, y), by simp [hi], ?_, tm_resolved hQ hl T (st1, x.2) st' y (fun k hk => hH k (List.mem_cons_of_mem _ hk)) hy h3⟩
    unfold MixStep
    rcases hT with hT | ⟨hT, hfl⟩
    rotate_left 1
    · rw [hT]
      simp only [Bool.false_eq_true, if_false]
      unfold flatAt at hfl
      simp only [Bool.and_eq_true] at hfl
      obtain ⟨hea, hfl⟩ := hfl
      rw [show ops[i]? = some ops[i] from by simp [hi]] at hfl
      simp only [Bool.and_eq_true, Bool.not_eq_true'] at hfl
      obtain ⟨hfr, hhd⟩ := early_free (Q := Q) (o := ops[i]) (by simp [hi]) hea
      have hs1 := (step_resolved hpf h1).2 hQ hhd
      unfold headStep0 at hs1
      simp only [Option.map_eq_some_iff] at hs1
      obtain ⟨r, hr, hst⟩ := hs1
      rw [← hslot]
      refine ⟨hfr, r, hr, ?_⟩
      have hld : ldOf ops x.1.1 ops[i] = none := by
        have h := hfl.1
        unfold isLoad at h
        unfold ldOf
        cases hop : (ops[i]).op <;> simp only [hop] at h ⊢
        cases h
      rw [hld, hst]
      rfl
    have hs0 := (step_resolved (Q := fun _ => false) hpf h1).1
    rw [if_pos hT]
    rw [← hslot]
    refine ⟨hs0, rfl, fun k t p hk hwk => ?_⟩
    cases hpu : po.ri.isPure with
    | true =>
      have : st1.2 = x.1.2 := by
        unfold stepR at h1
        rw [hpu] at h1
        split at h1
        · cases h1
        · cases h1; rfl
        · simp only [if_true, Option.map_eq_some_iff] at h1
          obtain ⟨v, _, rfl⟩ := h1; rfl
      simp only [this]
    | false =>
      obtain ⟨sz, e1, e2⟩ := hy k t p hk
      rw [load_z e1, load_z e1]
      refine stable_spec (h2 hpu) k sz p e2 ?_
      rw [Bool.eq_false_iff]
      intro hc
      have hc : k ∈ H0.filter fun k => waits ops k i := by simpa using hc
      have := (List.mem_filter.1 hc).2
      rw [hwk] at this; cases this
theorem mixT_lt {ops : Array Oper} : ∀ i ∈ mixT P ops, i < ops.size := by
  unfold mixT
  have : ∀ (l acc : List Nat), (∀ i ∈ acc, i < ops.size) → (∀ i ∈ l, i < ops.size) → ∀ i ∈ l.foldl (fun T j => if !earlyAt P ops j || (match ops[j]? with
      | some o => o.after.any fun e => Region.binds .any e && T.contains e.on
      | none => true) then T ++ [j] else T) acc, i < ops.size := by
    intro l
    induction l with
    | nil => intro acc h _; exact h
    | cons j l ih =>
      intro acc h hl
      simp only [List.foldl_cons]
      refine ih _ (fun i hi => ?_) (fun i hi => hl i (List.mem_cons_of_mem _ hi))
      by_cases hc : (!earlyAt P ops j || (match ops[j]? with
        | some o => o.after.any fun e => Region.binds .any e && acc.contains e.on
        | none => true)) = true
      · rw [if_pos hc] at hi
        rcases List.mem_append.1 hi with hi | hi
        · exact h i hi
        · rw [List.mem_singleton] at hi; rw [hi]; exact hl j List.mem_cons_self
      · rw [if_neg hc] at hi
        exact h i hi
  exact this _ _ (fun i hi => by cases hi) (fun i hi => List.mem_range.1 hi)
theorem mix_resolved (hm : P.follows .mixedOrders = true) (hS : S.OK P) (hQ : ∀ g, (S.q g).isSome = Q g) {R : Option Nat} {id : Nat} {ops : Array Oper} {l : List PO} (hmix : isMix P Q ops true = true) (hl : ops.toList.mapM (poOf P ops) = some l)
    {B : Fr} {w0 : World} {ρ0 : Rho} {h0 : AHeap} {st st' : St} {x : St × RLd} (hu : ∀ g ∈ uniOf P ops (mixH P ops) (mixB P ops), UniF S g)
    (h1 : evalHM P S st.2.length (mixHd P ops l) (withHoles (nAlloc P ops.toList) st, []) = some x) (h2 : TRun P S st.2.length (mixTl P ops l) x st') :
    CodeSoundR R P B w0 ρ0 h0 (.inl (.region id ops true)) st .normal st' := by
  unfold isMix at hmix
  simp only [Bool.true_and, Bool.and_eq_true, Bool.not_eq_true', decide_eq_true_eq] at hmix
  obtain ⟨⟨⟨_, hall⟩, hsz⟩, hB⟩ := hmix
  rw [List.all_eq_true] at hall
  obtain ⟨y', hr1, hy'⟩ := hm_resolved (T0 := mixB P ops) (Q := Q) hQ hl (mixH P ops) _ x (List.replicate ops.size none) (fun i hi => by
    have h := List.mem_filter.1 hi
    refine ⟨List.mem_range.1 h.1, hall i hi, ?_⟩
    rw [Bool.eq_false_iff]
    intro hc
    have hc : i ∈ mixB P ops := by simpa using hc
    have h2 : i ∉ mixT P ops := by simpa using h.2
    exact h2 (List.mem_filter.1 hc).1) (fun i t p hk => by
    rw [List.getElem?_replicate] at hk
    split at hk <;> cases hk) h1
  have hr2 := tm_resolved (T0 := mixB P ops) (H0 := mixH P ops) hQ hl (mixT P ops) x st' y' (fun i hi => ⟨mixT_lt i hi, by
    by_cases hf : flatAt P ops i = true
    · refine .inr ⟨?_, hf⟩
      rw [Bool.eq_false_iff]
      intro hc
      have hc : i ∈ mixB P ops := by simpa using hc
      have := (List.mem_filter.1 hc).2
      rw [hf] at this; cases this
    · refine .inl ?_
      have : i ∈ mixB P ops := List.mem_filter.2 ⟨hi, by simpa using hf⟩
      simpa using this⟩) hy' h2
  have hr := runMix_append _ _ _ _ _ hr1 hr2
  intro a w hR
  exact mix_sound hm hS hB (by rw [List.length_append]; exact hsz) hu hr hR fun a' w' hR' => ⟨rfl, hR'⟩
end
end Go.Am
