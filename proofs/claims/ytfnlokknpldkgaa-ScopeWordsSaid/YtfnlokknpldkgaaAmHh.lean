/- Closed runs, drawn regions with calls among them: what they come to is reckoned. -/
import Derived.Test.YtfnlokknpldkgaaAmHg
set_option linter.unusedVariables false
set_option linter.unusedSimpArgs false
namespace Go.Am
open Go Go.RowKit
def eqCap : ACap → ACap → Bool
  | .fix a, .fix b => decide (a = b)
  | .rel a, .rel b => decide (a = b)
  | _, _ => false
theorem eqCap_ok {a b : ACap} (h : eqCap a b = true) : a = b := by
  cases a <;> cases b <;> simp only [eqCap, Bool.false_eq_true] at h <;> simp only [decide_eq_true_eq] at h <;> subst h <;> rfl
mutual
def eqV : AV → AV → Bool
  | .int k a, .int k' b => decide (k = k') && decide (a = b)
  | .bool a, .bool b => decide (a = b)
  | .str a, .str b => decide (a = b)
  | .ptr a, .ptr b => decide (a = b)
  | .map a, .map b => decide (a = b)
  | .sl p n c, .sl p' n' c' => decide (p = p') && decide (n = n') && eqCap c c'
  | .agg l, .agg l' => eqVL l l'
  | .tup l, .tup l' => eqVL l l'
  | _, _ => false
def eqVL : List AV → List AV → Bool
  | [], [] => true
  | a :: l, b :: l' => eqV a b && eqVL l l'
  | _, _ => false
end
mutual
theorem eqV_ok : ∀ (a b : AV), eqV a b = true → a = b
  | .int k n, b, h => by
    cases b <;> simp only [eqV, Bool.false_eq_true] at h
    simp only [Bool.and_eq_true, decide_eq_true_eq] at h; rw [h.1, h.2]
  | .bool a, b, h => by
    cases b <;> simp only [eqV, Bool.false_eq_true] at h
    simp only [decide_eq_true_eq] at h; rw [h]
  | .str a, b, h => by
    cases b <;> simp only [eqV, Bool.false_eq_true] at h
    simp only [decide_eq_true_eq] at h; rw [h]
  | .ptr a, b, h => by
    cases b <;> simp only [eqV, Bool.false_eq_true] at h
    simp only [decide_eq_true_eq] at h; rw [h]
  | .map a, b, h => by
    cases b <;> simp only [eqV, Bool.false_eq_true] at h
    simp only [decide_eq_true_eq] at h; rw [h]
  | .sl p n c, b, h => by
    cases b <;> simp only [eqV, Bool.false_eq_true] at h
    simp only [Bool.and_eq_true, decide_eq_true_eq] at h; rw [h.1.1, h.1.2, eqCap_ok h.2]
  | .agg l, b, h => by
    cases b <;> simp only [eqV, Bool.false_eq_true] at h
    rw [eqVL_ok l _ h]
  | .tup l, b, h => by
    cases b <;> simp only [eqV, Bool.false_eq_true] at h
    rw [eqVL_ok l _ h]
  | .fn f a c, b, h => by cases b <;> simp only [eqV, Bool.false_eq_true] at h
  | .nilFn, b, h => by cases b <;> simp only [eqV, Bool.false_eq_true] at h
  | .ifc t v, b, h => by cases b <;> simp only [eqV, Bool.false_eq_true] at h
  | .nilIfc, b, h => by cases b <;> simp only [eqV, Bool.false_eq_true] at h
  | .slE k o i l s, b, h => by cases b <;> simp only [eqV, Bool.false_eq_true] at h
  | .ext a l c, b, h => by cases b <;> simp only [eqV, Bool.false_eq_true] at h
  | .any, b, h => by cases b <;> simp only [eqV, Bool.false_eq_true] at h
  | .und, b, h => by cases b <;> simp only [eqV, Bool.false_eq_true] at h
theorem eqVL_ok : ∀ (a b : List AV), eqVL a b = true → a = b
  | [], b, h => by
    cases b <;> simp only [eqVL, Bool.false_eq_true] at h
    rfl
  | a :: l, b, h => by
    cases b <;> simp only [eqVL, Bool.false_eq_true] at h
    simp only [Bool.and_eq_true] at h
    rw [eqV_ok a _ h.1, eqVL_ok l _ h.2]
end
def eqO : Option AV → Option AV → Bool
  | some a, some b => eqV a b
  | _, _ => false
theorem eqO_ok {a b : Option AV} (h : eqO a b = true) : a = b := by
  cases a <;> cases b <;> simp only [eqO, Bool.false_eq_true] at h
  rw [eqV_ok _ _ h]
def stableB (h h' : AHeap) (wl : List Nat) : RLd → Bool
  | [] => true
  | (i, sz, p) :: r => if wl.contains i then stableB h h' wl r else eqO (loadZ h' sz p) (loadZ h sz p) && stableB h h' wl r
theorem stableB_ok {h h' : AHeap} {wl : List Nat} : ∀ {r : RLd}, stableB h h' wl r = true → StableR h h' wl r
  | [], _ => trivial
  | (i, sz, p) :: r, hb => by
    unfold stableB at hb
    unfold StableR
    split
    · rename_i hc; rw [if_pos hc] at hb; exact stableB_ok hb
    · rename_i hc
      rw [if_neg hc, Bool.and_eq_true] at hb
      exact ⟨eqO_ok hb.1, stableB_ok hb.2⟩
section
variable (P : Program) (S : Specs)
def evalTM (base : Nat) : List (Nat × Nat × PO × List Nat) → St × RLd → Option St
  | [], x => some x.1
  | (j, off, po, wl) :: r, x => match stepR P S (base + off) po x.1 with
    | none => none
    | some st => if po.ri.isPure then evalTM base r (st, x.2) else if stableB x.1.2 st.2 wl x.2 then evalTM base r (st, x.2) else none
theorem evalTM_ok {base : Nat} : ∀ {l : List (Nat × Nat × PO × List Nat)} {x : St × RLd} {st : St}, evalTM P S base l x = some st → TRun P S base l x st
  | [], x, st, h => by cases h; rfl
  | (j, off, po, wl) :: r, x, st, h => by
    unfold evalTM at h
    split at h
    · cases h
    · rename_i st1 h1
      split at h
      · rename_i hp
        exact ⟨st1, h1, (fun hf => by rw [hp] at hf; cases hf), evalTM_ok h⟩
      · split at h
        · rename_i hs
          exact ⟨st1, h1, (fun _ => stableB_ok hs), evalTM_ok h⟩
        · cases h
def evQ (b0 : Nat) (F : Nat → Tidy) : Nat → PC ⊕ (PC × PC) → St → Option (AExit × St)
  | 0, _, _ => none
  | n + 1, .inl c, st => match c with
    | .skip => some (.normal, st)
    | .label _ => some (.normal, st)
    | .ops id na l => match tidy b0 (F id) st with
      | st => (evalOpsR P S st.2.length l (withHoles na st)).map (.normal, ·)
    | .ops2 id na ls l r => match tidy b0 (F id) st with
      | st => ((evalHeadR P S ls 0 st.2.length l (withHoles na st, List.replicate (l.length + r.length) none)).bind fun x => evalOpsR P S (st.2.length + (l.filter (·.ri.isAlloc)).length) r x.1).map (.normal, ·)
    | .ops3 id na hd tl us => if us.all S.u then (match tidy b0 (F id) st with
      | st => (evalHM P S st.2.length hd (withHoles na st, [])).bind fun x => (evalTM P S st.2.length tl x).map (.normal, ·)) else none
    | .rf .. => none
    | .seq a b => match evQ b0 F n (.inl a) st with
      | some (.normal, st') => evQ b0 F n (.inl b) st'
      | r => r
    | .cond c x y => match evalOperand st.1 c with
      | some (.bool b) => evQ b0 F n (.inl (if b then x else y)) st
      | _ => none
    | .block id body => match evQ b0 F n (.inl body) st with
      | some (.exit id', st') => if id' = id then some (.normal, st') else some (.exit id', st')
      | r => r
    | .loop body => match evQ b0 F n (.inl body) st with
      | some (.normal, st') => evQ b0 F n (.inl (.loop body)) st'
      | r => r
    | .exit id => some (.exit id, st)
    | .goto l => some (.goto l, st)
    | .scope body => evQ b0 F n (.inr (body, body)) st
    | .ret => some (.ret, st)
  | n + 1, .inr (c, rest), st => match evQ b0 F n (.inl rest) st with
    | some (.goto l, st') => match findP c l with
      | some r' => evQ b0 F n (.inr (c, r')) st'
      | none => some (.goto l, st')
    | r => r
end
section
variable {P : Program} {S : Specs} {b0 : Nat}
theorem evQ_ok {F : Nat → Tidy} : ∀ (n : Nat) (x : PC ⊕ (PC × PC)) (st : St) (r : AExit × St), evQ P S b0 F n x st = some r → Run P S b0 x st r
  | 0, _, _, _, h => by simp [evQ] at h
  | n + 1, .inl c, st, r, h => by
    have ih := evQ_ok (F := F) n
    cases c with
    | skip => simp only [evQ, Option.some.injEq] at h; subst h; exact .skip
    | label l => simp only [evQ, Option.some.injEq] at h; subst h; exact .label
    | exit l => simp only [evQ, Option.some.injEq] at h; subst h; exact .exit
    | goto l => simp only [evQ, Option.some.injEq] at h; subst h; exact .goto
    | ret => simp only [evQ, Option.some.injEq] at h; subst h; exact .ret
    | rf g ps as body => simp [evQ] at h
    | ops id na l =>
      simp only [evQ, Option.map_eq_some_iff] at h
      obtain ⟨st', h1, rfl⟩ := h
      exact .pre (F id) (.ops h1)
    | ops2 id na ls l r' =>
      simp only [evQ, Option.map_eq_some_iff] at h
      obtain ⟨st', h1, rfl⟩ := h
      exact .pre (F id) (.ops2 h1)
    | ops3 id na hd tl us =>
      simp only [evQ] at h
      split at h
      · rename_i hu
        simp only [Option.bind_eq_some_iff, Option.map_eq_some_iff] at h
        obtain ⟨x, h1, st', h2, rfl⟩ := h
        exact .pre (F id) (.ops3 hu h1 (evalTM_ok P S h2))
      · cases h
    | seq a b =>
      simp only [evQ] at h
      split at h
      · rename_i st' h1
        exact .seqN (ih _ _ _ h1) (ih _ _ _ h)
      · rename_i h1
        obtain ⟨e, st'⟩ := r
        refine .seqX (ih _ _ _ h) fun he => ?_
        subst he
        exact h1 _ h
    | cond c x y =>
      simp only [evQ] at h
      split at h
      · rename_i b hb
        exact .cond hb (ih _ _ _ h)
      · cases h
    | block id body =>
      simp only [evQ] at h
      split at h
      · rename_i id' st' h1
        split at h
        · rename_i he
          cases h
          exact .blockX (he ▸ ih _ _ _ h1)
        · rename_i he
          cases h
          refine .blockN (ih _ _ _ h1) fun e => he ?_
          cases e; rfl
      · rename_i h1
        obtain ⟨e, st'⟩ := r
        refine .blockN (ih _ _ _ h) fun he => ?_
        subst he
        exact h1 _ _ h
    | loop body =>
      simp only [evQ] at h
      split at h
      · rename_i st' h1
        exact .loopN (ih _ _ _ h1) (ih _ _ _ h)
      · rename_i h1
        obtain ⟨e, st'⟩ := r
        refine .loopX (ih _ _ _ h) fun he => ?_
        subst he
        exact h1 _ h
    | scope body =>
      simp only [evQ] at h
      exact .scope (ih _ _ _ h)
  | n + 1, .inr (c, rest), st, r, h => by
    have ih := evQ_ok (F := F) n
    simp only [evQ] at h
    split at h
    · rename_i l st' h1
      split at h
      · rename_i r' hf
        exact .restG (ih _ _ _ h1) hf (ih _ _ _ h)
      · rename_i hf
        cases h
        exact .rest (ih _ _ _ h1) fun l' e => by cases e; exact hf
    · rename_i h1
      obtain ⟨e, st'⟩ := r
      refine .rest (ih _ _ _ h) fun l e' => ?_
      subst e'
      exact absurd h (h1 _ _)
end
/-- A function's run. -/
def runQ (P : Program) (S : Specs) (F : Nat → Tidy) (n : Nat) (pf : PF) (args : List AV) (h : AHeap) : Option (AV × AHeap) :=
  match evQ P S h.length F n (.inl pf.body) (startP pf args h) with
  | some (.normal, st) => (resP P pf st).map (·, st.2)
  | some (.ret, st) => (resP P pf st).map (·, st.2)
  | _ => none
theorem runQ_sem {P : Program} {S : Specs} {Q : FuncId → Bool} (hm : P.follows .mixedOrders = true) (hS : S.OK P) (hQ : ∀ g, (S.q g).isSome = Q g) {f : FuncId} {fn : Func} {pf : PF} (hf : HasText P f fn) (hc : compF P Q fn = some pf) {F : Nat → Tidy} {n : Nat} {args : List AV} {h : AHeap} {v : AV} {h' : AHeap}
    (hr : runQ P S F n pf args h = some (v, h')) : CallSem P f args h v h' := by
  unfold runQ at hr
  split at hr
  · rename_i st he
    simp only [Option.map_eq_some_iff, Prod.mk.injEq] at hr
    obtain ⟨v', hv, rfl, rfl⟩ := hr
    exact sem_of_run hm hS hQ hf hc (evQ_ok n _ _ _ he) (.inl rfl) hv rfl
  · rename_i st he
    simp only [Option.map_eq_some_iff, Prod.mk.injEq] at hr
    obtain ⟨v', hv, rfl, rfl⟩ := hr
    exact sem_of_run hm hS hQ hf hc (evQ_ok n _ _ _ he) (.inr rfl) hv rfl
  · cases hr
/-- Functions run by one another's resolved code, so deep; those that have a contract by it. -/
def runE (P : Program) (tab : FuncId → Option PF) (Q : FuncId → Bool) (bq : FuncId → Option (List AV → AHeap → Option AV)) (bf : FuncId → Option (List AV → AHeap → Option (AV × AHeap))) (F : FuncId → Nat → Tidy) (N d : Nat) : Nat → Specs
  | 0 => mkS Q bq bf
  | n + 1 => mkS Q
    (fun g => orElseR (bq g) ((tab g).map fun pf => fun args h => (impD d h args).bind fun r => match runQ P (runE P tab Q bq bf F N d n) (F g) N pf r.1 r.2 with
      | some (v, _) => if v.closed then some v else none
      | none => none))
    (fun g => orElseR (bf g) ((tab g).map fun pf => fun args h => runQ P (runE P tab Q bq bf F N d n) (F g) N pf args h))
theorem runE_ok {P : Program} (hm : P.follows .mixedOrders = true) {tab : FuncId → Option PF} {Q : FuncId → Bool} (hT : TabOK P tab Q) (hQ : ∀ g, Q g = true → ∃ fn, HasText P g fn)
    {bq : FuncId → Option (List AV → AHeap → Option AV)} {bf : FuncId → Option (List AV → AHeap → Option (AV × AHeap))} (hq : ∀ g s, bq g = some s → QuietOK P g s) (hf : ∀ g s, bf g = some s → FullOK P g s) (F : FuncId → Nat → Tidy) (N d : Nat) :
    ∀ n, (runE P tab Q bq bf F N d n).OK P ∧ ∀ g, ((runE P tab Q bq bf F N d n).q g).isSome = Q g
  | 0 => ⟨mkS_ok hQ (fun g s _ h => hq g s h) hf, fun g => mkS_isSome g⟩
  | n + 1 => by
    obtain ⟨h1, h2⟩ := runE_ok hm hT hQ hq hf F N d n
    refine ⟨mkS_ok hQ (fun g s hg hs => ?_) (fun g s hs => ?_), fun g => mkS_isSome g⟩
    · unfold orElseR at hs
      split at hs
      · rename_i x hx; cases hs; exact hq g _ hx
      · simp only [Option.map_eq_some_iff] at hs
        obtain ⟨pf, hpf, rfl⟩ := hs
        obtain ⟨fn, htx, hc⟩ := hT g pf hpf
        refine quiet_of_sem htx d (g := fun as hp => match runQ P (runE P tab Q bq bf F N d n) (F g) N pf as hp with
          | some (v, _) => if v.closed then some v else none
          | none => none) (fun args hs v hv => ?_)
        split at hv
        · rename_i v' h' he
          split at hv
          · rename_i hc'; cases hv; exact ⟨hc', h', runQ_sem hm h1 h2 htx hc he⟩
          · cases hv
        · cases hv
    · unfold orElseR at hs
      split at hs
      · rename_i x hx; cases hs; exact hf g _ hx
      · simp only [Option.map_eq_some_iff] at hs
        obtain ⟨pf, hpf, rfl⟩ := hs
        obtain ⟨fn, htx, hc⟩ := hT g pf hpf
        exact ⟨fun args h v h' he => runQ_sem hm h1 h2 htx hc he, fn, htx.1, htx.2.1, htx.2.2⟩
/-- What a call of nothing but plain values comes to, in a run from nothing. -/
theorem quiet_nothing {P : Program} {S : Specs} {Q : FuncId → Bool} (hm : P.follows .mixedOrders = true) (hS : S.OK P) (hQ : ∀ g, (S.q g).isSome = Q g) {f : FuncId} {fn : Func} {pf : PF} (hf : HasText P f fn) (hc : compF P Q fn = some pf)
    {F : Nat → Tidy} {N : Nat} {args : List AV} {v : AV} (ha : args.all AV.closed = true) (hv : v.closed = true) (hr : (runQ P S F N pf args []).map (·.1) = some v) : QuietOK P f fun as _ => @ite _ (as = args) (Classical.propDecidable _) (some v) none :=
  quiet_plain hf fun as u hu => by
    split at hu
    · rename_i he
      cases hu
      subst he
      simp only [Option.map_eq_some_iff] at hr
      obtain ⟨⟨v1, h1⟩, h2, h3⟩ := hr
      simp only at h3
      subst h3
      exact ⟨ha, hv, h1, fun ρ B w0 w hI hok => runQ_sem hm hS hQ hf hc h2 ρ B w0 w hI hok⟩
    · cases hu
end Go.Am
