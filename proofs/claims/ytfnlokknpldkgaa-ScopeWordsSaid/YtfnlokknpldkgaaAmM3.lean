/- Regions that draw their order and hold calls that change memory: what may be done early is done first. -/
import Derived.Test.YtfnlokknpldkgaaAmM
set_option linter.unusedVariables false
set_option linter.unusedSimpArgs false
namespace Go.Am
open Go Go.RowKit
section
variable {P : Program} {S : Specs}
def cmpOp : BinOp → Bool
  | .eql | .neq => true
  | _ => false
def isPtrT (P : Program) (t : TypeId) : Bool := match P.underlying t with
  | some (.pointer _) => true
  | _ => false
/-- It does not look at memory, nor at what memory there is. -/
def flatOp (P : Program) (o : Oper) : Bool := insens o && (match o.op with
  | .binOp op t _ _ _ => !cmpOp op || !isPtrT P t
  | _ => true)
def isAppend (o : Oper) : Bool := match o.op with
  | .call { callee := .builtin .append, .. } => true
  | _ => false
def freeOp (P : Program) (o : Oper) : Bool := flatOp P o || isLoad o || (isAlloc P o && !isAppend o)
theorem flat_pure {E : Operand → Option AV} {h h' : AHeap} {o : Oper} (ho : flatOp P o = true) : evalPure P h E o = evalPure P h' E o := by
  unfold flatOp at ho
  simp only [Bool.and_eq_true] at ho
  obtain ⟨h1, h2⟩ := ho
  unfold insens at h1
  unfold evalPure
  cases hop : o.op <;> simp only [hop, Bool.false_eq_true] at h1 h2 ⊢
  case makeFunc f a c => cases f <;> rfl
  case binOp op t x y yt =>
    have : ∀ a b, binH P h op t a b = binH P h' op t a b := fun a b => by
      unfold binH
      split
      · simp only [cmpOp, Bool.not_true, Bool.false_or, Bool.not_eq_true'] at h2
        unfold isPtrT at h2
        unfold ptrEqA
        split at h2
        · cases h2
        · rename_i hn
          split
          · rename_i e he; exact absurd he (hn e)
          · rfl
      · simp only [cmpOp, Bool.not_true, Bool.false_or, Bool.not_eq_true'] at h2
        unfold isPtrT at h2
        unfold ptrEqA
        split at h2
        · cases h2
        · rename_i hn
          split
          · rename_i e he; exact absurd he (hn e)
          · rfl
      · rfl
    simp only [this]
theorem free_noStore {o : Oper} (ho : freeOp P o = true) : isStore o = false := by
  unfold freeOp flatOp insens isLoad isAlloc at ho
  unfold isStore
  cases hop : o.op <;> simp only [hop] at ho ⊢
  simp at ho
theorem free_noQuiet {o : Oper} {h : AHeap} {E : Operand → Option AV} (ho : freeOp P o = true) : quietA S h E o = none := by
  unfold quietA calleeA
  cases hop : o.op <;> try rfl
  rename_i c
  obtain ⟨callee, as, tys⟩ := c
  cases callee <;> try rfl
  exfalso
  unfold freeOp flatOp insens isLoad isAlloc at ho
  simp only [hop] at ho
  simp at ho
/-- The value of an operation that may be done early. -/
theorem free_val {o : Oper} (ho : freeOp P o = true) {ops : Array Oper} {s : Nat} {st : St} {r : AV × HEff} (hr : headVal P S ops s o st = some r) :
    (wantedA ops st.1 o = some false ∧ r = (.und, .no)) ∨ (wantedA ops st.1 o = some true ∧ isAlloc P o = false ∧ ∃ v, r = (v, .no) ∧ evalPure P st.2 (evalOperand st.1) o = some v) ∨
    (wantedA ops st.1 o = some true ∧ isAlloc P o = true ∧ isHole st.2 s = true ∧ ∃ q, evalAlloc P (evalOperand st.1) s o = some q ∧ r = (q.1, .fill q.2)) := by
  unfold headVal at hr
  split at hr
  · cases hr
  · rename_i hw; cases hr; exact .inl ⟨hw, rfl⟩
  · rename_i hw
    split at hr
    · rename_i ha
      split at hr
      · rename_i hh
        simp only [Option.map_eq_some_iff] at hr
        obtain ⟨q, hq, rfl⟩ := hr
        exact .inr (.inr ⟨hw, ha, hh, q, hq, rfl⟩)
      · cases hr
    · rename_i ha
      rw [free_noStore ho] at hr
      simp only [Bool.false_eq_true, if_false] at hr
      split at hr
      · rename_i v hv
        cases hr
        exact .inr (.inl ⟨hw, by simpa using ha, v, rfl, hv⟩)
      · rw [free_noQuiet ho] at hr; cases hr
theorem evalEff_congr {E E' : Operand → Option AV} {h : AHeap} {s : Nat} {o : Oper} (he : ∀ x ∈ o.op.operands, E x = E' x) : evalEff P h E s o = evalEff P h E' s o := by
  unfold evalEff
  cases hop : o.op with
  | call c =>
    rw [hop] at he
    obtain ⟨callee, args, tys⟩ := c
    have h1 : ∀ x ∈ args.toList, E x = E' x := fun x hx => he x (by simp only [Op.operands, Call.operands]; exact Array.mem_append.2 (.inr (by simpa using hx)))
    cases callee with
    | builtin b =>
      cases b <;> try rfl
      all_goals
        simp only
        split
        · rename_i x y t u hx ht
          have e1 : E x = E' x := h1 x (by rw [hx]; simp)
          have e2 : E y = E' y := h1 y (by rw [hx]; simp)
          simp only [e1, e2]
        · rfl
    | _ => rfl
  | _ =>
    simp only [hop] at he
    first
      | rfl
      | (simp [Op.operands] at he; simp only [he]; done)
      | (simp [Op.operands] at he; obtain ⟨h1, h2⟩ := he; simp only [h1, h2]; done)
      | (simp [Op.operands] at he; obtain ⟨h1, h2, h3⟩ := he; simp only [h1, h2, h3]; done)
theorem headVal_put {ops : Array Oper} {s : Nat} {o : Oper} {env : List AV} {h : AHeap} {dst : Option Tmp} {v : AV} (hd : ∀ d, dst = some d → d ∉ o.looksAt ops) :
    headVal P S ops s o (put dst v env, h) = headVal P S ops s o (env, h) := by
  have hops := operands_put (v := v) (env := env) hd
  unfold headVal
  simp only
  rw [wantedA_put hd, evalAlloc_congr hops, evalPure_congr hops, storeVal_congr hops]
  have hq : quietA S h (evalOperand (put dst v env)) o = quietA S h (evalOperand env) o := by unfold quietA; rw [callee_congr hops]
  rw [hq]
theorem put_comm {d1 d2 : Option Tmp} {u v : AV} {env : List AV} (hne : ∀ d, d1 = some d → d2 ≠ some d) : put d1 u (put d2 v env) = put d2 v (put d1 u env) := by
  cases d1 with
  | none => rfl
  | some a =>
    cases d2 with
    | none => rfl
    | some b =>
      have : b ≠ a := fun e => hne a rfl (by rw [e])
      simp only [put]
      rw [List.set_comm _ _ this]
/-- What stands in a place that an operation does not look at. -/
theorem stepA_put {ops : Array Oper} {s : Nat} {o : Oper} {env : List AV} {h : AHeap} {dst : Option Tmp} {v : AV} (hd : ∀ d, dst = some d → d ∉ o.looksAt ops) (hne : ∀ d, dst = some d → o.dst ≠ some d) {st2 : St}
    (hs : stepA P S ops s o (put dst v env, h) = some st2) : ∃ st', stepA P S ops s o (env, h) = some st' ∧ st2 = (put dst v st'.1, st'.2) := by
  have hops := operands_put (v := v) (env := env) hd
  have hpc : ∀ u, put o.dst u (put dst v env) = put dst v (put o.dst u env) := fun u => (put_comm (fun d hd' => fun e => hne d hd' e)).symm
  unfold stepA headStep0 at hs ⊢
  rw [headVal_put hd] at hs
  simp only at hs ⊢
  rw [wantedA_put hd, evalEff_congr hops] at hs
  have hf : fullA S h (evalOperand (put dst v env)) o = fullA S h (evalOperand env) o := by unfold fullA; rw [callee_congr hops]
  rw [hf] at hs
  cases hv : headVal P S ops s o (env, h) with
  | some r =>
    rw [hv] at hs
    simp only [Option.map_some, Option.some.injEq] at hs ⊢
    refine ⟨_, rfl, ?_⟩
    rw [← hs]
    simp only [after, hpc]
  | none =>
    rw [hv] at hs
    simp only [Option.map_none] at hs ⊢
    split at hs
    · rename_i hw
      split at hs
      · cases hs
      · rename_i hc
        rw [if_neg hc]
        split at hs
        · rename_i u h' he
          cases hs
          refine ⟨_, rfl, ?_⟩
          simp only [hpc]
        · rename_i he
          simp only [Option.map_eq_some_iff] at hs ⊢
          obtain ⟨r, hr, rfl⟩ := hs
          refine ⟨_, ⟨r, hr, rfl⟩, ?_⟩
          simp only [hpc]
    · cases hs
/-- A call of a function by its name. -/
def callOf (o : Oper) : Option FuncId := match o.op with
  | .call { callee := .value (.func g), .. } => some g
  | _ => none
theorem call_step {ops : Array Oper} {s g : Nat} {o : Oper} {st : St} (hc : callOf o = some g) (hq : S.q g = none) (hw : wantedA ops st.1 o = some true) :
    stepA P S ops s o st = ((calleeA (evalOperand st.1) o).bind fun c => (S.f g).bind fun sp => sp c.2 st.2).map fun r => (put o.dst r.1 st.1, r.2) := by
  unfold callOf at hc
  split at hc
  · rename_i g' args tys hop
    cases hc
    have h1 : isAlloc P o = false := by unfold isAlloc; rw [hop]
    have h2 : isStore o = false := by unfold isStore; rw [hop]
    have h3 : ∀ h E, evalPure P h E o = none := fun h E => by unfold evalPure; rw [hop]
    have h5 : ∀ h E s, evalEff P h E s o = none := fun h E s => by unfold evalEff; rw [hop]
    have h6 : ∀ c, calleeA (evalOperand st.1) o = some c → c.1 = g := fun c hc => by
      unfold calleeA at hc
      rw [hop] at hc
      simp only [evalOperand, Option.map_eq_some_iff] at hc
      obtain ⟨vs, _, rfl⟩ := hc
      rfl
    have h4 : quietA S st.2 (evalOperand st.1) o = none := by
      unfold quietA
      cases hcc : calleeA (evalOperand st.1) o with
      | none => rfl
      | some c => simp only [Option.bind_some]; rw [h6 c hcc, hq]; rfl
    unfold stepA headStep0 headVal
    simp only [hw, h1, h2, h3, h4, h5, Bool.false_eq_true, if_false, Option.map_none, Bool.false_and]
    congr 1
    unfold fullA
    cases hcc : calleeA (evalOperand st.1) o with
    | none => rfl
    | some c => simp only [Option.bind_some]; rw [h6 c hcc]
  · cases hc
/-- The loads that have been done: of what type, from where. -/
abbrev Lds := List (Option (TypeId × AV))
def ldOf (ops : Array Oper) (env : List AV) (o : Oper) : Option (TypeId × AV) := match o.op with
  | .load t a => match wantedA ops env o with
    | some true => (evalOperand env a).map (t, ·)
    | _ => none
  | _ => none
theorem ldOf_put {ops : Array Oper} {env : List AV} {dst : Option Tmp} {v : AV} {o : Oper} (hd : ∀ d, dst = some d → d ∉ o.looksAt ops) : ldOf ops (put dst v env) o = ldOf ops env o := by
  unfold ldOf
  cases hop : o.op <;> try rfl
  rename_i t a
  simp only
  rw [wantedA_put hd, operands_put hd a (by simp [hop, Op.operands])]
theorem ldOf_false {ops : Array Oper} {env : List AV} {o : Oper} (hw : wantedA ops env o = some false) : ldOf ops env o = none := by
  unfold ldOf
  rw [hw]
  cases o.op <;> rfl
theorem stepA_form {ops : Array Oper} {s : Nat} {o : Oper} {env : List AV} {h : AHeap} {st' : St} (e1 : stepA P S ops s o (env, h) = some st') : ∃ u, st'.1 = put o.dst u env := by
  unfold stepA headStep0 at e1
  split at e1
  · rename_i st1 hst
    simp only [Option.map_eq_some_iff] at hst
    obtain ⟨r, _, rfl⟩ := hst
    cases e1; exact ⟨_, rfl⟩
  · split at e1
    · split at e1
      · cases e1
      · split at e1
        · cases e1; exact ⟨_, rfl⟩
        · simp only [Option.map_eq_some_iff] at e1
          obtain ⟨r, _, rfl⟩ := e1
          exact ⟨_, rfl⟩
    · cases e1
def Stable (P : Program) (ops : Array Oper) (j : Nat) (h h' : AHeap) (log : Lds) : Prop := ∀ i t p, log[i]? = some (some (t, p)) → waits ops i j = false → loadA P h' t p = loadA P h t p
def setLd (log : Lds) (i : Nat) : Option (TypeId × AV) → Lds
  | some q => log.set i (some q)
  | none => log
/-- A step: one of those that go their own way, or one that may be done early. -/
def MixStep (P : Program) (S : Specs) (T : List Nat) (ops : Array Oper) (i s : Nat) (o : Oper) (x x' : St × Lds) : Prop :=
  if T.contains i then stepA P S ops s o x.1 = some x'.1 ∧ x'.2 = x.2 ∧ Stable P ops i x.1.2 x'.1.2 x.2
  else freeOp P o = true ∧ ∃ r, headVal P S ops s o x.1 = some r ∧ x' = (after s o x.1 r, setLd x.2 i (ldOf ops x.1.1 o))
theorem mix_stepA {T : List Nat} {ops : Array Oper} {i s : Nat} {o : Oper} {x x' : St × Lds} (h : MixStep P S T ops i s o x x') : stepA P S ops s o x.1 = some x'.1 := by
  unfold MixStep at h
  split at h
  · exact h.1
  · obtain ⟨_, r, h1, rfl⟩ := h
    unfold stepA headStep0
    rw [h1]; rfl
theorem good_stepA (hS : S.OK P) {ops : Array Oper} {s : Nat} {o : Oper} {st st' : St} (hg : Good st) (h1 : stepA P S ops s o st = some st') : Good st' := by
  obtain ⟨B, w0, ρ0, a, w, hR⟩ := rel_of_good hg
  have h2 := step_sound (K := fun _ _ => Good st') (Q := fun _ _ _ => Good st') hS hR h1 (fun a' w' hR' => good_of_rel hR')
  split at h2
  · unfold Oper.wp at h2
    generalize (execOp a.eval o).run P w = r at h2
    cases r with
    | ok x w' =>
      cases x <;> simp only [Oper.upon] at h2 <;> first | exact h2 | skip
      · obtain ⟨e, w'', fr, hR, -⟩ := h2 []
        cases e <;> simp only [LetsOut] at hR <;> first | exact hR | (obtain ⟨_, _, h⟩ := hR; exact h)
      · obtain ⟨v, w'', hR, -⟩ := h2 default []
        exact hR
    | halt x w' => cases x <;> simp only [Oper.upon] at h2 <;> exact h2
  · exact h2
def LdInv (ops : Array Oper) (listed : Array Bool) (log : Lds) : Prop := log.length = ops.size ∧ ∀ i, i < ops.size → listed.getD i true = false → log[i]? = some none
theorem ldInv_step {T : List Nat} {ops : Array Oper} {listed : Array Bool} {i s : Nat} {o : Oper} {x x' : St × Lds} (hl : LdInv ops listed x.2) (h : MixStep P S T ops i s o x x') : LdInv ops (listed.setIfInBounds i true) x'.2 := by
  have hne : ∀ j, (listed.setIfInBounds i true).getD j true = false → j ≠ i ∧ listed.getD j true = false := fun j hj => by
    by_cases hij : i = j
    · subst hij
      rcases Nat.lt_or_ge i listed.size with q | q
      · simp [q] at hj
      · simp [Array.getElem?_eq_none q] at hj
    · rw [getD_set_ne true hij] at hj; exact ⟨fun e => hij e.symm, hj⟩
  unfold MixStep at h
  split at h
  · rw [h.2.1]
    exact ⟨hl.1, fun j hj hlj => hl.2 j hj (hne j hlj).2⟩
  · obtain ⟨_, r, _, rfl⟩ := h
    simp only
    cases ldOf ops x.1.1 o with
    | none => exact ⟨hl.1, fun j hj hlj => hl.2 j hj (hne j hlj).2⟩
    | some q =>
      refine ⟨by simp [setLd, hl.1], fun j hj hlj => ?_⟩
      obtain ⟨h1, h2⟩ := hne j hlj
      simp only [setLd]
      rw [List.getElem?_set_ne (fun e => h1 e.symm)]
      exact hl.2 j hj h2
theorem setLd_comm {log : Lds} {i j : Nat} (hij : i ≠ j) (a b : Option (TypeId × AV)) : setLd (setLd log i a) j b = setLd (setLd log j b) i a := by
  cases a <;> cases b <;> simp only [setLd]
  rw [List.set_comm _ _ hij]
/-- One that may be done early, moved behind another. -/
theorem mix_swap (hS : S.OK P) {T : List Nat} {ops : Array Oper} {i j si sj : Nat} {oi oj : Oper} {x x1 x2 : St × Lds} (hij : i ≠ j) (hiT : T.contains i = false) (hg : Good x.1) (hli : x.2[i]? = some none) (hap : oi.apart ops oj = true)
    (hno : waits ops i j = false) (hss : isAlloc P oi = true → isAlloc P oj = true → si ≠ sj) (hu : isAlloc P oi = true → T.contains j = true → ∃ g, callOf oj = some g ∧ UniF S g)
    (hi : MixStep P S T ops i si oi x x1) (hj : MixStep P S T ops j sj oj x1 x2) :
    ∃ x', MixStep P S T ops j sj oj x x' ∧ MixStep P S T ops i si oi x' x2 := by
  obtain ⟨h1, h2, h3⟩ := Oper.apart_spec hap
  unfold MixStep at hi
  rw [hiT] at hi
  simp only [Bool.false_eq_true, if_false] at hi
  obtain ⟨hfi, ri, hri, rfl⟩ := hi
  have hld1 : ldOf ops (after si oi x.1 ri).1 oj = ldOf ops x.1.1 oj := by simp only [after]; exact ldOf_put h1
  by_cases hjT : T.contains j = true
  · unfold MixStep at hj
    rw [if_pos hjT] at hj
    obtain ⟨hj1, hj2, hj3⟩ := hj
    simp only at hj1 hj2 hj3
    have hlog : ∀ k t p, x.2[k]? = some (some (t, p)) → (setLd x.2 i (ldOf ops x.1.1 oi))[k]? = some (some (t, p)) := fun k t p hk => by
      cases ldOf ops x.1.1 oi with
      | none => exact hk
      | some q =>
        simp only [setLd]
        have : i ≠ k := fun e => by rw [← e, hli] at hk; cases hk
        rw [List.getElem?_set_ne this]; exact hk
    obtain ⟨st, log⟩ := x
    obtain ⟨env, h⟩ := st
    rcases free_val hfi hri with ⟨hw, rfl⟩ | ⟨hw, ha, v, rfl, hv⟩ | ⟨hw, ha, hh, q, hq, rfl⟩
    · simp only [after, applyEff] at hj1 hj3
      obtain ⟨st', e1, e2⟩ := stepA_put h1 (fun d hd => h2 d hd) hj1
      refine ⟨(st', log), ?_, ?_⟩
      · unfold MixStep
        rw [if_pos hjT]
        exact ⟨e1, rfl, fun k t p hk hwk => by have := hj3 k t p (hlog k t p hk) hwk; rw [e2] at this; exact this⟩
      · unfold MixStep
        rw [hiT]
        simp only [Bool.false_eq_true, if_false]
        have hw' : wantedA ops st'.1 oi = some false := by
          obtain ⟨u, hu⟩ := stepA_form e1
          rw [hu, wantedA_put h3]; exact hw
        refine ⟨hfi, (.und, .no), by unfold headVal; rw [hw'], ?_⟩
        have hl0 : ldOf ops env oi = none := ldOf_false hw
        have hl1 : ldOf ops st'.1 oi = none := ldOf_false hw'
        simp only [hl1]
        simp only [hl0] at hj2
        exact Prod.ext e2 hj2
    · simp only [after, applyEff] at hj1 hj3
      obtain ⟨st', e1, e2⟩ := stepA_put h1 (fun d hd => h2 d hd) hj1
      obtain ⟨u, hu'⟩ := stepA_form e1
      have hst3 : Stable P ops j h st'.2 (setLd log i (ldOf ops env oi)) := fun k t p hk hwk => by have := hj3 k t p hk hwk; rw [e2] at this; exact this
      refine ⟨(st', log), ?_, ?_⟩
      · unfold MixStep
        rw [if_pos hjT]
        exact ⟨e1, rfl, fun k t p hk hwk => hst3 k t p (hlog k t p hk) hwk⟩
      · unfold MixStep
        rw [hiT]
        simp only [Bool.false_eq_true, if_false]
        have hw' : wantedA ops st'.1 oi = some true := by rw [hu', wantedA_put h3]; exact hw
        have hpv : evalPure P st'.2 (evalOperand st'.1) oi = some v := by
          have hops := operands_put (v := u) (env := env) h3
          rw [hu', evalPure_congr hops]
          rw [← hv]
          unfold freeOp at hfi
          rw [ha] at hfi
          simp only [Bool.false_and, Bool.or_false, Bool.or_eq_true] at hfi
          rcases hfi with hfl | hlo
          · exact flat_pure hfl
          · unfold isLoad at hlo
            cases hop : oi.op <;> simp only [hop, Bool.false_eq_true] at hlo
            rename_i t a
            have hla : ldOf ops env oi = (evalOperand env a).map (t, ·) := by unfold ldOf; simp only [hop, hw]
            unfold evalPure
            simp only [hop]
            cases hEa : evalOperand env a with
            | none => rfl
            | some p =>
              simp only [Option.bind_some]
              rw [hEa, Option.map_some] at hla
              have hlt : i < log.length := by
                rcases Nat.lt_or_ge i log.length with q | q
                · exact q
                · simp [List.getElem?_eq_none q] at hli
              refine hst3 i t p ?_ hno
              rw [hla]
              simp only [setLd]
              rw [List.getElem?_set_self hlt]
        refine ⟨hfi, (v, .no), ?_, ?_⟩
        · unfold headVal
          rw [hw']
          simp only [ha, free_noStore hfi, Bool.false_eq_true, if_false, hpv]
        · have : ldOf ops st'.1 oi = ldOf ops env oi := by rw [hu']; exact ldOf_put h3
          simp only [this]
          exact Prod.ext e2 hj2
    · obtain ⟨g, hcg, hug⟩ := hu ha hjT
      have hl0 : ldOf ops env oi = none := by
        unfold ldOf
        unfold isAlloc at ha
        cases hop : oi.op <;> simp only [hop] at ha ⊢
        cases ha
      simp only [after, applyEff] at hj1 hj3
      have hops := operands_put (v := q.1) (env := env) h1
      have hops3 : ∀ u, ∀ y ∈ oi.op.operands, evalOperand (put oj.dst u env) y = evalOperand env y := fun u => operands_put (v := u) (env := env) h3
      have hole := hole_of hh
      have fin : ∀ (u : AV) (h' : AHeap), h'[si]? = some .hole → x2.1 = (put oj.dst u (put oi.dst q.1 env), h'.set si q.2) → MixStep P S T ops i si oi ((put oj.dst u env, h'), log) x2 := fun u h' hh' hx2 => by
        unfold MixStep
        rw [hiT]
        simp only [Bool.false_eq_true, if_false]
        have hw' : wantedA ops (put oj.dst u env) oi = some true := by rw [wantedA_put h3]; exact hw
        have hho : isHole h' si = true := by unfold isHole; rw [hh']
        refine ⟨hfi, (q.1, .fill q.2), ?_, ?_⟩
        · unfold headVal
          simp only [hw', ha, if_true, hho, evalAlloc_congr (hops3 u), hq, Option.map_some]
        · have : ldOf ops (put oj.dst u env) oi = none := by rw [ldOf_put h3]; exact hl0
          simp only [this, setLd, after, applyEff]
          rw [hl0] at hj2
          refine Prod.ext ?_ hj2
          rw [hx2, put_comm (fun d hd => fun e => h2 d e hd)]
      cases hwj : wantedA ops env oj with
      | none =>
        exfalso
        unfold stepA headStep0 headVal at hj1
        simp only [wantedA_put h1, hwj] at hj1
        cases hj1
      | some b =>
        cases b with
        | false =>
          have e0 : ∀ env' h', wantedA ops env' oj = some false → stepA P S ops sj oj (env', h') = some (put oj.dst .und env', h') := fun env' h' hw => by
            unfold stepA headStep0 headVal
            simp only [hw, Option.map_some, after, applyEff]
          rw [e0 _ _ (by rw [wantedA_put h1]; exact hwj)] at hj1
          refine ⟨((put oj.dst .und env, h), log), ?_, fin .und h hole (Option.some.inj hj1).symm⟩
          unfold MixStep
          rw [if_pos hjT]
          exact ⟨e0 _ _ hwj, rfl, fun k t p _ _ => rfl⟩
        | true =>
          have hwj' : wantedA ops (put oi.dst q.1 env) oj = some true := by rw [wantedA_put h1]; exact hwj
          rw [call_step hcg hug.1 hwj'] at hj1
          simp only [Option.map_eq_some_iff, Option.bind_eq_some_iff] at hj1
          obtain ⟨⟨v, hp2⟩, ⟨c, hc, sp, hsp, hv⟩, hx2⟩ := hj1
          simp only [callee_congr hops] at hc
          obtain ⟨ρ, B, w0, w, hI, hok⟩ := hg
          obtain ⟨h', hv', hh', hp'⟩ := hug.2 sp hsp c.2 h si q.2 v hp2 hole ⟨ρ, callee_ok hok hc, hI.wf⟩ hv
          have hstep : stepA P S ops sj oj (env, h) = some (put oj.dst v env, h') := by
            rw [call_step hcg hug.1 hwj]
            simp only [hc, hsp, hv', Option.bind_some, Option.map_some]
          refine ⟨((put oj.dst v env, h'), log), ?_, fin v h' hh' (by rw [← hx2, hp'])⟩
          unfold MixStep
          rw [if_pos hjT]
          refine ⟨hstep, rfl, fun k t p hk hwk => ?_⟩
          have h7 := hj3 k t p (hlog k t p hk) hwk
          rw [← hx2] at h7
          simp only [hp'] at h7
          have hne : ∀ {h : AHeap}, h[si]? = some .hole → ∀ z, loadA P (h.set si z) t p = loadA P h t p ∨ (∃ q, p = .ptr (some (si, q))) := fun {h} hh0 z => by
            unfold loadA
            split
            · rename_i k' q'
              by_cases hks : k' = si
              · exact .inr ⟨q', by rw [hks]⟩
              · left
                have : cellsAt (h.set si z) k' = cellsAt h k' := by unfold cellsAt; rw [List.getElem?_set_ne (fun e => hks e.symm)]
                rw [this]
            · exact .inl rfl
          rcases hne hole q.2 with e1 | ⟨q', rfl⟩
          · rcases hne hh' q.2 with e2 | ⟨q', rfl⟩
            · rw [← e1, ← e2]; exact h7
            · simp [loadA, cellsAt, hole, hh', objCells]
          · simp [loadA, cellsAt, hole, hh', objCells]
  · have hjT' : T.contains j = false := by simpa using hjT
    unfold MixStep at hj
    rw [hjT'] at hj
    simp only [Bool.false_eq_true, if_false] at hj
    obtain ⟨hfj, rj, hrj, rfl⟩ := hj
    have hlog : ∀ (o : Oper) (m s : Nat) (st : St) (r : AV × HEff) (L0 : Log), freeOp P o = true → headVal P S ops s o st = some r → headStep P S [] ops m s o (st, L0) = some (after s o st r, L0) := fun o m s st r L0 hf hv => by
      unfold headStep
      simp only [hv, Option.bind_some]
      have : rngOf P ops [] m o st r = none := by
        unfold rngOf
        split
        · rename_i k q vs he
          have := (headVal_fits hv).2.2 k q vs he
          rw [free_noStore hf] at this; cases this
        · rfl
      rw [this]
    have hback : ∀ (o : Oper) (m s : Nat) (st : St) (L0 : Log) (y : St × Log), freeOp P o = true → headStep P S [] ops m s o (st, L0) = some y → ∃ r, headVal P S ops s o st = some r ∧ y = (after s o st r, L0) := fun o m s st L0 y hf hv => by
      have hv' := hv
      unfold headStep at hv
      simp only [Option.bind_eq_some_iff] at hv
      obtain ⟨r, hr, _⟩ := hv
      exact ⟨r, hr, by rw [hlog o m s st r L0 hf hr] at hv'; exact (Option.some.inj hv').symm⟩
    have hilt : i < x.2.length := by
      rcases Nat.lt_or_ge i x.2.length with q | q
      · exact q
      · simp [List.getElem?_eq_none q] at hli
    have hco : compat P [] i j oi oj = true := by unfold compat; rw [free_noStore hfi, free_noStore hfj]; rfl
    obtain ⟨y, hy1, hy2⟩ := head_swap hS hij hg (x := (x.1, List.replicate x.2.length none)) (ls := []) (by rw [List.getElem?_replicate, if_pos hilt]) hap hco hss (hlog oi i si x.1 ri _ hfi hri) (hlog oj j sj _ rj _ hfj hrj)
    obtain ⟨r1, hr1, rfl⟩ := hback oj j sj x.1 _ y hfj hy1
    obtain ⟨r2, hr2, he⟩ := hback oi i si _ _ _ hfi hy2
    have hld3 : ldOf ops (after sj oj x.1 r1).1 oi = ldOf ops x.1.1 oi := by simp only [after]; exact ldOf_put h3
    refine ⟨(after sj oj x.1 r1, setLd x.2 j (ldOf ops x.1.1 oj)), ?_, ?_⟩
    · unfold MixStep
      rw [hjT']
      simp only [Bool.false_eq_true, if_false]
      exact ⟨hfj, r1, hr1, rfl⟩
    · unfold MixStep
      rw [hiT]
      simp only [Bool.false_eq_true, if_false]
      refine ⟨hfi, r2, hr2, ?_⟩
      rw [hld1, hld3, setLd_comm hij]
      have he' := congrArg Prod.fst he
      exact Prod.ext he' rfl
/-- Whatever order is picked. -/
def amMix (P : Program) (S : Specs) (T : List Nat) (ops : Array Oper) (sl : Nat → Nat) (L : Array Bool → St → Prop) : Nat → Array Bool → St × Lds → Prop
  | 0, listed, x => L listed x.1
  | f + 1, listed, x => Region.ready .any ops listed ≠ [] ∧ ∀ i ∈ Region.ready .any ops listed, ∃ o x', ops[i]? = some o ∧ MixStep P S T ops i (sl i) o x x' ∧ amMix P S T ops sl L f (listed.setIfInBounds i true) x'
theorem waits_no {ops : Array Oper} {i j : Nat} {oj : Oper} (hoj : ops[j]? = some oj) : waits ops i j = false ↔ ∀ e ∈ oj.after, Region.binds .any e = true → e.on ≠ i := by
  unfold waits
  rw [hoj]
  simp only [Array.any_eq_false', Bool.and_eq_true, beq_iff_eq, not_and]
/-- It waits for the other one, or for one that does. -/
def waits2 (ops : Array Oper) (i j : Nat) : Bool := waits ops i j || (List.range ops.size).any fun k => waits ops k j && waits ops i k
/-- What is listed waits for nothing that is not. -/
def Closed (ops : Array Oper) (listed : Array Bool) : Prop := ∀ i j, waits ops i j = true → listed.getD j false = true → listed.getD i false = true
theorem closed_start (ops : Array Oper) (n : Nat) : Closed ops (Array.replicate n false) := fun i j _ h => by
  exfalso
  rw [Array.getD_eq_getD_getElem?, Array.getElem?_replicate] at h
  split at h <;> cases h
theorem getD_set_mono {l : Array Bool} {i j : Nat} (h : l.getD i false = true) : (l.setIfInBounds j true).getD i false = true := by
  rw [Array.getD_eq_getD_getElem?] at h ⊢
  rw [Array.getElem?_setIfInBounds]
  split
  · split
    · rfl
    · rename_i h1 h2
      subst h1
      rw [Array.getElem?_eq_none (by omega)] at h; cases h
  · exact h
theorem getD_set_or {l : Array Bool} {i j : Nat} (h : (l.setIfInBounds j true).getD i false = true) : i = j ∨ l.getD i false = true := by
  by_cases hij : j = i
  · exact .inl hij.symm
  · right
    rw [Array.getD_eq_getD_getElem?] at h ⊢
    rw [Array.getElem?_setIfInBounds, if_neg hij] at h
    exact h
theorem ready_waits {ops : Array Oper} {listed : Array Bool} {i j : Nat} (hj : j ∈ Region.ready .any ops listed) (hw : waits ops i j = true) : listed.getD i false = true := by
  obtain ⟨hjun, oj, hoj, hall⟩ := mem_ready.1 hj
  unfold waits at hw
  rw [hoj] at hw
  simp only [Array.any_eq_true', Bool.and_eq_true, beq_iff_eq] at hw
  obtain ⟨e, he, hb, rfl⟩ := hw
  exact hall e he hb
theorem closed_step {ops : Array Oper} {listed : Array Bool} {j : Nat} (hc : Closed ops listed) (hj : j ∈ Region.ready .any ops listed) : Closed ops (listed.setIfInBounds j true) := fun i k hw hk => by
  rcases getD_set_or hk with rfl | hk
  · exact getD_set_mono (ready_waits hj hw)
  · exact getD_set_mono (hc i k hw hk)
theorem waits2_no {ops : Array Oper} {listed : Array Bool} {i j : Nat} (hc : Closed ops listed) (hj : j ∈ Region.ready .any ops listed) (hun : listed.getD i true = false) : waits2 ops i j = false := by
  rw [Bool.eq_false_iff]
  intro h
  have hn : listed.getD i false = false := getD_both hun
  unfold waits2 at h
  rcases Bool.or_eq_true _ _ |>.mp h with h | h
  · rw [ready_waits hj h] at hn; cases hn
  · obtain ⟨k, _, hk⟩ := List.any_eq_true.1 h
    simp only [Bool.and_eq_true] at hk
    rw [hc i k hk.2 (ready_waits hj hk.1)] at hn; cases hn
theorem amMix_first (hS : S.OK P) {T : List Nat} {ops : Array Oper} {sl : Nat → Nat} {i : Nat} {oi : Oper} {L : Array Bool → St → Prop} (hi : ops[i]? = some oi) (hiT : T.contains i = false)
    (hsl : ∀ j oj, ops[j]? = some oj → j ≠ i → isAlloc P oi = true → isAlloc P oj = true → sl i ≠ sl j) (hdone : ∀ listed st, L listed st → Region.ready .any ops listed = []) :
    ∀ (f : Nat) (listed : Array Bool) (x x1 : St × Lds), Good x.1 → LdInv ops listed x.2 → Closed ops listed →
      (∀ j oj, ops[j]? = some oj → j ≠ i → listed.getD j true = false → waits2 ops i j = false → oi.apart ops oj = true ∧ (isAlloc P oi = true → T.contains j = true → ∃ g, callOf oj = some g ∧ UniF S g)) →
      i ∈ Region.ready .any ops listed → MixStep P S T ops i (sl i) oi x x1 →
      amMix P S T ops sl L f (listed.setIfInBounds i true) x1 → amMix P S T ops sl L (f + 1) listed x := by
  have hisz : i < ops.size := by
    rcases Nat.lt_or_ge i ops.size with q | q
    · exact q
    · simp [Array.getElem?_eq_none q] at hi
  intro f
  induction f with
  | zero =>
    intro listed x x1 hg hlog hcl _ hr hy H
    refine ⟨fun h => (by rw [h] at hr; cases hr), fun j hj => ?_⟩
    by_cases hji : j = i
    · subst hji; exact ⟨oi, x1, hi, hy, H⟩
    · have h1 := hdone _ _ H
      have h2 := ready_mono hj hji
      rw [h1] at h2; cases h2
  | succ f ih =>
    intro listed x x1 hg hlog hcl hfree hr hy H
    have hun := (mem_ready.1 hr).1
    refine ⟨fun h => (by rw [h] at hr; cases hr), fun j hj => ?_⟩
    by_cases hji : j = i
    · subst hji; exact ⟨oi, x1, hi, hy, H⟩
    · obtain ⟨oj', x2, hoj', hs2, H2⟩ := H.2 j (ready_mono hj hji)
      obtain ⟨hjun, oj, hoj, hall⟩ := mem_ready.1 hj
      have : oj' = oj := Option.some.inj (hoj'.symm.trans hoj)
      subst this
      have hnot : waits ops i j = false := (waits_no hoj).2 fun e he hb heq => by
        have h1 := hall e he hb
        rw [heq, getD_both hun] at h1
        cases h1
      have hf := hfree j oj' hoj hji hjun (waits2_no hcl hj hun)
      obtain ⟨x', hs', hs3⟩ := mix_swap hS (fun e => hji e.symm) hiT hg (hlog.2 i hisz hun) hf.1 hnot (fun h1 h2 => hsl j oj' hoj hji h1 h2) hf.2 hy hs2
      refine ⟨oj', x', hoj, hs', ?_⟩
      have hfree' : ∀ k ok, ops[k]? = some ok → k ≠ i → (listed.setIfInBounds j true).getD k true = false → waits2 ops i k = false → oi.apart ops ok = true ∧ (isAlloc P oi = true → T.contains k = true → ∃ g, callOf ok = some g ∧ UniF S g) := fun k ok hk hki hun' hno => by
        refine hfree k ok hk hki ?_ hno
        by_cases hjk : j = k
        · subst hjk; exact hjun
        · rw [getD_set_ne true hjk] at hun'; exact hun'
      refine ih (listed.setIfInBounds j true) x' x2 (good_stepA hS hg (mix_stepA hs')) (ldInv_step hlog hs') (closed_step hcl hj) hfree' (ready_mono hr (Ne.symm hji)) hs3 ?_
      rw [Array.setIfInBounds_comm _ _ hji]
      exact H2
/-- Operations in a certain order. -/
def RunMix (P : Program) (S : Specs) (T : List Nat) (ops : Array Oper) (sl : Nat → Nat) : List Nat → St × Lds → St × Lds → Prop
  | [], x, x' => x' = x
  | i :: l, x, x' => ∃ o y, ops[i]? = some o ∧ MixStep P S T ops i (sl i) o x y ∧ RunMix P S T ops sl l y x'
def freeM (P : Program) (H0 T : List Nat) (ops : Array Oper) (i : Nat) : Bool := match ops[i]? with
  | none => true
  | some oi => !isAlloc P oi || (H0.contains i && T.all fun j => waits2 ops i j || (match ops[j]? with | some oj => (callOf oj).isSome | none => true))
/-- One after the other: the only one that may be picked, or one that may be done early. -/
def lexMixB (P : Program) (H0 T : List Nat) (ops : Array Oper) : List Nat → Array Bool → Bool
  | [], listed => (Region.ready .any ops listed).isEmpty
  | i :: L, listed => (decide (Region.ready .any ops listed = [i]) || ((Region.ready .any ops listed).contains i && !T.contains i && Region.free .any ops listed i && freeM P H0 T ops i)) && lexMixB P H0 T ops L (listed.setIfInBounds i true)
/-- The functions that are to leave a row alone that is not made yet. -/
def uniOf (P : Program) (ops : Array Oper) (H T : List Nat) : List FuncId := T.filterMap fun j => if H.any fun i => (match ops[i]? with | some oi => isAlloc P oi | none => false) && !waits ops i j then (ops[j]?).bind callOf else none
theorem mix_lex (hS : S.OK P) {H0 T : List Nat} {ops : Array Oper} {sl : Nat → Nat} (hsl : ∀ i j oi oj, ops[i]? = some oi → ops[j]? = some oj → j ≠ i → isAlloc P oi = true → isAlloc P oj = true → sl i ≠ sl j)
    (hu : ∀ g ∈ uniOf P ops H0 T, UniF S g) : ∀ (L : List Nat) (listed : Array Bool) (x x' : St × Lds), Good x.1 → LdInv ops listed x.2 → Closed ops listed → lexMixB P H0 T ops L listed = true → RunMix P S T ops sl L x x' →
      amMix P S T ops sl (fun listed st => Region.ready .any ops listed = [] ∧ st = x'.1) L.length listed x
  | [], listed, x, x', _, _, _, hB, hr => by
    have hr : x' = x := hr
    subst hr
    exact ⟨by simpa [lexMixB] using hB, rfl⟩
  | i :: L, listed, x, x', hg, hlog, hcl, hB, hr => by
    obtain ⟨oi, y, hoi, hs, hr⟩ := hr
    simp only [lexMixB, Bool.and_eq_true, Bool.or_eq_true, decide_eq_true_eq, Bool.not_eq_true'] at hB
    obtain ⟨hB0, hB'⟩ := hB
    have hr' : i ∈ Region.ready .any ops listed := by
      rcases hB0 with h | ⟨⟨⟨h, _⟩, _⟩, _⟩
      · rw [h]; simp
      · simpa using h
    have next := mix_lex hS hsl hu L _ y x' (good_stepA hS hg (mix_stepA hs)) (ldInv_step hlog hs) (closed_step hcl hr') hB' hr
    rcases hB0 with hone | ⟨⟨⟨hrd, hiT⟩, hf⟩, hfm⟩
    · refine ⟨fun h => (by rw [h] at hone; cases hone), fun k hk => ?_⟩
      rw [hone] at hk
      have hki : k = i := by simpa using hk
      subst hki
      exact ⟨oi, y, hoi, hs, next⟩
    · refine amMix_first hS hoi hiT (fun j oj hj hji => hsl i j oi oj hoi hj hji) (fun listed st hL => hL.1) _ listed x y hg hlog hcl (fun j oj hj hji hun hno => ⟨Region.free_spec hoi hf j oj hj hji hun ((waits_no hj).1 (by unfold waits2 at hno; exact (Bool.or_eq_false_iff.1 hno).1)), fun ha hjT => ?_⟩) hr' hs next
      unfold freeM at hfm
      rw [hoi] at hfm
      simp only [ha, Bool.not_true, Bool.false_or, Bool.and_eq_true, List.all_eq_true] at hfm
      have hjm : j ∈ T := by simpa using hjT
      have h1 := hfm.2 j hjm
      rw [hno, hj] at h1
      simp only [Bool.false_or] at h1
      obtain ⟨g, hg'⟩ := Option.isSome_iff_exists.1 h1
      refine ⟨g, hg', hu g ?_⟩
      unfold uniOf
      refine List.mem_filterMap.2 ⟨j, hjm, ?_⟩
      rw [if_pos (List.any_eq_true.2 ⟨i, by simpa using hfm.1, by rw [hoi]; simp [ha, (Bool.or_eq_false_iff.1 (show (waits ops i j || _) = false from hno)).1]⟩), hj]
      exact hg'
theorem wpAnyIn_of_mix (hS : S.OK P) {R : Option Nat} {T : List Nat} {ops : Array Oper} {sl : Nat → Nat} {ds : List Deferred} {B : Fr} {w0 : World} {ρ0 : Rho} {h0 : AHeap} {L : Array Bool → St → Prop} {Q' : Exit → Act → World → Prop}
    (hL : ∀ listed st a w, L listed st → RelD ds B w0 ρ0 h0 st a w → Region.ready .any ops listed = [] ∧ Q' .normal a w) :
    ∀ (f : Nat) (listed : Array Bool) (x : St × Lds) (a : Act) (w : World), amMix P S T ops sl L f listed x → RelD ds B w0 ρ0 h0 x.1 a w → wpAnyIn (fR R) 0 P .any ops Q' f listed a w
  | 0, listed, x, a, w, h, hR => hL _ _ _ _ h hR
  | f + 1, listed, x, a, w, h, hR => by
    refine ⟨fun h0 => absurd h0 h.1, fun i hi => ?_⟩
    obtain ⟨o, x', ho, hs, h'⟩ := h.2 i hi
    have := step_in (R := R) (Q := Q') hS hR (mix_stepA hs) (K := wpAnyIn (fR R) 0 P .any ops Q' f (listed.setIfInBounds i true)) (fun a' w' hR' => wpAnyIn_of_mix hS hL f _ x' a' w' h' hR')
    unfold wpOpIn
    simp only [ho]
    exact this
theorem mix_soundD (hm : P.follows .mixedOrders = true) (hS : S.OK P) {R : Option Nat} {id : Nat} {H0 T L : List Nat} {ops : Array Oper} {ds : List Deferred} {B : Fr} {w0 : World} {ρ0 : Rho} {h0 : AHeap} {st : St} {x' : St × Lds} {a : Act} {w : World} {Q : Exit → Act → World → Prop}
    (hB : lexMixB P H0 T ops L (Array.replicate ops.size false) = true) (hsz : L.length = ops.size) (hu : ∀ g ∈ uniOf P ops H0 T, UniF S g)
    (hr : RunMix P S T ops (slotOf P ops.toList st.2.length) L (withHoles (nAlloc P ops.toList) st, List.replicate ops.size none) x')
    (hR : RelD ds B w0 ρ0 h0 st a w) (hQ : ∀ a' w', RelD ds B w0 ρ0 h0 x'.1 a' w' → Q .normal a' w') : (Code.region id ops true).wpIn (fR R) 0 P Q a w := by
  have hR1 := rel_drew (rel_holes (nAlloc P ops.toList) hR)
  refine wpIn_region_any hm ?_
  have h1 := mix_lex (P := P) (S := S) hS (fun i j oi oj hi hj hne ai aj => slots_ne (s := st.2.length) hi hj hne ai aj) hu L (Array.replicate ops.size false) _ x' (good_of_rel hR1) ⟨by simp, fun i hi _ => by simp [hi]⟩ (closed_start _ _) hB hr
  rw [hsz] at h1
  refine wpAnyIn_of_mix hS (fun listed st'' a' w' hL hR' => ?_) _ _ _ a _ h1 hR1
  obtain ⟨h2, rfl⟩ := hL
  exact ⟨h2, hQ a' w' hR'⟩
theorem mix_sound (hm : P.follows .mixedOrders = true) (hS : S.OK P) {R : Option Nat} {id : Nat} {H0 T L : List Nat} {ops : Array Oper} {B : Fr} {w0 : World} {ρ0 : Rho} {h0 : AHeap} {st : St} {x' : St × Lds} {a : Act} {w : World} {Q : Exit → Act → World → Prop}
    (hB : lexMixB P H0 T ops L (Array.replicate ops.size false) = true) (hsz : L.length = ops.size) (hu : ∀ g ∈ uniOf P ops H0 T, UniF S g)
    (hr : RunMix P S T ops (slotOf P ops.toList st.2.length) L (withHoles (nAlloc P ops.toList) st, List.replicate ops.size none) x')
    (hR : Rel B w0 ρ0 h0 st a w) (hQ : ∀ a' w', Rel B w0 ρ0 h0 x'.1 a' w' → Q .normal a' w') : (Code.region id ops true).wpIn (fR R) 0 P Q a w := by
  obtain ⟨B', w1, ds, hx, hR⟩ := hR
  exact mix_soundD hm hS hB hsz hu hr hR fun a' w' h => hQ a' w' ⟨B', w1, ds, hx, h⟩
end
end Go.Am
