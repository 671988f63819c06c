/- One step of a region; regions that draw their order. -/
import Derived.Test.YtfnlokknpldkgaaAmJ
import Derived.StillTail
import Derived.OrdersIn
import Derived.TacticsIn
import Derived.LoopNIn
import Derived.RangeFuncLeaves
import Derived.RangeFuncSeq
import Derived.RangeFuncOwn
set_option linter.unusedVariables false
set_option linter.unusedSimpArgs false
namespace Go.Am
open Go Go.RowKit
abbrev St := List AV × AHeap
/-- The fence of the machine's walks: no bound; a frame of a round, or none. -/
def fR (R : Option Nat) : Fence := { Fence.wide with round := R }
/-- An iterator over a slice of numbers: places and numbers, in order, till a round says no. -/
def IterOK (P : Program) (gf : FuncId) : Prop :=
  (∃ fn, P.funcs[gf]? = some fn ∧ fn.body.isSome = true ∧ fn.name ≠ "runtime.NumGoroutine") ∧
  ∀ (ba : Addr) (zs : List Int) (sl : Value) (l : Nat) (J : Nat → World → Prop) (Jx : World → Prop) (W : World), zs.length ≤ 9223372036854775807 →
    (∀ i W, J i W → W.cell? ba = some sl ∧ ((sl = .slice none 0 0 ∧ zs = []) ∨ ∃ b off cap, sl = .slice (some ⟨b, off, none⟩) zs.length cap ∧ ∀ j z, zs[j]? = some z → W.cell? ⟨b, off + j, none⟩ = some (.int .i64 z))) →
    (∀ (i : Nat) z W, J i W → zs[i]? = some z → YieldAt (fR none) 0 P l #[.int .i64 i, .int .i64 z] W fun e W' => (e = .returned (.bool true) ∧ J (i + 1) W') ∨ (e = .returned (.bool false) ∧ Jx W')) →
    J 0 W → CallsIn (fR none) 0 P gf #[.func (.yield l) #[] #[], .pointer (some ba)] W fun e W' => (∃ v, e = .returned v) ∧ (J zs.length W' ∨ Jx W')
/-- What is known of functions: those that leave memory as it was, and others; those that may be ranged over; those that do not mind rows that are not made yet. -/
structure Specs where
  q : FuncId → Option (List AV → AHeap → Option AV)
  f : FuncId → Option (List AV → AHeap → Option (AV × AHeap))
  rf : FuncId → Bool := fun _ => false
  u : FuncId → Bool := fun _ => false
/-- A contract that does not mind a row that is not made yet. -/
def Uni (s : List AV → AHeap → Option (AV × AHeap)) : Prop := ∀ args h k o v h2, h[k]? = some .hole →
  (∃ ρ : Rho, (∀ x ∈ args, AV.ok h ρ x) ∧ ∀ (j : Nat) (u : AObj), h[j]? = some u → u.refs (live h) (fun k => (ρ k).cap) = true) →
  s args (h.set k o) = some (v, h2) → ∃ h', s args h = some (v, h') ∧ h'[k]? = some .hole ∧ h2 = h'.set k o
def UniF (S : Specs) (g : FuncId) : Prop := S.q g = none ∧ ∀ s, S.f g = some s → Uni s
section
variable (P : Program) (S : Specs)
def put (dst : Option Tmp) (v : AV) (env : List AV) : List AV := match dst with
  | some d => env.set d v
  | none => env
/-- Whether an operation is wanted, as far as its guard goes. -/
def wantedA (ops : Array Oper) (env : List AV) (o : Oper) : Option Bool :=
  match o.guard with
  | none => some true
  | some (j, want) => match (ops[j]?).bind (·.dst) with
    | none => some false
    | some d => match env[d]? with
      | some (.bool b) => some (b == want)
      | some .any => none
      | some _ => some false
      | none => some false
def calleeA (E : Operand → Option AV) (o : Oper) : Option (FuncId × List AV) :=
  match o.op with
  | .call { callee := .value f, args, .. } => match E f with
    | some (.fn g first cap) => (args.toList.mapM E).map fun vs => (g, first ++ vs ++ cap)
    | _ => none
  | _ => none
def quietA (h : AHeap) (E : Operand → Option AV) (o : Oper) : Option AV :=
  (calleeA E o).bind fun c => (S.q c.1).bind fun s => s c.2 h
def fullA (h : AHeap) (E : Operand → Option AV) (o : Oper) : Option (AV × AHeap) :=
  (calleeA E o).bind fun c => (S.f c.1).bind fun s => s c.2 h
def isHole (h : AHeap) (s : Nat) : Bool := match h[s]? with
  | some .hole => true
  | _ => false
/-- What an operation of a head does to memory: nothing, a new block, cells that are written. -/
inductive HEff where
  | no
  | fill (x : AObj)
  | st (k o : Nat) (vs : List AV)
def isStore (o : Oper) : Bool := match o.op with
  | .store .. => true
  | _ => false
/-- Which cells a store writes, and what. -/
def storeVal (h : AHeap) (E : Operand → Option AV) (o : Oper) : Option (Nat × Nat × List AV) :=
  match o.op with
  | .store t a x => (E a).bind fun p => (E x).bind fun v => match p with
    | .ptr (some (k, q)) => match h[k]? with
      | some (.row _ _ cs) => (szOf P t).bind fun s => if v.plain && v.cells.all AV.one && v.cells.length == s && decide (q + s ≤ cs.length) then some (k, q, v.cells) else none
      | _ => none
    | _ => none
  | _ => none
def applyEff (h : AHeap) (s : Nat) : HEff → AHeap
  | .no => h
  | .fill x => h.set s x
  | .st k o vs => match h[k]? with
    | some (.row t sz cs) => h.set k (.row t sz (spliceA cs o vs))
    | _ => h
/-- An operation's value and what it does to memory, as far as a head goes. -/
def headVal (ops : Array Oper) (s : Nat) (o : Oper) (st : St) : Option (AV × HEff) :=
  match wantedA ops st.1 o with
  | none => none
  | some false => some (.und, .no)
  | some true =>
    if isAlloc P o then
      if isHole st.2 s then (evalAlloc P (evalOperand st.1) s o).map fun r => (r.1, .fill r.2) else none
    else if isStore o then (storeVal P st.2 (evalOperand st.1) o).map fun r => (.any, .st r.1 r.2.1 r.2.2)
    else match evalPure P st.2 (evalOperand st.1) o with
      | some v => some (v, .no)
      | none => (quietA S st.2 (evalOperand st.1) o).map (·, .no)
def after (s : Nat) (o : Oper) (st : St) (r : AV × HEff) : St := (put o.dst r.1 st.1, applyEff st.2 s r.2)
def headStep0 (ops : Array Oper) (s : Nat) (o : Oper) (st : St) : Option St := (headVal P S ops s o st).map (after s o st)
/-- One operation, of whatever kind. -/
def stepA (ops : Array Oper) (s : Nat) (o : Oper) (st : St) : Option St :=
  match headStep0 P S ops s o st with
  | some st' => some st'
  | none => match wantedA ops st.1 o with
    | some true =>
      if isAlloc P o && !isHole st.2 s then none else
      match evalEff P st.2 (evalOperand st.1) s o with
      | some (v, h') => some (put o.dst (v.getD .any) st.1, h')
      | none => (fullA S st.2 (evalOperand st.1) o).map fun r => (put o.dst r.1 st.1, r.2)
    | _ => none
end
section
variable {P : Program} {S : Specs} {ds : List Deferred} {B : Fr} {w0 : World} {ρ0 : Rho} {h0 : AHeap}
/-- What holds between an abstract state and a real one. -/
def RelD (ds : List Deferred) (B : Fr) (w0 : World) (ρ0 : Rho) (h0 : AHeap) (st : St) (a : Act) (w : World) : Prop :=
  ∃ ρ, Inv ρ B w0 st.2 w ∧ FrameRel ρ st.1 a.tmps ∧ (∀ v ∈ st.1, AV.ok st.2 ρ v) ∧ a.defers = ds ∧ (∀ i, live h0 i = true → live st.2 i = true ∧ ρ i = ρ0 i)
/-- A contract of a function that leaves memory as it was. -/
def QuietOK (P : Program) (g : FuncId) (s : List AV → AHeap → Option AV) : Prop :=
  (∀ args h v, s args h = some v → ∀ (ρ : Rho) (B : Fr) (w0 w : World), Inv ρ B w0 h w → (∀ x ∈ args, AV.ok h ρ x) →
    v.ok h ρ ∧ Calls P g (args.map (AV.real ρ)).toArray w fun e w' => e = .returned (v.real ρ) ∧ Inv ρ B w0 h w') ∧
  (∀ args h k o, h[k]? = some .hole → (∃ ρ : Rho, (∀ x ∈ args, AV.ok h ρ x) ∧ ∀ (j : Nat) (u : AObj), h[j]? = some u → u.refs (live h) (fun k => (ρ k).cap) = true) → s args (h.set k o) = s args h) ∧
  ∃ fn, P.funcs[g]? = some fn ∧ fn.body.isSome = true ∧ fn.name ≠ "runtime.NumGoroutine"
/-- A contract of a function that may make and write memory. -/
def FullOK (P : Program) (g : FuncId) (s : List AV → AHeap → Option (AV × AHeap)) : Prop :=
  (∀ args h v h', s args h = some (v, h') → ∀ (ρ : Rho) (B : Fr) (w0 w : World), Inv ρ B w0 h w → (∀ x ∈ args, AV.ok h ρ x) →
    Calls P g (args.map (AV.real ρ)).toArray w fun e w' => ∃ ρ', e = .returned (v.real ρ') ∧ Inv ρ' B w0 h' w' ∧ (∀ i, live h i = true → live h' i = true ∧ ρ' i = ρ i) ∧ v.ok h' ρ') ∧
  ∃ fn, P.funcs[g]? = some fn ∧ fn.body.isSome = true ∧ fn.name ≠ "runtime.NumGoroutine"
structure Specs.OK (P : Program) (S : Specs) : Prop where
  q : ∀ g s, S.q g = some s → QuietOK P g s
  f : ∀ g s, S.f g = some s → FullOK P g s
  rf : ∀ g, S.rf g = true → IterOK P g
  u : ∀ g, S.u g = true → UniF S g
theorem frame_put {ρ : Rho} {env : List AV} {a : Act} {dst : Option Tmp} {v : AV} {x : Value} (hF : FrameRel ρ env a.tmps) (hv : v ≠ .any → x = v.real ρ) :
    FrameRel ρ (put dst v env) (a.put dst x).tmps := by
  cases dst with
  | none => exact hF
  | some d =>
    refine ⟨by simp [put, Act.put, hF.1], fun i u hi hu => ?_⟩
    simp only [put, Act.put] at hi ⊢
    by_cases hid : i = d
    · subst hid
      have hlt : i < env.length := by
        rcases Nat.lt_or_ge i env.length with q | q
        · exact q
        · rw [List.set_eq_of_length_le q, List.getElem?_eq_none q] at hi; cases hi
      rw [List.getElem?_set_self hlt] at hi
      cases hi
      rw [Array.getElem?_setIfInBounds, if_pos rfl, if_pos (by rw [hF.1]; exact hlt), hv hu]
    · rw [List.getElem?_set_ne (fun e => hid e.symm)] at hi
      rw [Array.getElem?_setIfInBounds, if_neg (fun e => hid e.symm)]
      exact hF.2 i u hi hu
theorem frame_later {ρ ρ' : Rho} {env : List AV} {tmps : Array Value} {h : AHeap} (hF : FrameRel ρ env tmps) (hok : ∀ v ∈ env, AV.ok h ρ v) (hρ : ∀ i, live h i = true → ρ' i = ρ i) : FrameRel ρ' env tmps :=
  ⟨hF.1, fun i v hi hv => by rw [real_congr hρ v (hok v (List.mem_of_getElem? hi))]; exact hF.2 i v hi hv⟩
theorem ok_put {ρ : Rho} {env : List AV} {h : AHeap} {dst : Option Tmp} {v : AV} (hok : ∀ u ∈ env, AV.ok h ρ u) (hv : v.ok h ρ) : ∀ u ∈ put dst v env, AV.ok h ρ u := by
  cases dst with
  | none => exact hok
  | some d => intro u hu; rcases List.mem_or_eq_of_mem_set hu with hu | hu; exact hok u hu; subst hu; exact hv
theorem wanted_sound {ρ : Rho} {ops : Array Oper} {env : List AV} {a : Act} {o : Oper} {b : Bool} (hF : FrameRel ρ env a.tmps) (hw : wantedA ops env o = some b) :
    Region.wanted o (yielded ops a.tmps) = b := by
  unfold wantedA at hw
  unfold Region.wanted
  cases hg : o.guard with
  | none => simp only [hg, Option.some.injEq] at hw; exact hw
  | some g =>
    obtain ⟨j, want⟩ := g
    simp only [hg] at hw ⊢
    unfold yielded
    cases hd : (ops[j]?).bind (·.dst) with
    | none => simp only [hd, Option.some.injEq] at hw; subst hw; rfl
    | some d =>
      simp only [hd] at hw
      simp only [Option.bind_some]
      cases he : env[d]? with
      | none =>
        simp only [he, Option.some.injEq] at hw
        have : a.tmps[d]? = none := by
          have hl := hF.1
          simp only [List.getElem?_eq_none_iff] at he
          simp; omega
        rw [this]; subst hw; rfl
      | some u =>
        simp only [he] at hw
        have hne : u ≠ .any := fun e => by subst e; simp at hw
        rw [hF.2 d u he hne]
        cases u with
        | bool c => simp only [Option.some.injEq] at hw; subst hw; cases c <;> cases want <;> rfl
        | any => exact absurd rfl hne
        | ptr q => simp only [Option.some.injEq] at hw; subst hw; cases q <;> rfl
        | sl q l c => simp only [Option.some.injEq] at hw; subst hw; cases q <;> rfl
        | map q => simp only [Option.some.injEq] at hw; subst hw; cases q <;> rfl
        | _ => simp only [Option.some.injEq] at hw; subst hw; rfl
theorem callee_sound {ρ : Rho} {env : List AV} {a : Act} {h : AHeap} (hF : FrameRel ρ env a.tmps) (hok : ∀ v ∈ env, AV.ok h ρ v) {o : Oper} {g : FuncId} {args : List AV} (hc : calleeA (evalOperand env) o = some (g, args))
    (hg : ∃ fn, P.funcs[g]? = some fn ∧ fn.body.isSome = true ∧ fn.name ≠ "runtime.NumGoroutine") (w : World) :
    (execOp a.eval o).run P w = .ok (.enter g (args.map (AV.real ρ)).toArray) w ∧ ∀ x ∈ args, AV.ok h ρ x := by
  unfold calleeA at hc
  cases hop : o.op <;> simp only [hop, reduceCtorEq] at hc
  rename_i c
  obtain ⟨callee, as, tys⟩ := c
  cases callee <;> try (simp only [reduceCtorEq] at hc)
  rename_i f
  split at hc
  · rename_i g' first cap hE
    simp only [Option.map_eq_some_iff] at hc
    obtain ⟨vs, hvs, he⟩ := hc
    cases he
    have h1 := operand_sound hF hE
    have h2 := operand_ok hok hE
    have h3 := operands_sound hF _ _ hvs
    have h4 := operands_ok hok _ _ hvs
    obtain ⟨fn, hfn, hb, hname⟩ := hg
    refine ⟨?_, ?_⟩
    · have h5 : as.map a.eval = (vs.map (AV.real ρ)).toArray := by apply Array.ext'; simpa using h3
      have hn : (fn.name == "runtime.NumGoroutine") = false := by simpa using hname
      have hbn : fn.body.isNone = false := by cases hq : fn.body <;> simp_all
      simp only [execOp, hop, resolve, h1, AV.real, reals_eq, Deferred.ofValue, Sem.run_bind, Sem.run_pure, Result.andThen_ok, invoke, callFunc, run_program, hfn, hn, Bool.false_eq_true, if_false, hbn, h5]
      simp
    · simp only [AV.ok, AV.refs, refsL_eq, Bool.and_eq_true, List.all_eq_true] at h2
      intro x hx
      simp only [List.mem_append] at hx
      rcases hx with (hx | hx) | hx
      · exact h2.1 x hx
      · exact h4 x hx
      · exact h2.2 x hx
  · cases hc
theorem callee_ok {ρ : Rho} {env : List AV} {h : AHeap} (hok : ∀ v ∈ env, AV.ok h ρ v) {o : Oper} {c : FuncId × List AV} (hc : calleeA (evalOperand env) o = some c) : ∀ x ∈ c.2, AV.ok h ρ x := by
  unfold calleeA at hc
  split at hc
  · split at hc
    · rename_i g' first cap hE
      simp only [Option.map_eq_some_iff] at hc
      obtain ⟨vs, hvs, he⟩ := hc
      cases he
      have h2 := operand_ok hok hE
      have h4 := operands_ok hok _ _ hvs
      simp only [AV.ok, AV.refs, refsL_eq, Bool.and_eq_true, List.all_eq_true] at h2
      intro x hx
      simp only [List.mem_append] at hx
      rcases hx with (hx | hx) | hx
      · exact h2.1 x hx
      · exact h4 x hx
      · exact h2.2 x hx
    · cases hc
  · cases hc
theorem hole_of {h : AHeap} {s : Nat} (hs : isHole h s = true) : h[s]? = some .hole := by
  unfold isHole at hs
  split at hs
  · assumption
  · cases hs
/-- **A step of a region is a step of the machine.** -/
theorem step_sound (hS : S.OK P) {ops : Array Oper} {s : Nat} {o : Oper} {st st' : St} {a : Act} {w : World} {K : Act → World → Prop} {Q : Exit → Act → World → Prop}
    (hR : RelD ds B w0 ρ0 h0 st a w) (hst : stepA P S ops s o st = some st') (hK : ∀ a' w', RelD ds B w0 ρ0 h0 st' a' w' → K a' w') :
    if Region.wanted o (yielded ops a.tmps) then o.wp P a w K Q else K (a.put o.dst undef) w := by
  obtain ⟨ρ, hI, hF, hok, hdef, hbase⟩ := hR
  have pure_case : ∀ v, (execOp a.eval o).run P w = .ok (.value (v.real ρ)) w → v.ok st.2 ρ → (∀ a' w', RelD ds B w0 ρ0 h0 (put o.dst v st.1, st.2) a' w' → K a' w') → o.wp P a w K Q := by
    intro v hr hvo hK'
    unfold Oper.wp
    rw [hr]
    exact hK' _ _ ⟨ρ, hI, frame_put hF (fun _ => rfl), ok_put hok hvo, by cases o.dst <;> exact hdef, hbase⟩
  have skip_case : (∀ a' w', RelD ds B w0 ρ0 h0 (put o.dst .und st.1, st.2) a' w' → K a' w') → K (a.put o.dst undef) w := fun hK' =>
    hK' _ _ ⟨ρ, hI, frame_put hF (fun _ => rfl), ok_put hok rfl, by cases o.dst <;> exact hdef, hbase⟩
  unfold stepA at hst
  cases hh : headStep0 P S ops s o st with
  | some st1 =>
    rw [hh] at hst
    cases hst
    unfold headStep0 at hh
    simp only [Option.map_eq_some_iff] at hh
    obtain ⟨r, hr, rfl⟩ := hh
    unfold headVal at hr
    cases hw : wantedA ops st.1 o with
    | none => simp [hw] at hr
    | some b =>
      rw [wanted_sound hF hw]
      rw [hw] at hr
      cases b with
      | false => simp only [Option.some.injEq] at hr; subst hr; exact skip_case hK
      | true =>
        simp only at hr
        rw [if_pos rfl]
        split at hr
        · split at hr
          · rename_i hal hho
            simp only [Option.map_eq_some_iff] at hr
            obtain ⟨⟨v, obj⟩, hv, rfl⟩ := hr
            obtain ⟨l, w', h1, h2, h3⟩ := alloc_sound hI hF hok (hole_of hho) hv
            unfold Oper.wp
            rw [h1]
            refine hK _ _ ⟨upd ρ s l, h2, frame_put (frame_later hF hok (upd_live (hole_of hho) l)) (fun _ => rfl), ok_put (fun u hu => ok_later (hole_of hho) l obj (hok u hu)) h3, by cases o.dst <;> exact hdef, fun i hi => ?_⟩
            exact ⟨live_set (hole_of hho) obj i (hbase i hi).1, by rw [upd_live (hole_of hho) l i (hbase i hi).1]; exact (hbase i hi).2⟩
          · cases hr
        · split at hr
          · rename_i hnal hst
            simp only [Option.map_eq_some_iff] at hr
            obtain ⟨⟨k, q, vs⟩, hv, rfl⟩ := hr
            unfold storeVal at hv
            split at hv
            · rename_i t x y hop
              simp only [Option.bind_eq_some_iff] at hv
              obtain ⟨p, hp, v, hvv, hv⟩ := hv
              split at hv
              · rename_i k' q'
                split at hv
                · rename_i t' sz cs hk
                  simp only [Option.bind_eq_some_iff] at hv
                  obtain ⟨s', hs', hv⟩ := hv
                  split at hv
                  · rename_i hc
                    cases hv
                    have hsa : storeA P st.2 t (.ptr (some (k, q))) v = some (applyEff st.2 s (.st k q v.cells)) := by
                      simp only [storeA, hk, hs', Option.bind_some, hc, if_true, applyEff]
                    obtain ⟨w', h1, h2, h3⟩ := store_sound (P := P) hI (operand_ok hok hvv) hsa
                    unfold Oper.wp
                    have hx : (execOp a.eval o).run P w = .ok .skip w' := by
                      simp only [execOp, hop, operand_sound hF hp, operand_sound hF hvv, Sem.run_bind, h1, Result.andThen_ok, Sem.run_pure]
                    rw [hx]
                    refine hK _ _ ⟨ρ, h2, frame_put hF (fun e => absurd rfl e), ok_put (fun u hu => refs_mono (fun i hi => ⟨h3 i hi, rfl⟩) u (hok u hu)) rfl, by cases o.dst <;> exact hdef, fun i hi => ⟨h3 i (hbase i hi).1, (hbase i hi).2⟩⟩
                  · cases hv
                · cases hv
              · cases hv
            · cases hv
          split at hr
          · rename_i v hv
            cases hr
            obtain ⟨h1, h2⟩ := pure_sound hI hF hok hv
            exact pure_case v h1 h2 hK
          · simp only [Option.map_eq_some_iff] at hr
            obtain ⟨v, hv, rfl⟩ := hr
            simp only [quietA, Option.bind_eq_some_iff] at hv
            obtain ⟨⟨g, args⟩, hc, sp, hsp, hv⟩ := hv
            have hq := hS.q g sp hsp
            obtain ⟨h1, h2⟩ := callee_sound (P := P) hF hok hc hq.2.2 w
            obtain ⟨h3, h4⟩ := hq.1 args st.2 v hv ρ B w0 w hI h2
            unfold Oper.wp
            rw [h1]
            refine h4.mono fun e w' ⟨he, hI'⟩ => ?_
            subst he
            exact hK _ _ ⟨ρ, hI', frame_put hF (fun _ => rfl), ok_put hok h3, by cases o.dst <;> exact hdef, hbase⟩
  | none =>
    rw [hh] at hst
    simp only at hst
    cases hw : wantedA ops st.1 o with
    | none => simp [hw] at hst
    | some b =>
      rw [wanted_sound hF hw]
      rw [hw] at hst
      cases b with
      | false => cases hst
      | true =>
        simp only at hst
        rw [if_pos rfl]
        split at hst
        · cases hst
        · rename_i hal
          have hal' : isAlloc P o = true → st.2[s]? = some .hole := fun h1 => hole_of (by
            cases hq : isHole st.2 s
            · exact absurd (by simp [h1, hq]) hal
            · rfl)
          split at hst
          · rename_i v h' hv
            cases hst
            obtain ⟨ρ', w', h1, h2, h3, h4⟩ := eff_sound hI hF hok hal' hv
            unfold Oper.wp
            rw [h1]
            have hF' := frame_later hF hok (fun i hi => (h3 i hi).2)
            have hok' : ∀ u ∈ st.1, AV.ok h' ρ' u := fun u hu => refs_mono (fun i hi => ⟨(h3 i hi).1, by rw [(h3 i hi).2]⟩) u (hok u hu)
            have hb' : ∀ i, live h0 i = true → live h' i = true ∧ ρ' i = ρ0 i := fun i hi => ⟨(h3 i (hbase i hi).1).1, ((h3 i (hbase i hi).1).2).trans (hbase i hi).2⟩
            cases v with
            | some v => exact hK _ _ ⟨ρ', h2, frame_put hF' (fun _ => rfl), ok_put hok' (h4 v rfl), by cases o.dst <;> exact hdef, hb'⟩
            | none => exact hK _ _ ⟨ρ', h2, frame_put hF' (fun e => absurd rfl e), ok_put hok' rfl, by cases o.dst <;> exact hdef, hb'⟩
          · simp only [Option.map_eq_some_iff] at hst
            obtain ⟨⟨v, h'⟩, hv, rfl⟩ := hst
            simp only [fullA, Option.bind_eq_some_iff] at hv
            obtain ⟨⟨g, args⟩, hc, sp, hsp, hv⟩ := hv
            have hq := hS.f g sp hsp
            obtain ⟨h1, h2⟩ := callee_sound (P := P) hF hok hc hq.2 w
            have h4 := hq.1 args st.2 v h' hv ρ B w0 w hI h2
            unfold Oper.wp
            rw [h1]
            refine h4.mono fun e w' ⟨ρ', he, hI', h3, hvo⟩ => ?_
            subst he
            have hF' := frame_later hF hok (fun i hi => (h3 i hi).2)
            have hok' : ∀ u ∈ st.1, AV.ok h' ρ' u := fun u hu => refs_mono (fun i hi => ⟨(h3 i hi).1, by rw [(h3 i hi).2]⟩) u (hok u hu)
            exact hK _ _ ⟨ρ', hI', frame_put hF' (fun _ => rfl), ok_put hok' hvo, by cases o.dst <;> exact hdef, fun i hi => ⟨(h3 i (hbase i hi).1).1, ((h3 i (hbase i hi).1).2).trans (hbase i hi).2⟩⟩
theorem op_in {R : Option Nat} {o : Oper} {a : Act} {w : World} {K : Act → World → Prop} {Q : Exit → Act → World → Prop} (hd : ∀ c, o.op ≠ .defer c) (h : o.wp P a w K Q) : o.wpIn (fR R) 0 P a w K Q := by
  refine ⟨fun _ _ => trivial, ?_⟩
  show o.uponIn (fR R) 0 P a K Q ((o.semAt R a.eval).run P w)
  rw [Oper.semAt_eq _ _ _ hd]
  unfold Oper.wp at h
  generalize (execOp a.eval o).run P w = r at h
  cases r with
  | ok x w' =>
    cases x with
    | value v => exact h
    | skip => exact h
    | defer d => exact h
    | enter f args => exact ⟨fun e => (by cases e), callsIn_wide.2 h⟩
    | row row args => exact ⟨fun e => (by cases e), fun c cs _ => let ⟨v, w'', r, s⟩ := h c cs; ⟨v, w'', r, stepsIn_wide.2 s⟩⟩
    | _ => exact h.elim
  | halt x w' => cases x <;> exact h
theorem step_noDefer {ops : Array Oper} {s : Nat} {o : Oper} {st st' : St} (hw : wantedA ops st.1 o = some true) (hst : stepA P S ops s o st = some st') : ∀ c, o.op ≠ .defer c := by
  intro c hc
  unfold stepA headStep0 headVal at hst
  simp only [hw] at hst
  have h1 : isAlloc P o = false := by unfold isAlloc; rw [hc]
  have h2 : isStore o = false := by unfold isStore; rw [hc]
  have h3 : ∀ h E, evalPure P h E o = none := fun h E => by unfold evalPure; rw [hc]
  have h4 : ∀ E, calleeA E o = none := fun E => by unfold calleeA; rw [hc]
  have h5 : ∀ h E s, evalEff P h E s o = none := fun h E s => by unfold evalEff; rw [hc]
  simp [h1, h2, h3, h4, h5, quietA, fullA] at hst
/-- A step of a region, in whatever frame. -/
theorem step_in (hS : S.OK P) {R : Option Nat} {ops : Array Oper} {s : Nat} {o : Oper} {st st' : St} {a : Act} {w : World} {K : Act → World → Prop} {Q : Exit → Act → World → Prop}
    (hR : RelD ds B w0 ρ0 h0 st a w) (hst : stepA P S ops s o st = some st') (hK : ∀ a' w', RelD ds B w0 ρ0 h0 st' a' w' → K a' w') :
    if Region.wanted o (yielded ops a.tmps) then o.wpIn (fR R) 0 P a w K Q else (∀ f, o.about P w a.eval = some f → (fR R).fn f) ∧ K (a.put o.dst undef) w := by
  have h := step_sound (Q := Q) hS hR hst hK
  split
  · rename_i hw
    rw [if_pos hw] at h
    refine op_in ?_ h
    cases hq : wantedA ops st.1 o with
    | none => 
      unfold stepA headStep0 headVal at hst
      simp [hq] at hst
    | some b =>
      obtain ⟨ρ, hI, hF, _⟩ := hR
      have := wanted_sound hF hq
      rw [hw] at this
      subst this
      exact step_noDefer hq hst
  · rename_i hw
    rw [if_neg hw] at h
    exact ⟨fun _ _ => trivial, h⟩
end
/-- What a call comes to, from whatever memory that fits. -/
def CallSem (P : Program) (f : FuncId) (args : List AV) (h : AHeap) (v : AV) (h' : AHeap) : Prop :=
  ∀ (ρ : Rho) (B : Fr) (w0 w : World), Inv ρ B w0 h w → (∀ x ∈ args, AV.ok h ρ x) →
    Calls P f (args.map (AV.real ρ)).toArray w fun e w' => ∃ ρ', e = .returned (v.real ρ') ∧ Inv ρ' B w0 h' w' ∧ (∀ i, live h i = true → live h' i = true ∧ ρ' i = ρ i) ∧ v.ok h' ρ'
end Go.Am
