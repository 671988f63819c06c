/- Functions: contracts out of evaluations. -/
import Derived.Test.YtncmgbbbekabdaaAmM4
set_option linter.unusedVariables false
set_option linter.unusedSimpArgs false
namespace Go.Am
open Go Go.RowKit
section
variable {P : Program} {S : Specs} {B : Fr} {w0 : World} {ρ0 : Rho} {h0 : AHeap}
def realResult (tmps : Array Value) : ResultVar → Sem Value
  | .tmp t => pure (tmps.getD t undef)
  | .cell a t => do loadVar t (← asAddr (tmps.getD a undef))
theorem result_sound {ρ : Rho} {st : St} {w : World} {tmps : Array Value} (hI : Inv ρ B w0 st.2 w) (hF : FrameRel ρ st.1 tmps) (hok : ∀ v ∈ st.1, AV.ok st.2 ρ v) {r : ResultVar} {v : AV} (hv : resultA P st r = some v) :
    (realResult tmps r).run P w = .ok (v.real ρ) w ∧ v.ok st.2 ρ := by
  have hop : ∀ t u, evalOperand st.1 (.tmp t) = some u → tmps.getD t undef = u.real ρ := fun t u hu => by
    have := operand_sound (a := ⟨tmps, []⟩) hF hu
    exact this
  cases r with
  | tmp t =>
    simp only [resultA] at hv
    exact ⟨by simp only [realResult, Sem.run_pure, hop t v hv], operand_ok hok hv⟩
  | cell a t =>
    simp only [resultA, Option.bind_eq_some_iff] at hv
    obtain ⟨u, hu, hv⟩ := hv
    obtain ⟨h1, h2⟩ := load_sound (P := P) hI hv
    refine ⟨?_, h2⟩
    simp only [realResult]
    rw [hop a u hu]
    unfold loadA at hv
    split at hv
    · rename_i k o
      simp only [real_ptr, Instr.loadAt, Instr.sureAddr, Sem.run_bind, Sem.run_pure, Result.andThen_ok] at h1
      simp only [real_ptr, asAddr, Sem.run_bind, Sem.run_pure, Result.andThen_ok]
      exact h1
    · cases hv
theorem results_list {ρ : Rho} {st : St} {w : World} {tmps : Array Value} (hI : Inv ρ B w0 st.2 w) (hF : FrameRel ρ st.1 tmps) (hok : ∀ v ∈ st.1, AV.ok st.2 ρ v) : ∀ (rs : List ResultVar) (vs : List AV), rs.mapM (resultA P st) = some vs →
    (rs.mapM (realResult tmps)).run P w = .ok (vs.map (AV.real ρ)) w ∧ ∀ v ∈ vs, AV.ok st.2 ρ v
  | [], vs, hv => by simp at hv; subst hv; exact ⟨rfl, by simp⟩
  | r :: rs, vs, hv => by
    simp only [List.mapM_cons, Option.pure_def, Option.bind_eq_bind, Option.bind_eq_some_iff] at hv
    obtain ⟨v, h1, vs', h2, he⟩ := hv
    cases he
    obtain ⟨e1, e2⟩ := result_sound (P := P) hI hF hok h1
    obtain ⟨e3, e4⟩ := results_list hI hF hok rs vs' h2
    refine ⟨?_, fun u hu => ?_⟩
    · rw [List.mapM_cons, Sem.run_bind, e1, Result.andThen_ok, Sem.run_bind, e3]; rfl
    · rcases List.mem_cons.1 hu with rfl | hu
      · exact e2
      · exact e4 u hu
theorem results_sound {fn : Func} {st : St} {a : Act} {w : World} {v : AV} {ρ : Rho} (hI : Inv ρ B w0 st.2 w) (hF : FrameRel ρ st.1 a.tmps) (hok : ∀ v ∈ st.1, AV.ok st.2 ρ v) (hv : resultsA P fn st = some v) :
    (results fn a.tmps).run P w = .ok (v.real ρ) w ∧ v.ok st.2 ρ := by
  simp only [resultsA, Option.map_eq_some_iff] at hv
  obtain ⟨vs, hvs, hv⟩ := hv
  obtain ⟨h1, h2⟩ := results_list (P := P) (tmps := a.tmps) hI hF hok _ _ hvs
  have h3 : (results fn a.tmps).run P w = .ok (if h : (vs.map (AV.real ρ)).toArray.size = 1 then (vs.map (AV.real ρ)).toArray[0] else .tuple (vs.map (AV.real ρ)).toArray) w := by
    unfold results
    rw [Array.mapM_eq_mapM_toList]
    simp only [Sem.run_bind, Sem.run_map, Sem.run_pure]
    erw [h1]
    rfl
  rw [h3]
  match vs, hv, h2 with
  | [], hv, h2 => simp only at hv; subst hv; exact ⟨rfl, rfl⟩
  | [u], hv, h2 => simp only at hv; subst hv; exact ⟨rfl, h2 u (by simp)⟩
  | u :: u' :: us, hv, h2 =>
    simp only at hv
    subst hv
    refine ⟨by simp [AV.real], ?_⟩
    simp only [AV.ok, AV.refs, refsL_eq, List.all_eq_true]
    exact h2
/-- A block that is neither cells nor a map is turned. -/
theorem inv_turn {ρ : Rho} {h : AHeap} {w : World} (hI : Inv ρ B w0 h w) {D : Nat} {o : Obj} (o' : Obj) (hD : w.heap[D]? = some o) (hB : ¬ B D) (hc : o.isCells = false) (hm : ∀ es c, o ≠ .map es c) : Inv ρ B w0 h (w.putObj D o') := by
  have hne : ∀ k, k ≠ D → (w.putObj D o').heap[k]? = w.heap[k]? := fun k hk => World.putObj_heap_other (fun e => hk (by rw [e]))
  have hsz : (w.putObj D o').heap.size = w.heap.size := by simp [World.putObj]
  refine ⟨⟨hI.below.os, hI.below.tape, hI.below.output, by rw [hsz]; exact hI.below.size, fun k hk => ?_⟩, fun k hk => by rw [hsz]; exact hI.size k hk, fun k x hx => ?_, hI.sep, hI.sepr, hI.wf⟩
  · rw [hne k (fun e => hB (e ▸ hk))]; exact hI.below.block k hk
  · have hr := hI.obj k x hx
    cases x with
    | hole => trivial
    | dead => trivial
    | ro cs =>
      refine ⟨by rw [hsz]; exact hr.1, fun j v hj => ?_⟩
      have h1 := hr.2 j v hj
      have h2 : (ρ k).blk ≠ D := fun e => by
        obtain ⟨q, hq, hq2⟩ := cells_of_cell h1
        rw [e, hD] at hq; cases hq; rw [hc] at hq2; cases hq2
      rw [← h1]
      exact World.cell?_of_block (hne _ h2)
    | row t sz cs =>
      obtain ⟨h1, h2, arr, h3, h4⟩ := hr
      have h5 : (ρ k).blk ≠ D := fun e => by rw [e, hD] at h3; cases h3; cases hc
      exact ⟨h1, h2, arr, (hne _ h5).trans h3, h4⟩
    | map es =>
      obtain ⟨h1, ents, clock, h3, h4⟩ := hr
      have h5 : (ρ k).blk ≠ D := fun e => by rw [e, hD] at h3; cases h3; exact hm _ _ rfl
      exact ⟨h1, ents, clock, (hne _ h5).trans h3, h4⟩
theorem leaves_sound {fn : Func} {st : St} {v : AV} {a : Act} {w : World} (hR : Rel B w0 ρ0 h0 st a w) (hv : resultsA P fn st = some v) :
    LeavesInM (fR none) 0 P fn a.tmps (fun e w' => ∃ ρ', e = .returned (v.real ρ') ∧ Inv ρ' B w0 st.2 w' ∧ (∀ i, live h0 i = true → live st.2 i = true ∧ ρ' i = ρ0 i) ∧ v.ok st.2 ρ') a.defers .returning w := by
  obtain ⟨B', w1, ds, hx, ρ, hI, hF, hok, hd, hb⟩ := hR
  rw [hd]
  have hk := hI.below
  have key : ∀ (ds : List Deferred) (w : World), ds.Nodup → (∀ d ∈ ds, ∃ D, d = { target := .collected D, args := #[] } ∧ ¬ B D ∧ w.heap[D]? = some (.deferred (some []))) → Inv ρ B w0 st.2 w →
      LeavesInM (fR none) 0 P fn a.tmps (fun e w' => ∃ ρ', e = .returned (v.real ρ') ∧ Inv ρ' B w0 st.2 w' ∧ (∀ i, live h0 i = true → live st.2 i = true ∧ ρ' i = ρ0 i) ∧ v.ok st.2 ρ') ds .returning w := by
    intro ds
    induction ds with
    | nil =>
      intro w _ _ hI
      obtain ⟨h5, h6⟩ := results_sound (P := P) hI hF hok hv
      exact ⟨_, h5, ρ, rfl, hI, hb, h6⟩
    | cons d ds ih =>
      intro w hnd hm hI
      obtain ⟨D, rfl, hB, hD⟩ := hm _ List.mem_cons_self
      rw [List.nodup_cons] at hnd
      refine ⟨by simp, .inl ⟨D, _, rfl, run_takeDeferred hD, ih _ hnd.2 (fun d hd => ?_) (inv_turn hI _ hD hB rfl (fun es c e => by cases e))⟩⟩
      obtain ⟨D', rfl, hB', hD'⟩ := hm d (List.mem_cons_of_mem _ hd)
      refine ⟨D', rfl, hB', ?_⟩
      have : D' ≠ D := fun e => hnd.1 (by rw [← e]; exact hd)
      exact (World.putObj_heap_other this).trans hD'
  refine key ds w hx.nodup (fun d hd => ?_) (inv_ext hx hI)
  obtain ⟨D, h1, h2, h3, h4⟩ := hx.marks d hd
  exact ⟨D, h1, h3, (hk.block D h2).trans h4⟩
theorem calls_of_marks {f : FuncId} {fn : Func} {c : Code} {args : Array Value} {w : World} {Rr : Ending → World → Prop}
    (hf : P.funcs[f]? = some fn) (hb : fn.body = some c) (h : c.wpIn (fR none) 0 P (bodyPostM (fR none) 0 P fn Rr) { tmps := args ++ Array.replicate (fn.ntmps - args.size) undef, defers := [] } w) : Calls P f args w Rr :=
  callsIn_wide.1 (callsIn_of_wp_marks (F := fR none) (n := 0) hf hb trivial h rfl)
/-- **What a function's text comes to.** -/
theorem body_sound (hm : P.follows .mixedOrders = true) (hS : S.OK P) {F : Nat → List Nat} {n : Nat} {f : FuncId} {fn : Func} (hf : P.funcs[f]? = some fn) {args : List AV} {h h' : AHeap} {v : AV}
    (he : evalBody P S F n fn args h = some (v, h')) {ρ : Rho} {w : World} (hI : Inv ρ B w0 h w) (hok : ∀ x ∈ args, AV.ok h ρ x) :
    Calls P f (args.map (AV.real ρ)).toArray w fun e w' => ∃ ρ', e = .returned (v.real ρ') ∧ Inv ρ' B w0 h' w' ∧ (∀ i, live h i = true → live h' i = true ∧ ρ' i = ρ i) ∧ v.ok h' ρ' := by
  unfold evalBody at he
  cases hb : fn.body with
  | none => simp [hb] at he
  | some c =>
    rw [hb] at he
    simp only at he
    refine calls_of_marks hf hb ?_
    have hR : Rel B w0 ρ h (args ++ List.replicate (fn.ntmps - args.length) .any, h) { tmps := (args.map (AV.real ρ)).toArray ++ Array.replicate (fn.ntmps - (args.map (AV.real ρ)).toArray.size) undef, defers := [] } w := by
      refine Rel.of_D ⟨ρ, hI, ⟨by simp, fun i u hi hu => ?_⟩, fun u hu => ?_, rfl, fun i hi => ⟨hi, rfl⟩⟩
      · rcases Nat.lt_or_ge i args.length with q | q
        · simp only [List.getElem?_append_left q] at hi
          rw [Array.getElem?_append_left (by simpa using q)]
          simp [hi]
        · simp only [List.getElem?_append_right q] at hi
          exact absurd (List.eq_of_mem_replicate (List.mem_of_getElem? hi)) hu
      · rcases List.mem_append.1 hu with hu | hu
        · exact hok u hu
        · rw [List.eq_of_mem_replicate hu]; rfl
    cases h1 : ev P S F n (.inl c) (args ++ List.replicate (fn.ntmps - args.length) .any, h) with
    | none => rw [h1] at he; cases he
    | some r =>
      obtain ⟨e, st⟩ := r
      rw [h1] at he
      have h2 := ev_sound (B := B) (w0 := w0) (ρ0 := ρ) (h0 := h) hm hS F n _ _ _ _ h1 none _ w hR
      refine wpIn_mono h2 fun ex a' w' ⟨hex, hR'⟩ => ?_
      subst hex
      have fin : resultsA P fn st = some v → h' = st.2 → LeavesInM (fR none) 0 P fn a'.tmps (fun e w' => ∃ ρ', e = .returned (v.real ρ') ∧ Inv ρ' B w0 h' w' ∧ (∀ i, live h i = true → live h' i = true ∧ ρ' i = ρ i) ∧ v.ok h' ρ') a'.defers .returning w' := by
        intro h3 h4
        subst h4
        exact leaves_sound hR' h3
      cases e with
      | normal => simp only [Option.map_eq_some_iff, Prod.mk.injEq] at he; obtain ⟨u, h3, rfl, h4⟩ := he; exact fin h3 h4.symm
      | ret => simp only [Option.map_eq_some_iff, Prod.mk.injEq] at he; obtain ⟨u, h3, rfl, h4⟩ := he; exact fin h3 h4.symm
      | exit id => cases he
      | goto l => cases he
/-- A function of the program with a text. -/
def HasText (P : Program) (f : FuncId) (fn : Func) : Prop := P.funcs[f]? = some fn ∧ fn.body.isSome = true ∧ fn.name ≠ "runtime.NumGoroutine"
theorem full_of_body (hm : P.follows .mixedOrders = true) (hS : S.OK P) {f : FuncId} {fn : Func} (hf : HasText P f fn) {s : List AV → AHeap → Option (AV × AHeap)}
    (hs : ∀ args h v h', s args h = some (v, h') → ∃ F n, evalBody P S F n fn args h = some (v, h')) : FullOK P f s := by
  refine ⟨fun args h v h' hv ρ B w0 w hI hok => ?_, fn, hf.1, hf.2.1, hf.2.2⟩
  obtain ⟨F, n, he⟩ := hs args h v h' hv
  exact body_sound hm hS hf.1 he hI hok
/-- A value that names no block. -/
def AV.closed (v : AV) : Bool := v.refs (fun _ => false) (fun _ => 0)
theorem closed_ok {v : AV} (hv : v.closed = true) (h : AHeap) (ρ : Rho) : v.ok h ρ := refs_mono (fun _ hk => by cases hk) v hv
theorem closed_real {v : AV} (hv : v.closed = true) (ρ ρ' : Rho) : v.real ρ = v.real ρ' := real_congr (p := fun _ => false) (c := fun _ => 0) (fun _ hk => by cases hk) v hv
end
end Go.Am
