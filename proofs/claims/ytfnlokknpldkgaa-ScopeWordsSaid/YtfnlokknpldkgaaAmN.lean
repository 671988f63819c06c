/- Functions: contracts out of evaluations. -/
import Derived.Test.YtfnlokknpldkgaaAmM4
set_option linter.unusedVariables false
set_option linter.unusedSimpArgs false
namespace Go.Am
open Go Go.RowKit
section
variable {P : Program} {S : Specs} {B : Fr} {w0 : World} {ρ0 : Rho} {h0 : AHeap}
def realResult (tmps : Array Value) : ResultVar → Sem Value
  | .tmp t => pure (tmps.getD t undef)
  | .cell a t => do loadVar t (← asAddr (tmps.getD a undef))
theorem result_sound {ρ : Rho} {st : St} {w : World} {tmps : Array Value} (hI : Inv ρ B w0 st.2 w) (hF : FrameRel ρ st.1 tmps) (hok : ∀ v ∈ st.1, AV.ok st.2 ρ v) {r : ResultVar} {v : AV} (hv : resultA P st r = some v) :
    (realResult tmps r).run P w = .ok (v.real ρ) w ∧ v.ok st.2 ρ := by
  have hop : ∀ t u, evalOperand st.1 (.tmp t) = some u → tmps.getD t undef = u.real ρ := fun t u hu => by
    have := operand_sound (a := ⟨tmps, []⟩) hF hu
    exact this
  cases r with
  | tmp t =>
    simp only [resultA] at hv
    exact ⟨by simp only [realResult, Sem.run_pure, hop t v hv], operand_ok hok hv⟩
  | cell a t =>
    simp only [resultA, Option.bind_eq_some_iff] at hv
    obtain ⟨u, hu, hv⟩ := hv
    obtain ⟨h1, h2⟩ := load_sound (P := P) hI hv
    refine ⟨?_, h2⟩
    simp only [realResult]
    rw [hop a u hu]
    unfold loadA at hv
    split at hv
    · rename_i k o
      simp only [real_ptr, Instr.loadAt, Instr.sureAddr, Sem.run_bind, Sem.run_pure, Result.andThen_ok] at h1
      simp only [real_ptr, asAddr, Sem.run_bind, Sem.run_pure, Result.andThen_ok]
      exact h1
    · cases hv
theorem results_list {ρ : Rho} {st : St} {w : World} {tmps : Array Value} (hI : Inv ρ B w0 st.2 w) (hF : FrameRel ρ st.1 tmps) (hok : ∀ v ∈ st.1, AV.ok st.2 ρ v) : ∀ (rs : List ResultVar) (vs : List AV), rs.mapM (resultA P st) = some vs →
    (rs.mapM (realResult tmps)).run P w = .ok (vs.map (AV.real ρ)) w ∧ ∀ v ∈ vs, AV.ok st.2 ρ v
  | [], vs, hv => by simp at hv; subst hv; exact ⟨rfl, by simp⟩
  | r :: rs, vs, hv => by
    simp only [List.mapM_cons, Option.pure_def, Option.bind_eq_bind, Option.bind_eq_some_iff] at hv
    obtain ⟨v, h1, vs', h2, he⟩ := hv
    cases he
    obtain ⟨e1, e2⟩ := result_sound (P := P) hI hF hok h1
    obtain ⟨e3, e4⟩ := results_list hI hF hok rs vs' h2
    refine ⟨?_, fun u hu => ?_⟩
    · rw [List.mapM_cons, Sem.run_bind, e1, Result.andThen_ok, Sem.run_bind, e3]; rfl
    · rcases List.mem_cons.1 hu with rfl | hu
      · exact e2
      · exact e4 u hu
theorem results_sound {fn : Func} {st : St} {a : Act} {w : World} {v : AV} {ρ : Rho} (hI : Inv ρ B w0 st.2 w) (hF : FrameRel ρ st.1 a.tmps) (hok : ∀ v ∈ st.1, AV.ok st.2 ρ v) (hv : resultsA P fn st = some v) :
    (results fn a.tmps).run P w = .ok (v.real ρ) w ∧ v.ok st.2 ρ := by
  simp only [resultsA, Option.map_eq_some_iff] at hv
  obtain ⟨vs, hvs, hv⟩ := hv
  obtain ⟨h1, h2⟩ := results_list (P := P) (tmps := a.tmps) hI hF hok _ _ hvs
  have h3 : (results fn a.tmps).run P w = .ok (if h : (vs.map (AV.real ρ)).toArray.size = 1 then (vs.map (AV.real ρ)).toArray[0] else .tuple (vs.map (AV.real ρ)).toArray) w := by
    unfold results
    rw [Array.mapM_eq_mapM_toList]
    simp only [Sem.run_bind, Sem.run_map, Sem.run_pure]
    erw [h1]
    rfl
  rw [h3]
  match vs, hv, h2 with
  | [], hv, h2 => simp only at hv; subst hv; exact ⟨rfl, rfl⟩
  | [u], hv, h2 => simp only at hv; subst hv; exact ⟨rfl, h2 u (by simp)⟩
  | u :: u' :: us, hv, h2 =>
    simp only at hv
    subst hv
    refine ⟨by simp [AV.real], ?_⟩
    simp only [AV.ok, AV.refs, refsL_eq, List.all_eq_true]
    exact h2
/-- A block that is neither cells nor a map is turned. -/
theorem inv_turn {ρ : Rho} {h : AHeap} {w : World} (hI : Inv ρ B w0 h w) {D : Nat} {o : Obj} (o' : Obj) (hD : w.heap[D]? = some o) (hB : ¬ B D) (hc : o.isCells = false) (hm : ∀ es c, o ≠ .map es c) : Inv ρ B w0 h (w.putObj D o') := by
  have hne : ∀ k, k ≠ D → (w.putObj D o').heap[k]? = w.heap[k]? := fun k hk => World.putObj_heap_other (fun e => hk (by rw [e]))
  have hsz : (w.putObj D o').heap.size = w.heap.size := by simp [World.putObj]
  refine ⟨⟨hI.below.os, hI.below.tape, hI.below.output, by rw [hsz]; exact hI.below.size, fun k hk => ?_⟩, fun k hk => by rw [hsz]; exact hI.size k hk, fun k x hx => ?_, hI.sep, hI.sepr, hI.wf⟩
  · rw [hne k (fun e => hB (e ▸ hk))]; exact hI.below.block k hk
  · have hr := hI.obj k x hx
    cases x with
    | hole => trivial
    | dead => trivial
    | ro cs =>
      refine ⟨by rw [hsz]; exact hr.1, fun j v hj => ?_⟩
      have h1 := hr.2 j v hj
      have h2 : (ρ k).blk ≠ D := fun e => by
        obtain ⟨q, hq, hq2⟩ := cells_of_cell h1
        rw [e, hD] at hq; cases hq; rw [hc] at hq2; cases hq2
      rw [← h1]
      exact World.cell?_of_block (hne _ h2)
    | row t sz cs =>
      obtain ⟨h1, h2, arr, h3, h4⟩ := hr
      have h5 : (ρ k).blk ≠ D := fun e => by rw [e, hD] at h3; cases h3; cases hc
      exact ⟨h1, h2, arr, (hne _ h5).trans h3, h4⟩
    | map es =>
      obtain ⟨h1, ents, clock, h3, h4⟩ := hr
      have h5 : (ρ k).blk ≠ D := fun e => by rw [e, hD] at h3; cases h3; exact hm _ _ rfl
      exact ⟨h1, ents, clock, (hne _ h5).trans h3, h4⟩
theorem leaves_sound {fn : Func} {st : St} {v : AV} {a : Act} {w : World} (hR : Rel B w0 ρ0 h0 st a w) (hv : resultsA P fn st = some v) :
    LeavesInM (fR none) 0 P fn a.tmps (fun e w' => ∃ ρ', e = .returned (v.real ρ') ∧ Inv ρ' B w0 st.2 w' ∧ (∀ i, live h0 i = true → live st.2 i = true ∧ ρ' i = ρ0 i) ∧ v.ok st.2 ρ') a.defers .returning w := by
  obtain ⟨B', w1, ds, hx, ρ, hI, hF, hok, hd, hb⟩ := hR
  rw [hd]
  have hk := hI.below
  have key : ∀ (ds : List Deferred) (w : World), ds.Nodup → (∀ d ∈ ds, ∃ D, d = { target := .collected D, args := #[] } ∧ ¬ B D ∧ w.heap[D]? = some (.deferred (some []))) → Inv ρ B w0 st.2 w →
      LeavesInM (fR none) 0 P fn a.tmps (fun e w' => ∃ ρ', e = .returned (v.real ρ') ∧ Inv ρ' B w0 st.2 w' ∧ (∀ i, live h0 i = true → live st.2 i = true ∧ ρ' i = ρ0 i) ∧ v.ok st.2 ρ') ds .returning w := by
    intro ds
    induction ds with
    | nil =>
      intro w _ _ hI
      obtain ⟨h5, h6⟩ := results_sound (P := P) hI hF hok hv
      exact ⟨_, h5, ρ, rfl, hI, hb, h6⟩
    | cons d ds ih =>
      intro w hnd hm hI
      obtain ⟨D, rfl, hB, hD⟩ := hm _ List.mem_cons_self
      rw [List.nodup_cons] at hnd
      refine ⟨by simp, .inl ⟨D, _, rfl, run_takeDeferred hD, ih _ hnd.2 (fun d hd => ?_) (inv_turn hI _ hD hB rfl (fun es c e => by cases e))⟩⟩
      obtain ⟨D', rfl, hB', hD'⟩ := hm d (List.mem_cons_of_mem _ hd)
      refine ⟨D', rfl, hB', ?_⟩
      have : D' ≠ D := fun e => hnd.1 (by rw [← e]; exact hd)
      exact (World.putObj_heap_other this).trans hD'
  refine key ds w hx.nodup (fun d hd => ?_) (inv_ext hx hI)
  obtain ⟨D, h1, h2, h3, h4⟩ := hx.marks d hd
  exact ⟨D, h1, h3, (hk.block D h2).trans h4⟩
theorem calls_of_marks {f : FuncId} {fn : Func} {c : Code} {args : Array Value} {w : World} {Rr : Ending → World → Prop}
    (hf : P.funcs[f]? = some fn) (hb : fn.body = some c) (h : c.wpIn (fR none) 0 P (bodyPostM (fR none) 0 P fn Rr) { tmps := args ++ Array.replicate (fn.ntmps - args.size) undef, defers := [] } w) : Calls P f args w Rr :=
  callsIn_wide.1 (callsIn_of_wp_marks (F := fR none) (n := 0) hf hb trivial h rfl)
/-- A function of the program with a text. -/
def HasText (P : Program) (f : FuncId) (fn : Func) : Prop := P.funcs[f]? = some fn ∧ fn.body.isSome = true ∧ fn.name ≠ "runtime.NumGoroutine"
/-- A value that names no block. -/
def AV.closed (v : AV) : Bool := v.refs (fun _ => false) (fun _ => 0)
theorem closed_ok {v : AV} (hv : v.closed = true) (h : AHeap) (ρ : Rho) : v.ok h ρ := refs_mono (fun _ hk => by cases hk) v hv
theorem closed_real {v : AV} (hv : v.closed = true) (ρ ρ' : Rho) : v.real ρ = v.real ρ' := real_congr (p := fun _ => false) (c := fun _ => 0) (fun _ hk => by cases hk) v hv
/-- An argument as a small memory of its own has it: a slice of one-cell elements, or a value that names no block. -/
def impA (h : AHeap) (i : Nat) : AV → Option (AV × List AObj)
  | .sl (some (k, o)) len c => (cellsAt h k).bind fun cs =>
    if o + len ≤ cs.length ∧ ((cs.drop o).take len).all AV.closed = true then
      some (.sl (some (i, 0)) len (match c with | .fix n => .fix n | .rel _ => .rel 0), [.ro ((cs.drop o).take len)]) else none
  | v => if v.closed then some (v, []) else none
def impArgs (h : AHeap) : Nat → List AV → Option (List AV × List AObj)
  | _, [] => some ([], [])
  | i, a :: as => (impA h i a).bind fun r => (impArgs h (i + r.2.length) as).map fun q => (r.1 :: q.1, r.2 ++ q.2)
/-- What a small memory says of the large one. -/
def Small (ρ1 : Rho) (w : World) (i : Nat) (hs : List AObj) : Prop :=
  ∀ j o, hs[j]? = some o → ∃ cs, o = .ro cs ∧ cs.all AV.closed = true ∧ ObjRel ρ1 (allOf w) w (ρ1 (i + j)) o
theorem imp_sound {ρ : Rho} {h : AHeap} {w : World} (hI : Inv ρ B w0 h w) : ∀ (as : List AV) (i : Nat) (as' : List AV) (hs : List AObj) (ρi : Rho), impArgs h i as = some (as', hs) → (∀ a ∈ as, AV.ok h ρ a) →
    ∃ ρ1 : Rho, (∀ j, j < i → ρ1 j = ρi j) ∧ as.map (AV.real ρ) = as'.map (AV.real ρ1) ∧ Small ρ1 w i hs ∧ ∀ p : Nat → Bool, (∀ j, j < hs.length → p (i + j) = true) → ∀ a ∈ as', a.refs p (fun k => (ρ1 k).cap) = true
  | [], i, as', hs, ρi, he, _ => by
    simp only [impArgs, Option.some.injEq, Prod.mk.injEq] at he
    obtain ⟨rfl, rfl⟩ := he
    exact ⟨ρi, fun _ _ => rfl, rfl, fun j o ho => by simp at ho, fun p _ a ha => by cases ha⟩
  | a :: as, i, as', hs, ρi, he, hok => by
    simp only [impArgs, Option.bind_eq_some_iff, Option.map_eq_some_iff] at he
    obtain ⟨⟨a', hs1⟩, h1, ⟨as2, hs2⟩, h2, he⟩ := he
    cases he
    have haok := hok a List.mem_cons_self
    have hok' : ∀ b ∈ as, AV.ok h ρ b := fun b hb => hok b (List.mem_cons_of_mem _ hb)
    unfold impA at h1
    split at h1
    · rename_i k o len c
      simp only [Option.bind_eq_some_iff] at h1
      obtain ⟨cs, hcs, h1⟩ := h1
      split at h1
      · rename_i hc
        cases h1
        obtain ⟨l, hl⟩ : ∃ l : RL, l = ⟨(ρ k).blk, (ρ k).off + o, match c with | .fix _ => 0 | .rel i => (ρ k).cap - i⟩ := ⟨_, rfl⟩
        obtain ⟨ρ1, g1, g2, g3, g4⟩ := imp_sound hI as (i + 1) as2 hs2 (upd ρi i l) h2 hok'
        have hi : ρ1 i = l := by rw [g1 i (by omega)]; simp [upd]
        refine ⟨ρ1, fun j hj => by rw [g1 j (by omega)]; simp [upd]; omega, ?_, fun j x hx => ?_, fun p hp b hb => ?_⟩
        · simp only [List.map_cons, g2]
          congr 1
          rw [real_sl, real_sl]
          cases c <;> simp [adr, hi, hl, ACap.real]
        · cases j with
          | zero =>
            simp only [List.cons_append, List.nil_append, List.getElem?_cons_zero, Option.some.injEq] at hx
            subst hx
            refine ⟨_, rfl, hc.2, ?_, fun q v hq => ?_⟩
            · rw [Nat.add_zero, hi, hl]
              have hlive := blk_live haok rfl
              simp only [cellsAt, Option.bind_eq_some_iff] at hcs
              obtain ⟨ob, hob, hobc⟩ := hcs
              have hr := hI.obj k ob hob
              cases ob with
              | ro cs' => exact hr.1
              | row t sz cs' => exact (own_lt rfl hr).2
              | hole => cases hobc
              | dead => cases hobc
              | map es => cases hobc
            · rw [Nat.add_zero, hi, hl]
              simp only [List.getElem?_take] at hq
              split at hq
              · simp only [List.getElem?_drop] at hq
                have := cell_at hI hcs hq
                simp only [adr, ← Nat.add_assoc] at this
                rw [this]
                have hm : v ∈ (cs.drop o).take len := by
                  refine List.mem_of_getElem? (i := q) ?_
                  rw [List.getElem?_take, if_pos (by assumption), List.getElem?_drop]; exact hq
                rw [closed_real (List.all_eq_true.1 hc.2 v hm) ρ ρ1]
              · cases hq
          | succ j =>
            simp only [List.cons_append, List.nil_append, List.getElem?_cons_succ] at hx
            have := g3 j x hx
            rwa [show i + 1 + j = i + (j + 1) by omega] at this
        · rcases List.mem_cons.1 hb with rfl | hb
          · have hp0 : p i = true := hp 0 (by simp)
            cases c with
            | fix n =>
              simp only [AV.ok, AV.refs, Bool.and_eq_true] at haok ⊢
              exact ⟨hp0, haok.2⟩
            | rel q =>
              simp only [AV.ok, AV.refs, Bool.and_eq_true, decide_eq_true_eq] at haok ⊢
              refine ⟨hp0, ?_⟩
              rw [hi, hl]
              simp only
              omega
          · refine g4 p (fun j hj => ?_) b hb
            have := hp (j + 1) (by simp; omega)
            rwa [show i + (j + 1) = i + 1 + j by omega] at this
      · cases h1
    · split at h1
      · rename_i hnot hc
        cases h1
        obtain ⟨ρ1, g1, g2, g3, g4⟩ := imp_sound hI as i as2 hs2 ρi h2 hok'
        refine ⟨ρ1, g1, ?_, g3, fun p hp b hb => ?_⟩
        · simp only [List.map_cons, g2, closed_real hc ρ ρ1]
        · rcases List.mem_cons.1 hb with rfl | hb
          · exact refs_mono (fun _ hk => by cases hk) _ hc
          · exact g4 p hp b hb
      · cases h1
theorem inv_small {ρ1 : Rho} {w : World} {hs : List AObj} (hs1 : Small ρ1 w 0 hs) : Inv ρ1 (allOf w) w hs w := by
  refine ⟨Kept.refl _ _, fun _ hk => hk, fun k o ho => ?_, fun k k' o o' ho _ h1 => ?_, fun k k' o cs ho _ h1 => ?_, fun k o ho => ?_⟩
  · obtain ⟨cs, _, _, h3⟩ := hs1 k o ho
    rwa [Nat.zero_add] at h3
  · obtain ⟨cs, rfl, _⟩ := hs1 k o ho; cases h1
  · obtain ⟨cs, rfl, _⟩ := hs1 k o ho; cases h1
  · obtain ⟨cs, rfl, h2, _⟩ := hs1 k o ho
    simp only [AObj.refs, List.all_eq_true] at h2 ⊢
    exact fun v hv => closed_ok (h2 v hv) _ _
end
end Go.Am
