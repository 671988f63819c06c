/- Functions: contracts out of evaluations. -/
import Derived.Test.YtiijphmpkmmpjaaAmM
set_option linter.unusedVariables false
set_option linter.unusedSimpArgs false
namespace Go.Am
open Go Go.RowKit
section
variable {P : Program} {S : Specs} {B : Fr} {w0 : World} {ρ0 : Rho} {h0 : AHeap}
def realResult (tmps : Array Value) : ResultVar → Sem Value
  | .tmp t => pure (tmps.getD t undef)
  | .cell a t => do loadVar t (← asAddr (tmps.getD a undef))
theorem result_sound {ρ : Rho} {st : St} {w : World} {tmps : Array Value} (hI : Inv ρ B w0 st.2 w) (hF : FrameRel ρ st.1 tmps) (hok : ∀ v ∈ st.1, AV.ok st.2 ρ v) {r : ResultVar} {v : AV} (hv : resultA P st r = some v) :
    (realResult tmps r).run P w = .ok (v.real ρ) w ∧ v.ok st.2 ρ := by
  have hop : ∀ t u, evalOperand st.1 (.tmp t) = some u → tmps.getD t undef = u.real ρ := fun t u hu => by
    have := operand_sound (a := ⟨tmps, []⟩) hF hu
    exact this
  cases r with
  | tmp t =>
    simp only [resultA] at hv
    exact ⟨by simp only [realResult, Sem.run_pure, hop t v hv], operand_ok hok hv⟩
  | cell a t =>
    simp only [resultA, Option.bind_eq_some_iff] at hv
    obtain ⟨u, hu, hv⟩ := hv
    obtain ⟨h1, h2⟩ := load_sound (P := P) hI hv
    refine ⟨?_, h2⟩
    simp only [realResult]
    rw [hop a u hu]
    unfold loadA at hv
    split at hv
    · rename_i k o
      simp only [real_ptr, Instr.loadAt, Instr.sureAddr, Sem.run_bind, Sem.run_pure, Result.andThen_ok] at h1
      simp only [real_ptr, asAddr, Sem.run_bind, Sem.run_pure, Result.andThen_ok]
      exact h1
    · cases hv
theorem results_list {ρ : Rho} {st : St} {w : World} {tmps : Array Value} (hI : Inv ρ B w0 st.2 w) (hF : FrameRel ρ st.1 tmps) (hok : ∀ v ∈ st.1, AV.ok st.2 ρ v) : ∀ (rs : List ResultVar) (vs : List AV), rs.mapM (resultA P st) = some vs →
    (rs.mapM (realResult tmps)).run P w = .ok (vs.map (AV.real ρ)) w ∧ ∀ v ∈ vs, AV.ok st.2 ρ v
  | [], vs, hv => by simp at hv; subst hv; exact ⟨rfl, by simp⟩
  | r :: rs, vs, hv => by
    simp only [List.mapM_cons, Option.pure_def, Option.bind_eq_bind, Option.bind_eq_some_iff] at hv
    obtain ⟨v, h1, vs', h2, he⟩ := hv
    cases he
    obtain ⟨e1, e2⟩ := result_sound (P := P) hI hF hok h1
    obtain ⟨e3, e4⟩ := results_list hI hF hok rs vs' h2
    refine ⟨?_, fun u hu => ?_⟩
    · rw [List.mapM_cons, Sem.run_bind, e1, Result.andThen_ok, Sem.run_bind, e3]; rfl
    · rcases List.mem_cons.1 hu with rfl | hu
      · exact e2
      · exact e4 u hu
theorem results_sound {fn : Func} {st : St} {a : Act} {w : World} {v : AV} {ρ : Rho} (hI : Inv ρ B w0 st.2 w) (hF : FrameRel ρ st.1 a.tmps) (hok : ∀ v ∈ st.1, AV.ok st.2 ρ v) (hv : resultsA P fn st = some v) :
    (results fn a.tmps).run P w = .ok (v.real ρ) w ∧ v.ok st.2 ρ := by
  simp only [resultsA, Option.map_eq_some_iff] at hv
  obtain ⟨vs, hvs, hv⟩ := hv
  obtain ⟨h1, h2⟩ := results_list (P := P) (tmps := a.tmps) hI hF hok _ _ hvs
  have h3 : (results fn a.tmps).run P w = .ok (if h : (vs.map (AV.real ρ)).toArray.size = 1 then (vs.map (AV.real ρ)).toArray[0] else .tuple (vs.map (AV.real ρ)).toArray) w := by
    unfold results
    rw [Array.mapM_eq_mapM_toList]
    simp only [Sem.run_bind, Sem.run_map, Sem.run_pure]
    erw [h1]
    rfl
  rw [h3]
  match vs, hv, h2 with
  | [], hv, h2 => simp only at hv; subst hv; exact ⟨rfl, rfl⟩
  | [u], hv, h2 => simp only at hv; subst hv; exact ⟨rfl, h2 u (by simp)⟩
  | u :: u' :: us, hv, h2 =>
    simp only at hv
    subst hv
    refine ⟨by simp [AV.real], ?_⟩
    simp only [AV.ok, AV.refs, refsL_eq, List.all_eq_true]
    exact h2
/-- **What a function's text comes to.** -/
theorem body_sound (hm : P.follows .mixedOrders = true) (hS : S.OK P) {F : Nat → List Nat} {n : Nat} {f : FuncId} {fn : Func} (hf : P.funcs[f]? = some fn) {args : List AV} {h h' : AHeap} {v : AV}
    (he : evalBody P S F n fn args h = some (v, h')) {ρ : Rho} {w : World} (hI : Inv ρ B w0 h w) (hok : ∀ x ∈ args, AV.ok h ρ x) :
    Calls P f (args.map (AV.real ρ)).toArray w fun e w' => ∃ ρ', e = .returned (v.real ρ') ∧ Inv ρ' B w0 h' w' ∧ (∀ i, live h i = true → live h' i = true ∧ ρ' i = ρ i) ∧ v.ok h' ρ' := by
  unfold evalBody at he
  cases hb : fn.body with
  | none => simp [hb] at he
  | some c =>
    rw [hb] at he
    simp only at he
    refine calls_of_wp hf hb ?_
    have hR : Rel B w0 ρ h (args ++ List.replicate (fn.ntmps - args.length) .any, h) { tmps := (args.map (AV.real ρ)).toArray ++ Array.replicate (fn.ntmps - (args.map (AV.real ρ)).toArray.size) undef, defers := [] } w := by
      refine ⟨ρ, hI, ⟨by simp, fun i u hi hu => ?_⟩, fun u hu => ?_, rfl, fun i hi => ⟨hi, rfl⟩⟩
      · rcases Nat.lt_or_ge i args.length with q | q
        · simp only [List.getElem?_append_left q] at hi
          rw [Array.getElem?_append_left (by simpa using q)]
          simp [hi]
        · simp only [List.getElem?_append_right q] at hi
          exact absurd (List.eq_of_mem_replicate (List.mem_of_getElem? hi)) hu
      · rcases List.mem_append.1 hu with hu | hu
        · exact hok u hu
        · rw [List.eq_of_mem_replicate hu]; rfl
    cases h1 : ev P S F n (.inl c) (args ++ List.replicate (fn.ntmps - args.length) .any, h) with
    | none => rw [h1] at he; cases he
    | some r =>
      obtain ⟨e, st⟩ := r
      rw [h1] at he
      have h2 := ev_sound (B := B) (w0 := w0) (ρ0 := ρ) (h0 := h) hm hS F n _ _ _ _ h1 _ w hR
      refine wp_mono h2 fun ex a' w' ⟨hex, hR'⟩ => ?_
      subst hex
      obtain ⟨ρ', hI', hF', hok', hd', hb'⟩ := hR'
      have fin : resultsA P fn st = some v → h' = st.2 → a'.defers = [] ∧ ∃ u, (results fn a'.tmps).run P w' = .ok u w' ∧ ∃ ρ'', Ending.returned u = .returned (v.real ρ'') ∧ Inv ρ'' B w0 h' w' ∧ (∀ i, live h i = true → live h' i = true ∧ ρ'' i = ρ i) ∧ v.ok h' ρ'' := by
        intro h3 h4
        subst h4
        obtain ⟨h5, h6⟩ := results_sound (P := P) hI' hF' hok' h3
        exact ⟨hd', _, h5, ρ', rfl, hI', hb', h6⟩
      cases e with
      | normal => simp only [Option.map_eq_some_iff, Prod.mk.injEq] at he; obtain ⟨u, h3, rfl, h4⟩ := he; exact fin h3 h4.symm
      | ret => simp only [Option.map_eq_some_iff, Prod.mk.injEq] at he; obtain ⟨u, h3, rfl, h4⟩ := he; exact fin h3 h4.symm
      | exit id => cases he
      | goto l => cases he
/-- A function of the program with a text. -/
def HasText (P : Program) (f : FuncId) (fn : Func) : Prop := P.funcs[f]? = some fn ∧ fn.body.isSome = true ∧ fn.name ≠ "runtime.NumGoroutine"
theorem full_of_body (hm : P.follows .mixedOrders = true) (hS : S.OK P) {f : FuncId} {fn : Func} (hf : HasText P f fn) {s : List AV → AHeap → Option (AV × AHeap)}
    (hs : ∀ args h v h', s args h = some (v, h') → ∃ F n, evalBody P S F n fn args h = some (v, h')) : FullOK P f s := by
  refine ⟨fun args h v h' hv ρ B w0 w hI hok => ?_, fn, hf.1, hf.2.1, hf.2.2⟩
  obtain ⟨F, n, he⟩ := hs args h v h' hv
  exact body_sound hm hS hf.1 he hI hok
/-- A value that names no block. -/
def AV.closed (v : AV) : Bool := v.refs (fun _ => false) (fun _ => 0)
theorem closed_ok {v : AV} (hv : v.closed = true) (h : AHeap) (ρ : Rho) : v.ok h ρ := refs_mono (fun _ hk => by cases hk) v hv
theorem closed_real {v : AV} (hv : v.closed = true) (ρ ρ' : Rho) : v.real ρ = v.real ρ' := real_congr (p := fun _ => false) (c := fun _ => 0) (fun _ hk => by cases hk) v hv
/-- An argument as a small memory of its own has it: a slice of one-cell elements, or a value that names no block. -/
def impA (h : AHeap) (i : Nat) : AV → Option (AV × List AObj)
  | .sl (some (k, o)) len c => (cellsAt h k).bind fun cs =>
    if o + len ≤ cs.length ∧ ((cs.drop o).take len).all AV.closed = true then
      some (.sl (some (i, 0)) len (match c with | .fix n => .fix n | .rel _ => .rel 0), [.ro ((cs.drop o).take len)]) else none
  | v => if v.closed then some (v, []) else none
def impArgs (h : AHeap) : Nat → List AV → Option (List AV × List AObj)
  | _, [] => some ([], [])
  | i, a :: as => (impA h i a).bind fun r => (impArgs h (i + r.2.length) as).map fun q => (r.1 :: q.1, r.2 ++ q.2)
theorem impA_hole {h : AHeap} {k i : Nat} {o : AObj} {a : AV} (hk : h[k]? = some .hole) (ha : ∃ ρ, AV.ok h ρ a) : impA (h.set k o) i a = impA h i a := by
  obtain ⟨ρ, ha⟩ := ha
  unfold impA
  split
  · rename_i k' q len c
    have : k' ≠ k := live_ne hk (blk_live ha rfl)
    have hc : cellsAt (h.set k o) k' = cellsAt h k' := by unfold cellsAt; rw [List.getElem?_set_ne (fun e => this e.symm)]
    rw [hc]
  · rfl
theorem impArgs_hole {h : AHeap} {k : Nat} {o : AObj} (hk : h[k]? = some .hole) : ∀ (as : List AV) (i : Nat), (∀ a ∈ as, ∃ ρ, AV.ok h ρ a) → impArgs (h.set k o) i as = impArgs h i as
  | [], _, _ => rfl
  | a :: as, i, ha => by
    simp only [impArgs, impA_hole hk (ha a List.mem_cons_self)]
    cases impA h i a with
    | none => rfl
    | some r => simp only [Option.bind_some, impArgs_hole hk as _ fun b hb => ha b (List.mem_cons_of_mem _ hb)]
/-- What a small memory says of the large one. -/
def Small (ρ1 : Rho) (w : World) (i : Nat) (hs : List AObj) : Prop :=
  ∀ j o, hs[j]? = some o → ∃ cs, o = .ro cs ∧ cs.all AV.closed = true ∧ ObjRel ρ1 (allOf w) w (ρ1 (i + j)) o
theorem imp_sound {ρ : Rho} {h : AHeap} {w : World} (hI : Inv ρ B w0 h w) : ∀ (as : List AV) (i : Nat) (as' : List AV) (hs : List AObj) (ρi : Rho), impArgs h i as = some (as', hs) → (∀ a ∈ as, AV.ok h ρ a) →
    ∃ ρ1 : Rho, (∀ j, j < i → ρ1 j = ρi j) ∧ as.map (AV.real ρ) = as'.map (AV.real ρ1) ∧ Small ρ1 w i hs ∧ ∀ p : Nat → Bool, (∀ j, j < hs.length → p (i + j) = true) → ∀ a ∈ as', a.refs p (fun k => (ρ1 k).cap) = true
  | [], i, as', hs, ρi, he, _ => by
    simp only [impArgs, Option.some.injEq, Prod.mk.injEq] at he
    obtain ⟨rfl, rfl⟩ := he
    exact ⟨ρi, fun _ _ => rfl, rfl, fun j o ho => by simp at ho, fun p _ a ha => by cases ha⟩
  | a :: as, i, as', hs, ρi, he, hok => by
    simp only [impArgs, Option.bind_eq_some_iff, Option.map_eq_some_iff] at he
    obtain ⟨⟨a', hs1⟩, h1, ⟨as2, hs2⟩, h2, he⟩ := he
    cases he
    have haok := hok a List.mem_cons_self
    have hok' : ∀ b ∈ as, AV.ok h ρ b := fun b hb => hok b (List.mem_cons_of_mem _ hb)
    unfold impA at h1
    split at h1
    · rename_i k o len c
      simp only [Option.bind_eq_some_iff] at h1
      obtain ⟨cs, hcs, h1⟩ := h1
      split at h1
      · rename_i hc
        cases h1
        obtain ⟨l, hl⟩ : ∃ l : RL, l = ⟨(ρ k).blk, (ρ k).off + o, match c with | .fix _ => 0 | .rel i => (ρ k).cap - i⟩ := ⟨_, rfl⟩
        obtain ⟨ρ1, g1, g2, g3, g4⟩ := imp_sound hI as (i + 1) as2 hs2 (upd ρi i l) h2 hok'
        have hi : ρ1 i = l := by rw [g1 i (by omega)]; simp [upd]
        refine ⟨ρ1, fun j hj => by rw [g1 j (by omega)]; simp [upd]; omega, ?_, fun j x hx => ?_, fun p hp b hb => ?_⟩
        · simp only [List.map_cons, g2]
          congr 1
          rw [real_sl, real_sl]
          cases c <;> simp [adr, hi, hl, ACap.real]
        · cases j with
          | zero =>
            simp only [List.cons_append, List.nil_append, List.getElem?_cons_zero, Option.some.injEq] at hx
            subst hx
            refine ⟨_, rfl, hc.2, ?_, fun q v hq => ?_⟩
            · rw [Nat.add_zero, hi, hl]
              have hlive := blk_live haok rfl
              simp only [cellsAt, Option.bind_eq_some_iff] at hcs
              obtain ⟨ob, hob, hobc⟩ := hcs
              have hr := hI.obj k ob hob
              cases ob with
              | ro cs' => exact hr.1
              | row t sz cs' => exact (own_lt rfl hr).2
              | hole => cases hobc
              | dead => cases hobc
              | map es => cases hobc
            · rw [Nat.add_zero, hi, hl]
              simp only [List.getElem?_take] at hq
              split at hq
              · simp only [List.getElem?_drop] at hq
                have := cell_at hI hcs hq
                simp only [adr, ← Nat.add_assoc] at this
                rw [this]
                have hm : v ∈ (cs.drop o).take len := by
                  refine List.mem_of_getElem? (i := q) ?_
                  rw [List.getElem?_take, if_pos (by assumption), List.getElem?_drop]; exact hq
                rw [closed_real (List.all_eq_true.1 hc.2 v hm) ρ ρ1]
              · cases hq
          | succ j =>
            simp only [List.cons_append, List.nil_append, List.getElem?_cons_succ] at hx
            have := g3 j x hx
            rwa [show i + 1 + j = i + (j + 1) by omega] at this
        · rcases List.mem_cons.1 hb with rfl | hb
          · have hp0 : p i = true := hp 0 (by simp)
            cases c with
            | fix n =>
              simp only [AV.ok, AV.refs, Bool.and_eq_true] at haok ⊢
              exact ⟨hp0, haok.2⟩
            | rel q =>
              simp only [AV.ok, AV.refs, Bool.and_eq_true, decide_eq_true_eq] at haok ⊢
              refine ⟨hp0, ?_⟩
              rw [hi, hl]
              simp only
              omega
          · refine g4 p (fun j hj => ?_) b hb
            have := hp (j + 1) (by simp; omega)
            rwa [show i + (j + 1) = i + 1 + j by omega] at this
      · cases h1
    · split at h1
      · rename_i hnot hc
        cases h1
        obtain ⟨ρ1, g1, g2, g3, g4⟩ := imp_sound hI as i as2 hs2 ρi h2 hok'
        refine ⟨ρ1, g1, ?_, g3, fun p hp b hb => ?_⟩
        · simp only [List.map_cons, g2, closed_real hc ρ ρ1]
        · rcases List.mem_cons.1 hb with rfl | hb
          · exact refs_mono (fun _ hk => by cases hk) _ hc
          · exact g4 p hp b hb
      · cases h1
theorem inv_small {ρ1 : Rho} {w : World} {hs : List AObj} (hs1 : Small ρ1 w 0 hs) : Inv ρ1 (allOf w) w hs w := by
  refine ⟨Kept.refl _ _, fun _ hk => hk, fun k o ho => ?_, fun k k' o o' ho _ h1 => ?_, fun k k' o cs ho _ h1 => ?_, fun k o ho => ?_⟩
  · obtain ⟨cs, _, _, h3⟩ := hs1 k o ho
    rwa [Nat.zero_add] at h3
  · obtain ⟨cs, rfl, _⟩ := hs1 k o ho; cases h1
  · obtain ⟨cs, rfl, _⟩ := hs1 k o ho; cases h1
  · obtain ⟨cs, rfl, h2, _⟩ := hs1 k o ho
    simp only [AObj.refs, List.all_eq_true] at h2 ⊢
    exact fun v hv => closed_ok (h2 v hv) _ _
/-- **A contract of a function that leaves memory as it was, out of runs over a small memory.** -/
theorem quiet_of_body (hm : P.follows .mixedOrders = true) (hS : S.OK P) {f : FuncId} {fn : Func} (hf : HasText P f fn) {g : List AV → List AObj → Option AV}
    (hg : ∀ args hs v, g args hs = some v → v.closed = true ∧ ∃ F n h', evalBody P S F n fn args hs = some (v, h')) :
    QuietOK P f fun args h => (impArgs h 0 args).bind fun r => g r.1 r.2 := by
  refine ⟨fun args h v hv ρ B w0 w hI hok => ?_, fun args h k o hk ha => ?_, fn, hf.1, hf.2.1, hf.2.2⟩
  · simp only [Option.bind_eq_some_iff] at hv
    obtain ⟨⟨as', hs⟩, h1, h2⟩ := hv
    obtain ⟨hc, F, n, h', he⟩ := hg _ _ _ h2
    refine ⟨closed_ok hc _ _, ?_⟩
    obtain ⟨ρ1, -, g2, g3, g4⟩ := imp_sound hI args 0 as' hs ρ h1 hok
    have hI1 := inv_small g3
    have hlive : ∀ j, j < hs.length → live hs (0 + j) = true := fun j hj => by
      rw [Nat.zero_add]
      obtain ⟨cs, he, _⟩ := g3 j _ (List.getElem?_eq_getElem hj)
      simp [live, List.getElem?_eq_getElem hj, he, AObj.there]
    have := body_sound hm hS hf.1 he hI1 (fun a ha => g4 (live hs) hlive a ha)
    rw [g2]
    refine this.mono fun e w' ⟨ρ', he', hI', _⟩ => ⟨by rw [he', closed_real hc ρ' ρ], ?_⟩
    have hb := hI'.below
    exact ⟨hI.below.trans (hb.mono hI.size), fun k hk => Nat.lt_of_lt_of_le (hI.size k hk) hb.size, fun k o ho => objRel_kept hb.size (fun hlt => hb.block _ hlt) (hI.obj k o ho), hI.sep, hI.sepr, hI.wf⟩
  · show (impArgs (h.set k o) 0 args).bind _ = (impArgs h 0 args).bind _
    obtain ⟨ρ, ha, _⟩ := ha
    rw [impArgs_hole hk args 0 (fun a hm => ⟨ρ, ha a hm⟩)]
end
end Go.Am
