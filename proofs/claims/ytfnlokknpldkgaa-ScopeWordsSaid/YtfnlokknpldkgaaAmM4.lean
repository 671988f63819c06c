/- A range over a function: an iterator over a slice of numbers; the rounds one by one. -/
import Derived.Test.YtfnlokknpldkgaaAmM3
set_option linter.unusedVariables false
set_option linter.unusedSimpArgs false
namespace Go.Am
open Go Go.RowKit
/-- What a piece of code comes to, in frames of one kind. -/
def CodeSoundR (R : Option Nat) (P : Program) (B : Fr) (w0 : World) (ρ0 : Rho) (h0 : AHeap) (x : Code ⊕ (Code × Code)) (st : St) (e : AExit) (st' : St) : Prop :=
  match x with
  | .inl c => ∀ a w, Rel B w0 ρ0 h0 st a w → c.wpIn (fR R) 0 P (fun ex a' w' => ex = e.real ∧ Rel B w0 ρ0 h0 st' a' w') a w
  | .inr (c, rest) => ∀ a w, Rel B w0 ρ0 h0 st a w → ∀ b k cs, b.roundOf = R → ∃ a' w', Rel B w0 ρ0 h0 st' a' w' ∧
      ArrivesIn (Machine.fenced P (fR R)) P (lone (b.atR a (.code rest :: .inScope c :: k)) cs w) b k cs e.real a' w'
theorem CodeSound.at {P : Program} {B : Fr} {w0 : World} {ρ0 : Rho} {h0 : AHeap} {x : Code ⊕ (Code × Code)} {st st' : St} {e : AExit} (h : CodeSound P B w0 ρ0 h0 x st e st') (R : Option Nat) : CodeSoundR R P B w0 ρ0 h0 x st e st' := by
  cases x with
  | inl c => exact h R
  | inr p => exact h R
section
variable {P : Program}
variable {B : Fr} {w0 : World} {ρ0 : Rho} {h0 : AHeap}
theorem own_obj {ρ : Rho} {h : AHeap} {w : World} (hI : Inv ρ B w0 h w) {k : Nat} {o : AObj} (hk : h[k]? = some o) (ho : o.own = true) : ∃ x, w.heap[(ρ k).blk]? = some x ∧ (x.isCells = true ∨ ∃ es c, x = .map es c) := by
  have hr := hI.obj k o hk
  cases o with
  | row t sz cs => obtain ⟨_, _, arr, h3, _⟩ := hr; exact ⟨_, h3, .inl rfl⟩
  | map es => obtain ⟨_, ents, clock, h3, _⟩ := hr; exact ⟨_, h3, .inr ⟨_, _, rfl⟩⟩
  | hole => cases ho
  | dead => cases ho
  | ro cs => cases ho
/-- Another base, another world that has all blocks but one as they were. -/
theorem inv_move {ρ : Rho} {h : AHeap} {w : World} (hI : Inv ρ B w0 h w) {B2 : Fr} {w2 w' : World} (D : Nat) (hk : Kept B2 w2 w') (hs : ∀ k, B2 k → k < w'.heap.size) (hno : ∀ k o, h[k]? = some o → o.own = true → ¬ B2 (ρ k).blk)
    (hsz : w.heap.size ≤ w'.heap.size) (hsame : ∀ k, k ≠ D → k < w.heap.size → w'.heap[k]? = w.heap[k]?) (hD : ∀ o, w.heap[D]? = some o → o.isCells = false ∧ ∀ es c, o ≠ .map es c) : Inv ρ B2 w2 h w' := by
  have hin : ∀ {k x}, w.heap[k]? = some x → k < w.heap.size := fun hx => (Array.getElem?_eq_some_iff.1 hx).1
  refine ⟨hk, hs, fun k x hx => ?_, hI.sep, hI.sepr, hI.wf⟩
  have hr := hI.obj k x hx
  cases x with
  | hole => trivial
  | dead => trivial
  | ro cs =>
    refine ⟨Nat.lt_of_lt_of_le hr.1 hsz, fun j v hj => ?_⟩
    have h1 := hr.2 j v hj
    have h2 : (ρ k).blk ≠ D := fun e => by
      obtain ⟨q, hq, hq2⟩ := cells_of_cell h1
      have h3 : w.heap[D]? = some q := by rw [← e]; exact hq
      rw [(hD q h3).1] at hq2; cases hq2
    rw [← h1]
    exact World.cell?_of_block (hsame _ h2 hr.1)
  | row t sz cs =>
    obtain ⟨h1, h2, arr, h3, h4⟩ := hr
    have h5 : (ρ k).blk ≠ D := fun e => by rw [e] at h3; have := (hD _ h3).1; cases this
    exact ⟨hno k _ hx rfl, h2, arr, (hsame _ h5 (hin h3)).trans h3, h4⟩
  | map es =>
    obtain ⟨h1, ents, clock, h3, h4⟩ := hr
    have h5 : (ρ k).blk ≠ D := fun e => by rw [e] at h3; exact (hD _ h3).2 _ _ rfl
    exact ⟨hno k _ hx rfl, ents, clock, (hsame _ h5 (hin h3)).trans h3, h4⟩
/-- A round's first state. -/
def roundEnv (p0 p1 : Tmp) (env : List AV) (i : Nat) (z : Int) : List AV := (env.set p0 (.int .i64 i)).set p1 (.int .i64 z)
/-- What is known of a piece of a round. -/
def RSnd (P : Program) (n : Nat) (c : Code) (st : St) (e : AExit) (st' : St) : Prop := ∀ (l : Nat) (B : Fr) (w0 : World) (ρ0 : Rho) (h0 : AHeap), h0.length ≤ n → CodeSoundR (some l) P B w0 ρ0 h0 (.inl c) st e st'
def jumpOf : AExit → Option Code
  | .normal => none
  | .ret => some .ret
  | .exit id => some (.exit id)
  | .goto l => some (.goto l)
theorem frame_set {ρ : Rho} {env : List AV} {tmps : Array Value} {d : Tmp} {v : AV} (hF : FrameRel ρ env tmps) : FrameRel ρ (env.set d v) (tmps.setIfInBounds d (v.real ρ)) := by
  have := frame_put (ρ := ρ) (env := env) (a := ⟨tmps, []⟩) (dst := some d) (v := v) (x := v.real ρ) hF (fun _ => rfl)
  exact this
theorem ok_set {ρ : Rho} {env : List AV} {h : AHeap} {d : Tmp} {v : AV} (hok : ∀ u ∈ env, AV.ok h ρ u) (hv : v.ok h ρ) : ∀ u ∈ env.set d v, AV.ok h ρ u := ok_put (dst := some d) hok hv
/-- A base of one's own. -/
theorem rel_into {B1 B2 : Fr} {w1 W : World} {ρ : Rho} {st : St} {a : Act} (hI : Inv ρ B1 w1 st.2 W) (hs : ∀ k, B2 k → k < W.heap.size) (hno : ∀ k o, st.2[k]? = some o → o.own = true → ¬ B2 (ρ k).blk)
    (hF : FrameRel ρ st.1 a.tmps) (hok : ∀ v ∈ st.1, AV.ok st.2 ρ v) (hlive : ∀ i, live h0 i = true → live st.2 i = true ∧ ρ i = ρ0 i) (hd : a.defers = []) : Rel B2 W ρ0 h0 st a W := by
  have hI2 : Inv ρ B2 W st.2 W := inv_move hI W.heap.size (Kept.refl _ _) hs hno (Nat.le_refl _) (fun _ _ _ => rfl) (fun o ho => by
    have := (Array.getElem?_eq_some_iff.1 ho).1; omega)
  exact Rel.of_D ⟨ρ, hI2, hF, hok, hd, hlive⟩
/-- The loop's record is turned: the base is laid anew. -/
theorem rel_turn {W W2 : World} {st : St} {a : Act} (hR : Rel B W ρ0 h0 st a W2) {L : Nat} {r : Loop} (x : Obj) (hl : W2.heap[L]? = some (.loop r)) : Rel B (W2.putObj L x) ρ0 h0 st a (W2.putObj L x) := by
  obtain ⟨B3, w3, ds, hx, ρ, hI, hF, hok, hd, hb⟩ := hR
  have hp : ∀ k, k ≠ L → (W2.putObj L x).heap[k]? = W2.heap[k]? := fun k hk => World.putObj_heap_other hk
  refine ⟨B3, _, ds, ⟨Kept.refl _ _, hx.sub, fun d hd' => ?_, hx.nodup⟩, ρ, ?_, hF, hok, hd, hb⟩
  · obtain ⟨D', e1, e2, e3, e4⟩ := hx.marks d hd'
    have e5 : W2.heap[D']? = some (.deferred (some [])) := (hI.below.block D' e2).trans e4
    have e6 : D' ≠ L := fun e => by rw [e, hl] at e5; cases e5
    exact ⟨D', e1, e2, e3, (hp D' e6).trans e5⟩
  · refine inv_move hI L (Kept.refl _ _) (fun k hk => by have := hI.size k hk; simp; omega) (fun k o hk ho hb => ?_) (by simp) (fun k hk _ => hp k hk) (fun o ho => by rw [hl] at ho; cases ho; exact ⟨rfl, fun es c e => by cases e⟩)
    have := hI.obj k o hk
    cases o <;> first | exact this.1 hb | cases ho
theorem rf_sound {gf : FuncId} (hit : IterOK P gf) {g : Operand} {ps : Array Tmp} {p0 p1 : Tmp} (hps : ps = #[p0, p1]) {as body : Code} {st : St} {b o : Nat} (hg : evalOperand st.1 g = some (.fn gf [] [.ptr (some (b, o))]))
    {sl : AV} {cb : List AV} (hcb : cellsAt st.2 b = some cb) (hbo : cb[o]? = some sl) {zs : List Int}
    (hsl : (sl = .sl none 0 (.fix 0) ∧ zs = []) ∨ ∃ k q cp cs, sl = .sl (some (k, q)) zs.length cp ∧ cellsAt st.2 k = some cs ∧ ∀ j z, zs[j]? = some z → cs[q + j]? = some (.int .i64 z))
    (hlen : zs.length ≤ 9223372036854775807) (sts mid : Nat → St) (h00 : (sts 0).2 = st.2) {m : Nat} (hm : m ≤ zs.length)
    (hkeep : ∀ i, i ≤ m → cellsAt (sts i).2 b = some cb ∧ ∀ k q n cp, sl = .sl (some (k, q)) n cp → cellsAt (sts i).2 k = cellsAt st.2 k)
    (has : ∀ i z, i < m → zs[i]? = some z → RSnd P st.2.length as (roundEnv p0 p1 st.1 i z, (sts i).2) .normal (mid i))
    (hbd : ∀ i, i < m → RSnd P st.2.length body (mid i) .normal (sts (i + 1))) {r : AExit × St}
    (hfin : (m = zs.length ∧ r = (.normal, (st.1, (sts m).2))) ∨ ∃ z e st', zs[m]? = some z ∧ RSnd P st.2.length as (roundEnv p0 p1 st.1 m z, (sts m).2) .normal (mid m) ∧ RSnd P st.2.length body (mid m) e st' ∧ e ≠ .normal ∧ r = (e, (st.1, st'.2))) :
    CodeSoundR none P B w0 ρ0 h0 (.inl (.rangeFunc g ps as body)) st r.1 r.2 := by
  intro a w hR
  obtain ⟨B1, w1, ds, hx, ρ, hI, hF, hok, hdef, hbase⟩ := hR
  have hga := operand_sound hF hg
  simp only [AV.real, AV.reals] at hga
  obtain ⟨D, hDd⟩ : ∃ D, D = w.heap.size := ⟨_, rfl⟩
  have hB1 : ∀ k, B1 k → k < D := fun k hk => by rw [hDd]; exact hI.size k hk
  have hliveb : live st.2 b = true := by
    have := operand_ok hok hg
    simpa [AV.ok, AV.refs, AV.refsL] using this
  refine wpIn_rangeFunc fun fn hfn => ?_
  obtain ⟨rec, hrec⟩ : ∃ rec : LoopState → Option Code → Loop, rec = fun s pe => { state := s, pending := pe, fn, tmps := a.tmps, params := ps, assign := as, body, defers := D } := ⟨_, rfl⟩
  obtain ⟨W1, hW1⟩ : ∃ W1, (w.alloc (.deferred (some []))).alloc (.loop (rec .ready none)) = W1 := ⟨_, rfl⟩
  have hs1 : W1.heap.size = D + 2 := by rw [← hW1, hDd]; simp
  have hold : ∀ k, k < D → W1.heap[k]? = w.heap[k]? := fun k hk => by
    rw [← hW1]
    exact (Below.heap_alloc _ _ k (by simp; omega)).trans (Below.heap_alloc _ _ k (by omega))
  have hL1 : W1.heap[D + 1]? = some (.loop (rec .ready none)) := by
    rw [← hW1, hDd]; have := World.alloc_heap_new (w.alloc (.deferred (some []))) (.loop (rec .ready none)); rwa [World.size_alloc] at this
  have hK1 : W1.heap[D]? = some (.deferred (some [])) := by
    rw [← hW1, hDd]; exact (Below.heap_alloc _ _ _ (by simp)).trans (World.alloc_heap_new w _)
  have hI1 : Inv ρ B1 w1 st.2 W1 := inv_move hI D ⟨by rw [← hW1]; exact hI.below.os, by rw [← hW1]; exact hI.below.tape, by rw [← hW1]; exact hI.below.output, by have := hI.below.size; omega, fun k hk => (hold k (hB1 k hk)).trans (hI.below.block k hk)⟩
    (fun k hk => by have := hB1 k hk; omega) (fun k x hk ho => by have := hI.obj k x hk; cases x <;> first | exact this.1 | cases ho) (by omega) (fun k _ hk => hold k (by omega)) (fun x hx' => by have := (Array.getElem?_eq_some_iff.1 hx').1; omega)
  let B2 : Fr := fun k => B1 k ∨ k = D ∨ k = D + 1
  -- what holds between rounds
  let J : Nat → World → Prop := fun i W => i ≤ m ∧ W.heap[D + 1]? = some (.loop (rec .ready none)) ∧ W.heap[D]? = some (.deferred (some [])) ∧
    ∃ ρ', Inv ρ' B1 w1 (sts i).2 W ∧ ∀ k, live st.2 k = true → live (sts i).2 k = true ∧ ρ' k = ρ k
  let Jx : World → Prop := fun W => ∃ c, jumpOf r.1 = some c ∧ W.heap[D + 1]? = some (.loop (rec .done (some c))) ∧ W.heap[D]? = some (.deferred (some [])) ∧
    ∃ ρ', Inv ρ' B1 w1 r.2.2 W ∧ ∀ k, live st.2 k = true → live r.2.2 k = true ∧ ρ' k = ρ k
  have hown : ∀ {ρ' : Rho} {B' : Fr} {w' : World} {h : AHeap} {W : World} {pe : LoopState} {q : Option Code}, Inv ρ' B' w' h W → (∀ k, B1 k → B' k) → W.heap[D + 1]? = some (.loop (rec pe q)) → W.heap[D]? = some (.deferred (some [])) →
      ∀ k x, h[k]? = some x → x.own = true → ¬ B2 (ρ' k).blk := by
    intro ρ' B' w' h W pe q hI' hsub hl hd k x hk hxo hb
    obtain ⟨y, hy, hy2⟩ := own_obj hI' hk hxo
    rcases hb with hb | hb | hb
    · have := hI'.obj k x hk
      cases x <;> first | exact this.1 (hsub _ hb) | cases hxo
    · rw [hb, hd] at hy; cases hy
      rcases hy2 with hy2 | ⟨_, _, hy2⟩ <;> cases hy2
    · rw [hb, hl] at hy; cases hy
      rcases hy2 with hy2 | ⟨_, _, hy2⟩ <;> cases hy2
  have hlt : ∀ {W : World} {pe : LoopState} {q : Option Code}, W.heap[D + 1]? = some (.loop (rec pe q)) → D + 1 < W.heap.size := fun h => (Array.getElem?_eq_some_iff.1 h).1
  -- one round
  have round : ∀ (i : Nat) (z : Int) (e : AExit) (st' : St), zs[i]? = some z → RSnd P st.2.length as (roundEnv p0 p1 st.1 i z, (sts i).2) .normal (mid i) → RSnd P st.2.length body (mid i) e st' → ∀ W, J i W → ∀ (Rr : Ending → World → Prop),
      (∀ W', W'.heap[D + 1]? = some (.loop (rec (if (jumpOf e).isNone then .ready else .done) (jumpOf e))) → W'.heap[D]? = some (.deferred (some [])) → (∃ ρ', Inv ρ' B1 w1 st'.2 W' ∧ ∀ k, live st.2 k = true → live st'.2 k = true ∧ ρ' k = ρ k) → Rr (.returned (.bool (jumpOf e).isNone)) W') →
      YieldAt (fR none) 0 P (D + 1) #[.int .i64 i, .int .i64 z] W Rr := by
    intro i z e st' hz has hbd W ⟨him, hl, hk, ρ', hI', hρ'⟩ Rr hRr
    have hy := run_yield (P := P) (args := #[.int .i64 i, .int .i64 z]) hl (by rw [hrec, hps]; rfl)
    rw [hrec] at hy
    have hlW := hlt hl
    refine ⟨fn, _, as, body, hy, roundIn_of_wpIn hfn ?_⟩
    have hFr : FrameRel ρ' (roundEnv p0 p1 st.1 i z) ((ps.zip #[Value.int .i64 i, .int .i64 z]).foldl (fun t (p, v) => t.setIfInBounds p v) a.tmps) := by
      have h1 : FrameRel ρ' st.1 a.tmps := frame_later hF hok (fun k hk => (hρ' k hk).2)
      have h2 := frame_set (d := p1) (v := .int .i64 z) (frame_set (d := p0) (v := .int .i64 i) h1)
      rw [hps]
      have e : (#[p0, p1].zip #[Value.int .i64 i, .int .i64 z]).foldl (fun t (x : Tmp × Value) => match x with | (p, v) => t.setIfInBounds p v) a.tmps = (a.tmps.setIfInBounds p0 (.int .i64 i)).setIfInBounds p1 (.int .i64 z) := by simp
      rw [e]
      exact h2
    have hokr : ∀ v ∈ roundEnv p0 p1 st.1 i z, AV.ok (sts i).2 ρ' v := by
      refine ok_set (ok_set (fun v hv => ?_) rfl) rfl
      exact refs_mono (fun k hk => ⟨(hρ' k hk).1, by rw [(hρ' k hk).2]⟩) v (hok v hv)
    have hsW : ∀ k, B2 k → k < W.heap.size := fun k hk => by
      rcases hk with hk | hk | hk
      · have := hB1 k hk; omega
      · omega
      · omega
    have hR0 : Rel B2 W ρ st.2 (roundEnv p0 p1 st.1 i z, (sts i).2) { tmps := (ps.zip #[Value.int .i64 i, .int .i64 z]).foldl (fun t (p, v) => t.setIfInBounds p v) a.tmps, defers := [] } W :=
      rel_into hI' hsW (hown hI' (fun _ h => h) hl hk) hFr hokr hρ' rfl
    refine wpIn_mono (has (D + 1) B2 W ρ st.2 (Nat.le_refl _) _ W hR0) fun ex a2 W2 ⟨hex, hR2⟩ => ?_
    subst hex
    have hI2 : ∃ ρ2, Inv ρ2 B2 W (mid i).2 W2 := by
      obtain ⟨B3, w3, ds', hx', ρ2, hI2, _⟩ := hR2
      exact ⟨ρ2, inv_ext hx' hI2⟩
    obtain ⟨ρ2, hI2⟩ := hI2
    have hlm : W2.heap[D + 1]? = some (.loop (rec .ready none)) := (hI2.below.block _ (.inr (.inr rfl))).trans hl
    have hkm : W2.heap[D]? = some (.deferred (some [])) := (hI2.below.block _ (.inr (.inl rfl))).trans hk
    refine ⟨W2.putObj (D + 1) (.loop { rec .ready none with state := .busy }), run_beginRound hlm (by rw [hrec]), ?_⟩
    have hltm := hlt hlm
    have hl3 : (W2.putObj (D + 1) (.loop { rec .ready none with state := .busy })).heap[D + 1]? = some (.loop (rec .busy none)) := by rw [World.putObj_heap_same hltm, hrec]
    have hk3 : (W2.putObj (D + 1) (.loop { rec .ready none with state := .busy })).heap[D]? = some (.deferred (some [])) := (World.putObj_heap_other (by omega)).trans hkm
    have hR3 := rel_turn hR2 (.loop { rec .ready none with state := .busy }) hlm
    obtain ⟨W3, hW3⟩ : ∃ W3, W2.putObj (D + 1) (.loop { rec .ready none with state := .busy }) = W3 := ⟨_, rfl⟩
    have hp3 : ∀ k, k ≠ D + 1 → W3.heap[k]? = W2.heap[k]? := fun k hk => by rw [← hW3]; exact World.putObj_heap_other hk
    have hz3 : W3.heap.size = W2.heap.size := by rw [← hW3]; simp
    rw [hW3] at hl3 hk3 hR3 ⊢
    refine wpIn_mono (hbd (D + 1) B2 W3 ρ st.2 (Nat.le_refl _) a2 W3 hR3) fun ex a4 W4 ⟨hex, hR4⟩ => ?_
    obtain ⟨B3, w3, ds', hx', ρ4, hI4, _, _, _, hl4⟩ := hR4
    have hI4 := inv_ext hx' hI4
    have hl5 : W4.heap[D + 1]? = some (.loop (rec .busy none)) := (hI4.below.block _ (.inr (.inr rfl))).trans hl3
    have hk5 : W4.heap[D]? = some (.deferred (some [])) := (hI4.below.block _ (.inr (.inl rfl))).trans hk3
    have hend : ∃ v w', (Instr.endRound (D + 1) (jumpOf e)).run P W4 = .ok v w' ∧ Rr (.returned v) w' := by
      refine ⟨_, _, run_endRound (jumpOf e) hl5, hRr _ ?_ ((World.putObj_heap_other (by omega)).trans hk5) ⟨ρ4, ?_, hl4⟩⟩
      · rw [World.putObj_heap_same (hlt hl5), hrec]
      · refine inv_move hI4 (D + 1) ⟨?_, ?_, ?_, ?_, fun k hk => ?_⟩ (fun k hk => by have := hI4.size k (.inl hk); simp; omega) (fun k x hk ho hb => ?_) (by simp) (fun k hk _ => World.putObj_heap_other hk) (fun o ho => by rw [hl5] at ho; cases ho; exact ⟨rfl, fun es c e => by cases e⟩)
        · have h1 := hI4.below.os; have h2 := hI2.below.os; have h3 := hI'.below.os
          show W4.os = w1.os
          rw [h1, ← hW3]; show W2.os = _; rw [h2, h3]
        · have h1 := hI4.below.tape; have h2 := hI2.below.tape; have h3 := hI'.below.tape
          show W4.tape = w1.tape
          rw [h1, ← hW3]; show W2.tape = _; rw [h2, h3]
        · have h1 := hI4.below.output; have h2 := hI2.below.output; have h3 := hI'.below.output
          show W4.output = w1.output
          rw [h1, ← hW3]; show W2.output = _; rw [h2, h3]
        · have h1 := hI4.below.size; have h2 := hI2.below.size; have h3 := hI'.below.size
          simp; omega
        · have hkD := hB1 k hk
          rw [World.putObj_heap_other (by omega), hI4.below.block k (.inl hk), hp3 k (by omega), hI2.below.block k (.inl hk), hI'.below.block k hk]
        · have := hI4.obj k x hk
          cases x <;> first | exact this.1 (.inl hb) | cases ho
    obtain ⟨v, w', h1, h2⟩ := hend
    subst hex
    cases e with
    | normal => exact ⟨v, w', h1, h2⟩
    | ret => exact ⟨v, w', h1, h2⟩
    | exit id => exact ⟨v, w', h1, h2⟩
    | goto t => exact ⟨v, w', h1, h2⟩
  -- the end
  have relEnd : ∀ (W : World) (h' : AHeap) {pe : LoopState} {q : Option Code} (x : Obj), W.heap[D + 1]? = some (.loop (rec pe q)) → W.heap[D]? = some (.deferred (some [])) → (∃ ρ', Inv ρ' B1 w1 h' W ∧ ∀ k, live st.2 k = true → live h' k = true ∧ ρ' k = ρ k) →
      Rel B w0 ρ0 h0 (st.1, h') { a with defers := { target := .collected D, args := #[] } :: a.defers } (W.putObj (D + 1) x) := by
    intro W h' pe q x hl hd ⟨ρ', hI', hρ'⟩
    have hlW := hlt hl
    have hpb : ∀ k, k ≠ D + 1 → (W.putObj (D + 1) x).heap[k]? = W.heap[k]? := fun k hk => World.putObj_heap_other hk
    have hkept : Kept B1 w1 (W.putObj (D + 1) x) := ⟨hI'.below.os, hI'.below.tape, hI'.below.output, by have := hI'.below.size; simpa using this, fun k hk => by
      have := hB1 k hk
      rw [hpb k (by omega)]; exact hI'.below.block k hk⟩
    refine ⟨fun k => B1 k ∨ k = D, W.putObj (D + 1) x, { target := .collected D, args := #[] } :: ds, ⟨hx.kept.trans (hkept.mono hx.sub), fun k hk => .inl (hx.sub k hk), fun d hd' => ?_, ?_⟩, ρ', ?_, frame_later hF hok (fun k hk => (hρ' k hk).2), fun v hv => ?_, by rw [hdef], fun i hi => ?_⟩
    · rcases List.mem_cons.1 hd' with rfl | hd'
      · exact ⟨D, rfl, .inr rfl, fun h => by have := hB1 D (hx.sub D h); omega, (hpb D (by omega)).trans hd⟩
      · obtain ⟨D', e1, e2, e3, e4⟩ := hx.marks d hd'
        exact ⟨D', e1, .inl e2, e3, (hkept.block D' e2).trans e4⟩
    · rw [List.nodup_cons]
      refine ⟨fun hm => ?_, hx.nodup⟩
      obtain ⟨D', e1, e2, e3, e4⟩ := hx.marks _ hm
      have e5 : D = D' := by
        simp only [Deferred.mk.injEq, Target.collected.injEq, and_true] at e1
        exact e1
      have := hB1 D' e2
      omega
    · refine inv_move hI' (D + 1) (Kept.refl _ _) (fun k hk => ?_) (fun k y hk ho hb => ?_) (by simp) (fun k hk _ => hpb k hk) (fun o ho => by rw [hl] at ho; cases ho; exact ⟨rfl, fun es c e => by cases e⟩)
      · rcases hk with hk | hk
        · have := hB1 k hk; simp; omega
        · simp; omega
      · exact hown hI' (fun _ h => h) hl hd k y hk ho (hb.elim .inl fun h => .inr (.inl h))
    · exact refs_mono (fun k hk => ⟨(hρ' k hk).1, by rw [(hρ' k hk).2]⟩) v (hok v hv)
    · exact ⟨(hρ' i (hbase i hi).1).1, by rw [(hρ' i (hbase i hi).1).2]; exact (hbase i hi).2⟩
  refine ⟨D + 1, [{ target := .collected D, args := #[] }], W1, { target := .fn (.func gf) #[.pointer (some (adr ρ b o))], args := #[.func (.yield (D + 1)) #[] #[]] }, W1, gf,
    #[.func (.yield (D + 1)) #[] #[]] ++ #[.pointer (some (adr ρ b o))], W1, ?_, ?_, ?_, ?_, (fun e => by cases e), ?_⟩
  · rw [← hW1, hrec, hDd]; exact run_enterLoop_outer _ _ _ _ _
  · simp only [resolve, hga]
    simp [go_sem, adr]
  · intro f' hf'; trivial
  · obtain ⟨fn', h1, h2, h3⟩ := hit.1
    have hn : (fn'.name == "runtime.NumGoroutine") = false := by simpa using h3
    have hbn : fn'.body.isNone = false := by cases hq : fn'.body <;> simp_all
    simp only [invoke, callFunc, Sem.run_bind, run_program, Result.andThen_ok, h1, hn, Bool.false_eq_true, if_false, hbn]
    simp
  · refine (hit.2 (adr ρ b o) zs (sl.real ρ) (D + 1) J Jx W1 hlen ?_ ?_ ⟨Nat.zero_le _, hL1, hK1, ρ, by rw [h00]; exact hI1, fun k hk => by rw [h00]; exact ⟨hk, rfl⟩⟩).mono ?_
    · rintro i W ⟨him, hl, hk, ρ', hI', hρ'⟩
      obtain ⟨k1, k2⟩ := hkeep i him
      have hb' : ρ' b = ρ b := (hρ' b hliveb).2
      have hslok : sl.ok st.2 ρ := cells_ok hI hcb sl (List.mem_of_getElem? hbo)
      have hsr : sl.real ρ' = sl.real ρ := real_congr (fun k hk => (hρ' k hk).2) sl hslok
      have hc := cell_at hI' k1 hbo
      rw [hsr] at hc
      refine ⟨by have e : adr ρ' b o = adr ρ b o := by simp [adr, hb']
                 rw [← e]; exact hc, ?_⟩
      rcases hsl with ⟨rfl, rfl⟩ | ⟨k, q, cp, cs, rfl, hcs, hz⟩
      · exact .inl ⟨rfl, rfl⟩
      · right
        have hlk : live st.2 k = true := by
          cases cp <;> simp only [AV.ok, AV.refs, Bool.and_eq_true] at hslok <;> exact hslok.1
        have hkk : ρ' k = ρ k := (hρ' k hlk).2
        refine ⟨(ρ k).blk, (ρ k).off + q, _, rfl, fun j z hj => ?_⟩
        have hcs' : cellsAt (sts i).2 k = some cs := by rw [k2 k q zs.length cp rfl]; exact hcs
        have := cell_at hI' hcs' (hz j z hj)
        simp only [adr, hkk] at this
        rw [Nat.add_assoc]; exact this
    · intro i z W hJ hz
      have him : i ≤ m := hJ.1
      rcases Nat.lt_or_ge i m with hlt' | hge
      · refine round i z .normal (sts (i + 1)) hz (has i z hlt' hz) (hbd i hlt') W hJ _ fun W' h1 h2 h3 => .inl ⟨rfl, hlt', h1, h2, h3⟩
      · have hie : i = m := by omega
        subst hie
        rcases hfin with ⟨rfl, _⟩ | ⟨z', e, st', hz', ha', hb', hne, rfl⟩
        · simp at hz
        · rw [hz] at hz'; cases hz'
          refine round i z e st' hz ha' hb' W hJ _ fun W' h1 h2 h3 => .inr ⟨?_, ?_⟩
          · cases e <;> first | exact absurd rfl hne | rfl
          · cases e with
            | normal => exact absurd rfl hne
            | ret => exact ⟨_, rfl, h1, h2, h3⟩
            | exit id => exact ⟨_, rfl, h1, h2, h3⟩
            | goto t => exact ⟨_, rfl, h1, h2, h3⟩
    · rintro e W2 ⟨⟨v, rfl⟩, (⟨him, hl, hk, h3⟩ | ⟨c, hc, hl, hk, h3⟩)⟩
      · have hmz : m = zs.length := by omega
        rcases hfin with ⟨_, rfl⟩ | ⟨z', e, st', hz', _⟩
        · have h4 := relEnd W2 _ (.loop { rec .ready none with state := .exhausted }) hl hk h3
          rw [← hmz] at h4
          have e2 := run_endLoop (P := P) hl (by rw [hrec]; simp)
          have e3 : (rec .ready none).pending = none := by rw [hrec]
          exact ⟨none, _, e2.trans (congrArg (fun q => Result.ok q _) e3), rfl, h4⟩
        · rw [hmz] at hz'; simp at hz'
      · have h4 := relEnd W2 r.2.2 (.loop { rec .done (some c) with state := .exhausted }) hl hk h3
        have hst1 : r.2.1 = st.1 := by
          rcases hfin with ⟨_, rfl⟩ | ⟨z', e, st', _, _, _, _, rfl⟩
          · rfl
          · rfl
        have hpair : (st.1, r.2.2) = r.2 := by rw [← hst1]
        rw [hpair] at h4
        have e2 := run_endLoop (P := P) hl (by rw [hrec]; simp)
        have e3 : (rec .done (some c)).pending = some c := by rw [hrec]
        refine ⟨some c, _, e2.trans (congrArg (fun q => Result.ok q _) e3), ?_⟩
        obtain ⟨r1, r2⟩ := r
        cases r1 with
        | normal => cases hc
        | ret => cases hc; exact wpIn_ret ⟨rfl, h4⟩
        | exit id => cases hc; exact wpIn_exit ⟨rfl, h4⟩
        | goto t => cases hc; exact wpIn_goto ⟨rfl, h4⟩
end
end Go.Am
