/- Functions that read whatever their arguments reach, and leave memory as it was. -/
import Derived.Test.YtfnlokknpldkgaaAmZb
set_option linter.unusedVariables false
set_option linter.unusedSimpArgs false
namespace Go.Am
open Go Go.RowKit
/-- Rows that these rows name, so deep. -/
def closeK : Nat → AHeap → List Nat → List Nat
  | 0, _, ks => ks
  | n + 1, h, ks => closeK n h (ks ++ ((ks.flatMap fun k => (h.getD k .dead).names).eraseDups.filter fun x => !ks.contains x))
/-- A row that may only be read. -/
def roObj : AObj → AObj
  | .row _ _ cs => .ro cs
  | .ro cs => .ro cs
  | _ => .dead
def reachK (d : Nat) (h : AHeap) (args : List AV) : List Nat := closeK d h (AV.namesL args).eraseDups
def impD (d : Nat) (h : AHeap) (args : List AV) : Option (List AV × List AObj) :=
  if decide (reachK d h args).Nodup then
    (AV.renL (fun i => (reachK d h args).idxOf? i) args).map fun a => (a, (reachK d h args).map fun k => roObj (renObj (fun i => (reachK d h args).idxOf? i) (h.getD k .dead)))
  else none
mutual
theorem names_refs {p : Nat → Bool} {c : Nat → Nat} : ∀ v : AV, v.refs p c = true → ∀ x ∈ v.names, p x = true
  | .ptr none, _, x, hx => by cases hx
  | .ptr (some (k, _)), hv, x, hx => by simp only [AV.names, List.mem_cons, List.not_mem_nil, or_false] at hx; subst hx; exact hv
  | .sl none _ _, _, x, hx => by cases hx
  | .sl (some (k, _)) _ (.fix _), hv, x, hx => by
    simp only [AV.names, List.mem_cons, List.not_mem_nil, or_false] at hx; subst hx
    simp only [AV.refs, Bool.and_eq_true] at hv; exact hv.1
  | .sl (some (k, _)) _ (.rel _), hv, x, hx => by
    simp only [AV.names, List.mem_cons, List.not_mem_nil, or_false] at hx; subst hx
    simp only [AV.refs, Bool.and_eq_true] at hv; exact hv.1
  | .agg cs, hv, x, hx => namesL_refs cs hv x hx
  | .tup cs, hv, x, hx => namesL_refs cs hv x hx
  | .fn f a b, hv, x, hx => by
    simp only [AV.refs, Bool.and_eq_true] at hv
    rcases List.mem_append.1 hx with hx | hx
    · exact namesL_refs a hv.1 x hx
    · exact namesL_refs b hv.2 x hx
  | .map none, _, x, hx => by cases hx
  | .map (some k), hv, x, hx => by simp only [AV.names, List.mem_cons, List.not_mem_nil, or_false] at hx; subst hx; exact hv
  | .ifc t v, hv, x, hx => names_refs v hv x hx
  | .slE k o i l s, hv, x, hx => by
    simp only [AV.names, List.mem_cons, List.not_mem_nil, or_false] at hx; subst hx
    simp only [AV.refs, Bool.and_eq_true] at hv; exact hv.1
  | .int _ _, _, x, hx => by cases hx
  | .bool _, _, x, hx => by cases hx
  | .str _, _, x, hx => by cases hx
  | .nilFn, _, x, hx => by cases hx
  | .nilIfc, _, x, hx => by cases hx
  | .ext _ _ _, _, x, hx => by cases hx
  | .any, _, x, hx => by cases hx
  | .und, _, x, hx => by cases hx
theorem namesL_refs {p : Nat → Bool} {c : Nat → Nat} : ∀ vs : List AV, AV.refsL p c vs = true → ∀ x ∈ AV.namesL vs, p x = true
  | [], _, x, hx => by cases hx
  | v :: vs, hv, x, hx => by
    simp only [AV.refsL, Bool.and_eq_true] at hv
    rcases List.mem_append.1 hx with hx | hx
    · exact names_refs v hv.1 x hx
    · exact namesL_refs vs hv.2 x hx
end
theorem obj_names {p : Nat → Bool} {c : Nat → Nat} {o : AObj} (h : o.refs p c = true) : ∀ x ∈ o.names, p x = true := by
  cases o with
  | hole => exact fun x hx => by cases hx
  | dead => exact fun x hx => by cases hx
  | ro cs => exact namesL_refs (c := c) cs (by rw [refsL_eq]; exact h)
  | row t s cs => exact namesL_refs (c := c) cs (by rw [refsL_eq]; exact h)
  | map es =>
    intro x hx
    simp only [AObj.names, List.mem_flatMap] at hx
    obtain ⟨e, he, hx⟩ := hx
    have := List.all_eq_true.1 h e he
    simp only [Bool.and_eq_true] at this
    rcases List.mem_append.1 hx with hx | hx
    · exact names_refs _ this.1 x hx
    · exact names_refs _ this.2 x hx
theorem getD_set {h : AHeap} {k x : Nat} {o : AObj} (hne : x ≠ k) : (h.set k o).getD x .dead = h.getD x .dead := by
  rw [List.getD_eq_getElem?_getD, List.getD_eq_getElem?_getD, List.getElem?_set_ne (fun e => hne e.symm)]
theorem close_live {h : AHeap} {c : Nat → Nat} (hw : ∀ (j : Nat) (u : AObj), h[j]? = some u → u.refs (live h) c = true) {ks : List Nat} (hl : ∀ x ∈ ks, live h x = true) :
    ∀ x ∈ ks ++ ((ks.flatMap fun k => (h.getD k .dead).names).eraseDups.filter fun x => !ks.contains x), live h x = true := fun x hx => by
  rcases List.mem_append.1 hx with hx | hx
  · exact hl x hx
  · have hx := (List.mem_filter.1 hx).1
    have hx : x ∈ ks.flatMap fun k => (h.getD k .dead).names := by simpa using hx
    obtain ⟨k, hk, hx⟩ := List.mem_flatMap.1 hx
    have := hl k hk
    unfold live at this
    split at this
    · rename_i u hu
      rw [List.getD_eq_getElem?_getD, hu] at hx
      exact obj_names (hw k u hu) x hx
    · cases this
theorem close_hole {h : AHeap} {c : Nat → Nat} {k : Nat} {o : AObj} (hk : h[k]? = some .hole) (hw : ∀ (j : Nat) (u : AObj), h[j]? = some u → u.refs (live h) c = true) : ∀ (d : Nat) (ks : List Nat), (∀ x ∈ ks, live h x = true) →
    closeK d (h.set k o) ks = closeK d h ks ∧ ∀ x ∈ closeK d h ks, live h x = true
  | 0, ks, hl => ⟨rfl, hl⟩
  | d + 1, ks, hl => by
    have e : (ks.flatMap fun j => ((h.set k o).getD j .dead).names) = ks.flatMap fun j => (h.getD j .dead).names := by
      rw [List.flatMap_def, List.flatMap_def]
      congr 1
      exact List.map_congr_left fun j hj => by rw [getD_set (live_ne hk (hl j hj))]
    simp only [closeK, e]
    exact close_hole hk hw d _ (close_live hw hl)
theorem start_live {h : AHeap} {args : List AV} {ρ : Rho} (ha : ∀ x ∈ args, AV.ok h ρ x) : ∀ x ∈ (AV.namesL args).eraseDups, live h x = true := fun x hx => by
  have hx : x ∈ AV.namesL args := by simpa using hx
  refine namesL_refs (c := fun k => (ρ k).cap) args ?_ x hx
  rw [refsL_eq, List.all_eq_true]
  exact ha
theorem impD_hole {d : Nat} {h : AHeap} {k : Nat} {o : AObj} {args : List AV} (hk : h[k]? = some .hole) (ha : ∃ ρ : Rho, (∀ x ∈ args, AV.ok h ρ x) ∧ ∀ (j : Nat) (u : AObj), h[j]? = some u → u.refs (live h) (fun k => (ρ k).cap) = true) : impD d (h.set k o) args = impD d h args := by
  obtain ⟨ρ, ha, hw⟩ := ha
  obtain ⟨h1, h2⟩ := close_hole (o := o) hk hw d _ (start_live ha)
  have e : reachK d (h.set k o) args = reachK d h args := h1
  unfold impD
  rw [e]
  split
  · congr 1
    funext a
    congr 1
    exact List.map_congr_left fun j hj => by rw [getD_set (live_ne hk (h2 j hj))]
  · rfl
section
variable {P : Program} {S : Specs} {B : Fr} {w0 : World}
theorem obj_low {ρ : Rho} {w : World} {o : AObj} {l : RL} (h : ObjRel ρ B w l o) (ho : o.own = true ∨ ∃ cs, o = .ro cs) : l.blk < w.heap.size := by
  rcases ho with ho | ⟨cs, rfl⟩
  · cases o with
    | row t s cs =>
      obtain ⟨_, _, arr, h3, _⟩ := h
      rcases Nat.lt_or_ge l.blk w.heap.size with q | q
      · exact q
      · simp [Array.getElem?_eq_none q] at h3
    | map es =>
      obtain ⟨_, ents, clock, h3, _⟩ := h
      rcases Nat.lt_or_ge l.blk w.heap.size with q | q
      · exact q
      · simp [Array.getElem?_eq_none q] at h3
    | _ => cases ho
  · exact h.1
theorem impD_sound {d : Nat} {ρ : Rho} {h : AHeap} {w : World} {args args' : List AV} {hs : List AObj} (hI : Inv ρ B w0 h w) (hok : ∀ a ∈ args, AV.ok h ρ a) (he : impD d h args = some (args', hs)) :
    ∃ ρ1 : Rho, args.map (AV.real ρ) = args'.map (AV.real ρ1) ∧ Inv ρ1 (allOf w) w hs w ∧ ∀ a ∈ args', AV.ok hs ρ1 a := by
  unfold impD at he
  split at he
  · rename_i hnd
    simp only [Option.map_eq_some_iff, Prod.mk.injEq] at he
    obtain ⟨a, h1, rfl, rfl⟩ := he
    obtain ⟨ks, hks⟩ : ∃ ks, ks = reachK d h args := ⟨_, rfl⟩
    rw [← hks] at h1 ⊢
    obtain ⟨σ, hσd⟩ : ∃ σ : Nat → Option Nat, σ = fun i => ks.idxOf? i := ⟨_, rfl⟩
    rw [← hσd] at h1 ⊢
    obtain ⟨ρ1, hρ⟩ : ∃ ρ1 : Rho, ρ1 = fun i => ρ (ks.getD i 0) := ⟨_, rfl⟩
    have hσ : ∀ i j, σ i = some j → ρ1 j = ρ i := fun i j hij => by
      rw [hσd] at hij
      rw [hρ]
      simp only
      rw [List.getD_eq_getElem?_getD, idxOf?_spec ks i j hij]
      rfl
    have hat : ∀ (j : Nat) (o : AObj), (ks.map fun k => roObj (renObj σ (h.getD k .dead)))[j]? = some o → ∃ k, ks[j]? = some k ∧ ρ1 j = ρ k ∧ o = roObj (renObj σ (h.getD k .dead)) := fun j o ho => by
      simp only [List.getElem?_map, Option.map_eq_some_iff] at ho
      obtain ⟨k, hk, rfl⟩ := ho
      exact ⟨k, hk, by rw [hρ]; simp only; rw [List.getD_eq_getElem?_getD, hk]; rfl, rfl⟩
    have hro : ∀ (o : AObj), (roObj o).own = false := fun o => by cases o <;> rfl
    have hth : ∀ (o : AObj), (roObj o).there = true := fun o => by cases o <;> rfl
    have hrf : ∀ i j, σ i = some j → live h i = true → live (ks.map fun k => roObj (renObj σ (h.getD k .dead))) j = true ∧ (fun k => (ρ1 k).cap) j = (fun k => (ρ k).cap) i := fun i j hij _ => by
      refine ⟨?_, by simp only [hσ i j hij]⟩
      rw [hσd] at hij
      have := idxOf?_spec ks i j hij
      simp only [live, List.getElem?_map, this, Option.map_some]
      exact hth _
    refine ⟨ρ1, ?_, ⟨Kept.refl _ _, fun _ hk => hk, fun j o ho => ?_, fun j j' o o' ho _ h1 => ?_, fun j j' o cs ho _ h1 => ?_, fun j o ho => ?_⟩, fun v hv => ?_⟩
    · have := renL_real hσ args a h1
      simpa using this.symm
    · obtain ⟨k, hk, hr, rfl⟩ := hat j o ho
      rw [hr]
      cases hu : h[k]? with
      | none => rw [List.getD_eq_getElem?_getD, hu]; trivial
      | some u =>
        rw [List.getD_eq_getElem?_getD, hu]
        simp only [Option.getD_some]
        have cells : ∀ cs, cellsAt h k = some cs → (u.own = true ∨ ∃ cs, u = .ro cs) → ∀ cs', AV.renL σ cs = some cs' → ObjRel ρ1 (allOf w) w (ρ k) (.ro cs') := fun cs hcs hown cs' hc => by
          refine ⟨obj_low (hI.obj k u hu) hown, fun q v' hv' => ?_⟩
          obtain ⟨v, hv, hvr⟩ := (renL_get _ _ hc).2 q v' hv'
          have := cell_at hI hcs hv
          rw [ren_real hσ _ _ hvr]
          exact this
        cases u with
        | hole => trivial
        | dead => trivial
        | map es => simp only [renObj]; split <;> trivial
        | ro cs =>
          simp only [renObj]
          split
          · rename_i cs' hc; exact cells cs (by simp [cellsAt, hu, objCells]) (.inr ⟨_, rfl⟩) cs' hc
          · trivial
        | row t s cs =>
          simp only [renObj]
          split
          · rename_i cs' hc; exact cells cs (by simp [cellsAt, hu, objCells]) (.inl rfl) cs' hc
          · trivial
    · obtain ⟨k, hk, hr, rfl⟩ := hat j o ho
      rw [hro] at h1; cases h1
    · obtain ⟨k, hk, hr, rfl⟩ := hat j o ho
      rw [hro] at h1; cases h1
    · obtain ⟨k, hk, hr, rfl⟩ := hat j o ho
      cases hu : h[k]? with
      | none => rw [List.getD_eq_getElem?_getD, hu]; rfl
      | some u =>
        rw [List.getD_eq_getElem?_getD, hu]
        simp only [Option.getD_some]
        have := renObj_refs hrf (hI.wf k u hu)
        generalize renObj σ u = o' at this ⊢
        cases o' <;> first | rfl | exact this
    · obtain ⟨i, hi⟩ := List.getElem?_of_mem hv
      obtain ⟨u, hu, hr⟩ := (renL_get _ _ h1).2 i v hi
      exact ren_refs hrf _ _ hr (hok u (List.mem_of_getElem? hu))
  · cases he
/-- **A contract of a function that leaves memory as it was and may read all that its arguments reach.** -/
theorem quiet_of_sem {f : FuncId} {fn : Func} (hf : HasText P f fn) (d : Nat) {g : List AV → List AObj → Option AV}
    (hg : ∀ args hs v, g args hs = some v → v.closed = true ∧ ∃ h', CallSem P f args hs v h') :
    QuietOK P f fun args h => (impD d h args).bind fun r => g r.1 r.2 := by
  refine ⟨fun args h v hv ρ B w0 w hI hok => ?_, fun args h k o hk ha => ?_, fn, hf.1, hf.2.1, hf.2.2⟩
  · simp only [Option.bind_eq_some_iff] at hv
    obtain ⟨⟨as', hs⟩, h1, h2⟩ := hv
    obtain ⟨hc, hev⟩ := hg _ _ _ h2
    refine ⟨closed_ok hc _ _, ?_⟩
    obtain ⟨ρ1, g2, hI1, g4⟩ := impD_sound hI hok h1
    have hb : Calls P f (as'.map (AV.real ρ1)).toArray w fun e w' => ∃ ρ' h', e = .returned (v.real ρ') ∧ Inv ρ' (allOf w) w h' w' := by
      obtain ⟨h', he⟩ := hev
      exact (he ρ1 _ _ _ hI1 g4).mono fun _ _ ⟨ρ', a, b, _⟩ => ⟨ρ', _, a, b⟩
    rw [g2]
    refine hb.mono fun e w' ⟨ρ', h', he', hI'⟩ => ⟨by rw [he', closed_real hc ρ' ρ], ?_⟩
    have hb := hI'.below
    exact ⟨hI.below.trans (hb.mono hI.size), fun k hk => Nat.lt_of_lt_of_le (hI.size k hk) hb.size, fun k o ho => objRel_kept hb.size (fun hlt => hb.block _ hlt) (hI.obj k o ho), hI.sep, hI.sepr, hI.wf⟩
  · show (impD d (h.set k o) args).bind _ = (impD d h args).bind _
    rw [impD_hole hk ha]
end
mutual
theorem ren_closed {σ : Nat → Option Nat} : ∀ v : AV, v.refs (fun _ => false) (fun _ => 0) = true → v.ren σ = some v
  | .ptr none, _ => rfl
  | .ptr (some (k, o)), h => by cases h
  | .sl none _ _, _ => rfl
  | .sl (some (k, o)) _ (.fix _), h => by simp [AV.refs] at h
  | .sl (some (k, o)) _ (.rel _), h => by simp [AV.refs] at h
  | .agg cs, h => by simp only [AV.ren, renL_closed cs h, Option.map_some]
  | .tup cs, h => by simp only [AV.ren, renL_closed cs h, Option.map_some]
  | .fn f a c, h => by
    simp only [AV.refs, Bool.and_eq_true] at h
    simp only [AV.ren, renL_closed a h.1, renL_closed c h.2]
  | .map none, _ => rfl
  | .map (some _), h => by cases h
  | .ifc t v, h => by simp only [AV.ren, ren_closed v h, Option.map_some]
  | .slE _ _ _ _ _, h => by simp [AV.refs] at h
  | .int _ _, _ => rfl
  | .bool _, _ => rfl
  | .str _, _ => rfl
  | .nilFn, _ => rfl
  | .nilIfc, _ => rfl
  | .ext _ _ _, _ => rfl
  | .any, _ => rfl
  | .und, _ => rfl
theorem renL_closed {σ : Nat → Option Nat} : ∀ vs : List AV, AV.refsL (fun _ => false) (fun _ => 0) vs = true → AV.renL σ vs = some vs
  | [], _ => rfl
  | v :: vs, h => by
    simp only [AV.refsL, Bool.and_eq_true] at h
    simp only [AV.renL, ren_closed v h.1, renL_closed vs h.2]
end
theorem closedL {vs : List AV} (h : vs.all AV.closed = true) : AV.refsL (fun _ => false) (fun _ => 0) vs = true := by
  rw [refsL_eq]; exact h
def callS (S : Specs) (g : FuncId) (args : List AV) (h : AHeap) : Option (AV × AHeap) := match S.q g with
  | some sp => (sp args h).map (·, h)
  | none => (S.f g).bind fun sp => sp args h
end Go.Am
