/- Functions that read what they are handed and hand back new memory: contracts out of runs over a small memory. -/
import Derived.Test.YtfnlokknpldkgaaAmZd
set_option linter.unusedVariables false
set_option linter.unusedSimpArgs false
namespace Go.Am
open Go Go.RowKit
/-- A new row as it is handed back. -/
def renOwn (σ : Nat → Option Nat) (o : AObj) : AObj := match renObj σ o with
  | .ro _ => .dead
  | .hole => .dead
  | o => o
theorem renOwn_cases (σ : Nat → Option Nat) (o : AObj) : renOwn σ o = renObj σ o ∨ renOwn σ o = .dead := by
  unfold renOwn
  split <;> first | exact .inr rfl | exact .inl rfl
theorem renOwn_there (σ : Nat → Option Nat) (o : AObj) : (renOwn σ o).there = true := by
  unfold renOwn
  split
  · rfl
  · rfl
  · rename_i h1 h2
    cases h : renObj σ o with
    | hole => exact absurd h h2
    | _ => rfl
theorem renOwn_ro {σ : Nat → Option Nat} {o : AObj} {cs : List AV} (h : renOwn σ o = .ro cs) : False := by
  unfold renOwn at h
  split at h
  · cases h
  · cases h
  · rename_i h1 h2; exact h1 _ h
def freshS (s : List AV → List AObj → Option (AV × AHeap × List Nat)) (args : List AV) (h : AHeap) : Option (AV × AHeap) :=
  (impArgs h 0 args).bind fun r => (s r.1 r.2).bind fun q =>
    if decide q.2.2.Nodup then
      (q.1.ren fun i => (q.2.2.idxOf? i).map (h.length + ·)).map fun v => (v, h ++ q.2.2.map fun k => renOwn (fun i => (q.2.2.idxOf? i).map (h.length + ·)) (q.2.1.getD k .dead))
    else none
section
variable {P : Program} {S : Specs} {B : Fr} {w0 : World}
/-- Memory of a call of its own, put behind the caller's. -/
theorem inv_join {ρ ρ1 : Rho} {h hs : AHeap} {w w' : World} (hI : Inv ρ B w0 h w) (hI1 : Inv ρ1 (allOf w) w hs w') (ks : List Nat) (hnd : ks.Nodup) :
    ∃ ρ' : Rho, Inv ρ' B w0 (h ++ ks.map fun k => renOwn (fun i => (ks.idxOf? i).map (h.length + ·)) (hs.getD k .dead)) w' ∧
      (∀ i, live h i = true → live (h ++ ks.map fun k => renOwn (fun i => (ks.idxOf? i).map (h.length + ·)) (hs.getD k .dead)) i = true ∧ ρ' i = ρ i) ∧
      ∀ v v', v.ren (fun i => (ks.idxOf? i).map (h.length + ·)) = some v' → AV.ok hs ρ1 v → v'.real ρ' = v.real ρ1 ∧
        AV.ok (h ++ ks.map fun k => renOwn (fun i => (ks.idxOf? i).map (h.length + ·)) (hs.getD k .dead)) ρ' v' := by
  obtain ⟨σ, hσd⟩ : ∃ σ : Nat → Option Nat, σ = fun i => (ks.idxOf? i).map (h.length + ·) := ⟨_, rfl⟩
  obtain ⟨h', hh⟩ : ∃ h', h' = h ++ ks.map fun k => renOwn σ (hs.getD k .dead) := ⟨_, rfl⟩
  obtain ⟨ρ', hρ⟩ : ∃ ρ' : Rho, ρ' = fun i => if i < h.length then ρ i else ρ1 (ks.getD (i - h.length) 0) := ⟨_, rfl⟩
  rw [← hσd, ← hh]
  have lowlt : ∀ i, live h i = true → i < h.length := fun i hi => by
    rcases Nat.lt_or_ge i h.length with q | q
    · exact q
    · simp [live, List.getElem?_eq_none q] at hi
  have ρlow : ∀ i, i < h.length → ρ' i = ρ i := fun i hi => by rw [hρ]; simp only [hi, if_true]
  have hσ : ∀ i j, σ i = some j → ρ' j = ρ1 i := fun i j hij => by
    rw [hσd] at hij
    simp only [Option.map_eq_some_iff] at hij
    obtain ⟨m, h1, rfl⟩ := hij
    have := idxOf?_spec ks _ _ h1
    rw [hρ]
    simp only [show ¬ h.length + m < h.length by omega, if_false, show h.length + m - h.length = m by omega]
    rw [List.getD_eq_getElem?_getD, this]
    rfl
  have hnew : ∀ m k, ks[m]? = some k → h'[h.length + m]? = some (renOwn σ (hs.getD k .dead)) := fun m k hk => by
    rw [hh, List.getElem?_append_right (by omega), show h.length + m - h.length = m by omega, List.getElem?_map, hk]; rfl
  have hat : ∀ k o, h'[k]? = some o → (k < h.length ∧ h[k]? = some o) ∨ (h.length ≤ k ∧ ∃ j, ks[k - h.length]? = some j ∧ ρ' k = ρ1 j ∧ ((∃ u, hs[j]? = some u ∧ (o = renObj σ u ∨ o = .dead)) ∨ o = .dead) ∧ (∀ cs, o ≠ .ro cs)) := fun k o ho => by
    rw [hh] at ho
    rcases Nat.lt_or_ge k h.length with q | q
    · rw [List.getElem?_append_left q] at ho; exact .inl ⟨q, ho⟩
    · rw [List.getElem?_append_right q, List.getElem?_map] at ho
      simp only [Option.map_eq_some_iff] at ho
      obtain ⟨j, hj, rfl⟩ := ho
      refine .inr ⟨q, j, hj, ?_, ?_, fun cs hc => renOwn_ro hc⟩
      · rw [hρ]; simp only [show ¬ k < h.length by omega, if_false]; rw [List.getD_eq_getElem?_getD, hj]; rfl
      · cases hu : hs[j]? with
        | none => right; rw [List.getD_eq_getElem?_getD, hu]; rfl
        | some u => left; exact ⟨u, rfl, by rw [List.getD_eq_getElem?_getD, hu]; exact renOwn_cases σ u⟩
  have hlv : ∀ i, live h i = true → live h' i = true := fun i hi => by
    have := lowlt i hi
    unfold live at hi ⊢
    rw [hh, List.getElem?_append_left this]
    exact hi
  have hrf : ∀ i j, σ i = some j → live hs i = true → live h' j = true ∧ (fun k => (ρ' k).cap) j = (fun k => (ρ1 k).cap) i := fun i j hij hl => by
    refine ⟨?_, by simp only [hσ i j hij]⟩
    rw [hσd] at hij
    simp only [Option.map_eq_some_iff] at hij
    obtain ⟨m, h1, rfl⟩ := hij
    have := hnew m i (idxOf?_spec ks _ _ h1)
    simp only [live, this]
    exact renOwn_there _ _
  refine ⟨ρ', ⟨hI.below.trans (hI1.below.mono hI.size), fun q hq => Nat.lt_of_lt_of_le (hI.size q hq) hI1.below.size, fun k o ho => ?_, fun k k' o o' ho ho' h1 h2 hne => ?_, fun k k' o cs ho ho' h1 => ?_, fun k o ho => ?_⟩, fun i hi => ⟨hlv i hi, ρlow i (lowlt i hi)⟩, fun v v' hv hok => ⟨ren_real hσ _ _ hv, ren_refs hrf _ _ hv hok⟩⟩
  · rcases hat k o ho with ⟨hk, ho⟩ | ⟨hk, j, hj, hr, hc, -⟩
    · rw [ρlow k hk]
      have h1 := objRel_kept hI1.below.size (fun hlt => hI1.below.block _ hlt) (hI.obj k o ho)
      exact objRel_congr (fun i hi => ρlow i (lowlt i hi)) (hI.wf k o ho) h1
    · rcases hc with ⟨u, hu, rfl | rfl⟩ | rfl
      · rw [hr]
        have h1 := renObj_rel hσ (hI1.obj j u hu)
        generalize renObj σ u = o' at h1
        cases o' with
        | row t s cs => exact ⟨fun hb => h1.1 (hI.size _ hb), h1.2⟩
        | map es => exact ⟨fun hb => h1.1 (hI.size _ hb), h1.2⟩
        | ro cs => exact h1
        | hole => trivial
        | dead => trivial
      · trivial
      · trivial
  · rcases hat k o ho with ⟨hk, ho⟩ | ⟨hk, j, hj, hr, hc, -⟩
    · rcases hat k' o' ho' with ⟨hk', ho'⟩ | ⟨hk', j', hj', hr', hc', -⟩
      · rw [ρlow k hk, ρlow k' hk']; exact hI.sep k k' o o' ho ho' h1 h2 hne
      · rcases hc' with ⟨u, hu, rfl | rfl⟩ | rfl
        · have l1 := obj_low (hI.obj k o ho) (.inl h1)
          have h3 := renObj_rel hσ (hI1.obj j' u hu)
          have l2 : w.heap.size ≤ (ρ1 j').blk := by
            generalize renObj σ u = o2 at h3 h2
            cases o2 with
            | row t s cs => exact Nat.le_of_not_lt h3.1
            | map es => exact Nat.le_of_not_lt h3.1
            | _ => cases h2
          rw [ρlow k hk, hr']
          omega
        · cases h2
        · cases h2
    · rcases hc with ⟨u, hu, rfl | rfl⟩ | rfl
      · have h3 := renObj_rel hσ (hI1.obj j u hu)
        have l2 : w.heap.size ≤ (ρ1 j).blk := by
          have h1' := h1
          generalize renObj σ u = o2 at h3 h1'
          cases o2 with
          | row t s cs => exact Nat.le_of_not_lt h3.1
          | map es => exact Nat.le_of_not_lt h3.1
          | _ => cases h1'
        rcases hat k' o' ho' with ⟨hk', ho'⟩ | ⟨hk', j', hj', hr', hc', -⟩
        · have l1 := obj_low (hI.obj k' o' ho') (.inl h2)
          rw [ρlow k' hk', hr]
          omega
        · rcases hc' with ⟨u', hu', rfl | rfl⟩ | rfl
          · rw [hr, hr']
            refine hI1.sep j j' u u' hu hu' (renObj_own h1) (renObj_own h2) fun e => ?_
            subst e
            have a1 : k - h.length < ks.length := by
              rcases Nat.lt_or_ge (k - h.length) ks.length with q | q
              · exact q
              · simp [List.getElem?_eq_none q] at hj
            have a2 : k' - h.length < ks.length := by
              rcases Nat.lt_or_ge (k' - h.length) ks.length with q | q
              · exact q
              · simp [List.getElem?_eq_none q] at hj'
            rw [List.getElem?_eq_getElem a1] at hj
            rw [List.getElem?_eq_getElem a2] at hj'
            simp only [Option.some.injEq] at hj hj'
            have := (List.getElem_inj hnd (h₀ := a1) (h₁ := a2)).1 (hj.trans hj'.symm)
            omega
          · cases h2
          · cases h2
      · cases h1
      · cases h1
  · rcases hat k o ho with ⟨hk, ho⟩ | ⟨hk, j, hj, hr, hc, -⟩
    · rcases hat k' _ ho' with ⟨hk', ho'⟩ | ⟨hk', j', hj', hr', hc', hn⟩
      · rw [ρlow k hk, ρlow k' hk']; exact hI.sepr k k' o cs ho ho' h1
      · exact absurd rfl (hn cs)
    · rcases hc with ⟨u, hu, rfl | rfl⟩ | rfl
      · have h3 := renObj_rel hσ (hI1.obj j u hu)
        have l2 : w.heap.size ≤ (ρ1 j).blk := by
          generalize renObj σ u = o2 at h3 h1
          cases o2 with
          | row t s cs => exact Nat.le_of_not_lt h3.1
          | map es => exact Nat.le_of_not_lt h3.1
          | _ => cases h1
        rcases hat k' _ ho' with ⟨hk', ho'⟩ | ⟨hk', j', hj', hr', hc', hn⟩
        · have l1 := obj_low (hI.obj k' _ ho') (.inr ⟨cs, rfl⟩)
          rw [ρlow k' hk', hr]
          omega
        · exact absurd rfl (hn cs)
      · cases h1
      · cases h1
  · rcases hat k o ho with ⟨hk, ho⟩ | ⟨hk, j, hj, hr, hc, -⟩
    · have h2 := hI.wf k o ho
      have mono : ∀ v : AV, v.refs (live h) (fun k => (ρ k).cap) = true → v.refs (live h') (fun k => (ρ' k).cap) = true := fun v hv => refs_mono (fun i hi => ⟨hlv i hi, by simp only [ρlow i (lowlt i hi)]⟩) v hv
      cases o with
      | hole => rfl
      | dead => rfl
      | ro cs => simp only [AObj.refs, List.all_eq_true] at h2 ⊢; exact fun v hv => mono v (h2 v hv)
      | row t s cs => simp only [AObj.refs, List.all_eq_true] at h2 ⊢; exact fun v hv => mono v (h2 v hv)
      | map es =>
        simp only [AObj.refs, List.all_eq_true, Bool.and_eq_true] at h2 ⊢
        exact fun e he => ⟨mono _ (h2 e he).1, mono _ (h2 e he).2⟩
    · rcases hc with ⟨u, hu, rfl | rfl⟩ | rfl
      · exact renObj_refs hrf (hI1.wf j u hu)
      · rfl
      · rfl
/-- **A contract of a function that hands back new memory, out of runs over a small memory.** -/
theorem fresh_of_sem {f : FuncId} {fn : Func} (hf : HasText P f fn) {s : List AV → List AObj → Option (AV × AHeap × List Nat)}
    (hs : ∀ args hp v hq ks, s args hp = some (v, hq, ks) → CallSem P f args hp v hq) : FullOK P f (freshS s) := by
  refine ⟨fun args h v h' hv ρ B w0 w hI hok => ?_, fn, hf.1, hf.2.1, hf.2.2⟩
  unfold freshS at hv
  simp only [Option.bind_eq_some_iff] at hv
  obtain ⟨⟨args', hp⟩, h1, ⟨v0, hq, ks⟩, h2, h3⟩ := hv
  simp only at h3
  split at h3
  · rename_i hnd
    simp only [decide_eq_true_eq] at hnd
    simp only [Option.map_eq_some_iff, Prod.mk.injEq] at h3
    obtain ⟨v1, h4, rfl, rfl⟩ := h3
    obtain ⟨ρ1, -, g2, g3, g4⟩ := imp_sound hI args 0 args' hp ρ h1 hok
    have hI1 := inv_small g3
    have hlive : ∀ j, j < hp.length → live hp (0 + j) = true := fun j hj => by
      rw [Nat.zero_add]
      obtain ⟨cs, he, _⟩ := g3 j _ (List.getElem?_eq_getElem hj)
      simp [live, List.getElem?_eq_getElem hj, he, AObj.there]
    have hb : Calls P f (args'.map (AV.real ρ1)).toArray w fun e w' => ∃ ρ', e = .returned (v0.real ρ') ∧ Inv ρ' (allOf w) w hq w' ∧ (∀ i, live hp i = true → live hq i = true ∧ ρ' i = ρ1 i) ∧ v0.ok hq ρ' := by
      exact hs _ _ _ _ _ h2 ρ1 _ _ _ hI1 (fun a ha => g4 (live hp) hlive a ha)
    rw [g2]
    refine hb.mono fun e w' ⟨ρ2, he, hI2, _, hok2⟩ => ?_
    obtain ⟨ρ', a1, a2, a3⟩ := inv_join hI hI2 ks hnd
    obtain ⟨b1, b2⟩ := a3 v0 v1 h4 hok2
    exact ⟨ρ', by rw [he, b1], a1, a2, b2⟩
  · cases h3
end
end Go.Am
