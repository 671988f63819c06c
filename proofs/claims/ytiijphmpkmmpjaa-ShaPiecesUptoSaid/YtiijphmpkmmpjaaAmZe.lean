/- The rule of the frame. -/
import Derived.Test.YtiijphmpkmmpjaaAmZc
set_option linter.unusedVariables false
set_option linter.unusedSimpArgs false
namespace Go.Am
open Go Go.RowKit
/- The rule of the frame: a contract for every memory out of runs over the rows that the arguments reach. -/
def AObj.kind : AObj → Bool
  | .row .. | .ro _ | .map _ => true
  | _ => false
/-- Where the small memory's rows lie in the large one. -/
def tauK (n : Nat) (ks ns : List Nat) (j : Nat) : Option Nat := match ks[j]? with
  | some k => some k
  | none => (ns.idxOf? j).map (n + ·)
def updRow (ks : List Nat) (τ : Nat → Option Nat) (hs' h : AHeap) (i : Nat) : AObj := match ks.idxOf? i with
  | some j => if (h.getD i .dead).kind then renObj τ (hs'.getD j .dead) else .dead
  | none => h.getD i .dead
def joinH (ks ns : List Nat) (hs' h : AHeap) : AHeap :=
  ((List.range h.length).map (updRow ks (tauK h.length ks ns) hs' h)) ++ ns.map fun j => renOwn (tauK h.length ks ns) (hs'.getD j .dead)
def smallH (ks : List Nat) (h : AHeap) : AHeap := ks.map fun k => renObj (fun i => ks.idxOf? i) (h.getD k .dead)
def framedS (d : Nat) (s : List AV → List AObj → Option (AV × AHeap × List Nat)) (args : List AV) (h : AHeap) : Option (AV × AHeap) :=
  if decide (reachK d h args).Nodup then
    (AV.renL (fun i => (reachK d h args).idxOf? i) args).bind fun a => (s a (smallH (reachK d h args) h)).bind fun q =>
      if decide q.2.2.Nodup && q.2.2.all (fun j => decide ((reachK d h args).length ≤ j)) then
        (q.1.ren (tauK h.length (reachK d h args) q.2.2)).map fun v => (v, joinH (reachK d h args) q.2.2 q.2.1 h)
      else none
  else none
theorem close_all {h : AHeap} {c : Nat → Nat} (hw : ∀ (j : Nat) (u : AObj), h[j]? = some u → u.refs (live h) c = true) : ∀ (d : Nat) (ks : List Nat), (∀ x ∈ ks, live h x = true) → ∀ x ∈ closeK d h ks, live h x = true
  | 0, ks, hl => hl
  | d + 1, ks, hl => close_all hw d _ (close_live hw hl)
theorem idxOf?_mem : ∀ {ks : List Nat} {x m : Nat}, ks.Nodup → ks[m]? = some x → ks.idxOf? x = some m
  | [], x, m, _, h => by simp at h
  | k :: ks, x, 0, hn, h => by
    simp only [List.getElem?_cons_zero, Option.some.injEq] at h
    subst h
    simp [List.idxOf?_cons]
  | k :: ks, x, m + 1, hn, h => by
    simp only [List.getElem?_cons_succ] at h
    obtain ⟨h1, h2⟩ := List.nodup_cons.1 hn
    have hne : k ≠ x := fun e => h1 (e ▸ List.mem_of_getElem? h)
    rw [List.idxOf?_cons, idxOf?_mem h2 h]
    simp [hne]
theorem kind_of {o : AObj} (h : o.own = true ∨ ∃ cs, o = .ro cs) : o.kind = true := by
  rcases h with h | ⟨cs, rfl⟩
  · cases o <;> first | rfl | cases h
  · rfl
theorem kind_cases {o : AObj} (h : o.kind = true) : o.own = true ∨ ∃ cs, o = .ro cs := by
  cases o <;> first | (exact .inl rfl) | (exact .inr ⟨_, rfl⟩) | cases h
section
variable {P : Program} {S : Specs} {B : Fr} {w0 : World}
/-- What is left as it was by a run over these rows. -/
def frameOf (ρ : Rho) (h : AHeap) (w : World) (ks : List Nat) : Fr := fun b => b < w.heap.size ∧ ∀ k o, k ∈ ks → h[k]? = some o → o.own = true → (ρ k).blk ≠ b
theorem small_inv {ρ : Rho} {h : AHeap} {w : World} (hI : Inv ρ B w0 h w) (ks : List Nat) (hnd : ks.Nodup) :
    Inv (fun j => ρ (ks.getD j 0)) (frameOf ρ h w ks) w (smallH ks h) w := by
  obtain ⟨σ, hσd⟩ : ∃ σ : Nat → Option Nat, σ = fun i => ks.idxOf? i := ⟨_, rfl⟩
  have hσ : ∀ i j, σ i = some j → (fun j => ρ (ks.getD j 0)) j = ρ i := fun i j hij => by
    rw [hσd] at hij
    simp only
    rw [List.getD_eq_getElem?_getD, idxOf?_spec ks i j hij]
    rfl
  have hat : ∀ (j : Nat) (o : AObj), (smallH ks h)[j]? = some o → ∃ k, ks[j]? = some k ∧ ρ (ks.getD j 0) = ρ k ∧ o = renObj σ (h.getD k .dead) := fun j o ho => by
    simp only [smallH, List.getElem?_map, Option.map_eq_some_iff] at ho
    obtain ⟨k, hk, rfl⟩ := ho
    exact ⟨k, hk, by rw [List.getD_eq_getElem?_getD, hk]; rfl, by rw [hσd]⟩
  have get : ∀ (k : Nat) (u : AObj), h.getD k .dead = u → u.kind = true → h[k]? = some u := fun k u hu hk => by
    rw [List.getD_eq_getElem?_getD] at hu
    cases hx : h[k]? with
    | none => rw [hx] at hu; subst hu; cases hk
    | some y => rw [hx] at hu; simp only [Option.getD_some] at hu; rw [hu]
  have hrf : ∀ i j, σ i = some j → live h i = true → live (smallH ks h) j = true ∧ (fun k => ((fun j => ρ (ks.getD j 0)) k).cap) j = (fun k => (ρ k).cap) i := fun i j hij hl => by
    refine ⟨?_, by simp only; rw [← hσ i j hij]⟩
    have h1 := hij
    rw [hσd] at h1
    have h2 := idxOf?_spec ks i j h1
    have : (smallH ks h)[j]? = some (renObj σ (h.getD i .dead)) := by simp only [smallH, List.getElem?_map, h2, Option.map_some, hσd]
    simp only [live, this]
    unfold live at hl
    split at hl
    · rename_i o ho
      rw [List.getD_eq_getElem?_getD, ho]
      exact renObj_there hl
    · cases hl
  have hsub : ∀ (j j' k k' : Nat), ks[j]? = some k → ks[j']? = some k' → j ≠ j' → k ≠ k' := fun j j' k k' h1 h2 hne e => by
    subst e
    have a := idxOf?_mem hnd h1
    have b := idxOf?_mem hnd h2
    rw [a] at b
    exact hne (Option.some.inj b)
  refine ⟨Kept.refl _ _, fun b hb => hb.1, fun j o ho => ?_, fun j j' o o' ho ho' h1 h2 hne => ?_, fun j j' o cs ho ho' h1 => ?_, fun j o ho => ?_⟩
  · obtain ⟨k, hk, hr, rfl⟩ := hat j o ho
    show ObjRel _ _ w (ρ (ks.getD j 0)) _
    rw [hr]
    cases hu : h[k]? with
    | none => rw [List.getD_eq_getElem?_getD, hu]; trivial
    | some u =>
      rw [List.getD_eq_getElem?_getD, hu]
      simp only [Option.getD_some]
      have h1 := renObj_rel hσ (hI.obj k u hu)
      have hown : (renObj σ u).own = true → u.own = true := renObj_own
      generalize renObj σ u = u' at h1 hown
      have hnot : u'.own = true → ¬ frameOf ρ h w ks (ρ k).blk := fun ho hf => hf.2 k u (List.mem_of_getElem? hk) hu (hown ho) rfl
      cases u' with
      | row t s cs => exact ⟨hnot rfl, h1.2⟩
      | map es => exact ⟨hnot rfl, h1.2⟩
      | ro cs => exact h1
      | hole => trivial
      | dead => trivial
  · obtain ⟨k, hk, hr, rfl⟩ := hat j o ho
    obtain ⟨k', hk', hr', rfl⟩ := hat j' o' ho'
    show (ρ (ks.getD j 0)).blk ≠ (ρ (ks.getD j' 0)).blk
    rw [hr, hr']
    have a := renObj_own h1
    have b := renObj_own h2
    exact hI.sep k k' _ _ (get k _ rfl (kind_of (.inl a))) (get k' _ rfl (kind_of (.inl b))) a b (hsub j j' k k' hk hk' hne)
  · obtain ⟨k, hk, hr, rfl⟩ := hat j o ho
    obtain ⟨k', hk', hr', e⟩ := hat j' _ ho'
    show (ρ (ks.getD j 0)).blk ≠ (ρ (ks.getD j' 0)).blk
    rw [hr, hr']
    have a := renObj_own h1
    obtain ⟨cs', e'⟩ := renObj_ro e.symm
    exact hI.sepr k k' _ cs' (get k _ rfl (kind_of (.inl a))) (get k' _ e' rfl) a
  · obtain ⟨k, hk, hr, rfl⟩ := hat j o ho
    cases hu : h[k]? with
    | none => rw [List.getD_eq_getElem?_getD, hu]; rfl
    | some u =>
      rw [List.getD_eq_getElem?_getD, hu]
      exact renObj_refs hrf (hI.wf k u hu)
/-- **A contract for every memory.** -/
theorem frame_of_sem {f : FuncId} {fn : Func} (hf : HasText P f fn) (d : Nat) {s : List AV → List AObj → Option (AV × AHeap × List Nat)}
    (hs : ∀ args hp v hq ns, s args hp = some (v, hq, ns) → CallSem P f args hp v hq) : FullOK P f (framedS d s) := by
  refine ⟨fun args h v h' hv ρ B w0 w hI hok => ?_, fn, hf.1, hf.2.1, hf.2.2⟩
  obtain ⟨ks, hks⟩ : ∃ ks, ks = reachK d h args := ⟨_, rfl⟩
  unfold framedS at hv
  rw [← hks] at hv
  split at hv
  · rename_i hnd
    simp only [decide_eq_true_eq] at hnd
    simp only [Option.bind_eq_some_iff] at hv
    obtain ⟨a, h1, ⟨v0, hq, ns⟩, h2, h3⟩ := hv
    simp only at h3
    split at h3
    · rename_i hns
      simp only [Bool.and_eq_true, decide_eq_true_eq, List.all_eq_true] at hns
      obtain ⟨hnn, hnge⟩ := hns
      simp only [Option.map_eq_some_iff, Prod.mk.injEq] at h3
      obtain ⟨v1, h4, rfl, rfl⟩ := h3
      have hlive : ∀ x ∈ ks, live h x = true := by rw [hks]; exact close_all hI.wf d _ (start_live hok)
      have hlt : ∀ x, live h x = true → x < h.length := fun x hx => by
        rcases Nat.lt_or_ge x h.length with q | q
        · exact q
        · simp [live, List.getElem?_eq_none q] at hx
      obtain ⟨ρ1, hρ1⟩ : ∃ ρ1 : Rho, ρ1 = fun j => ρ (ks.getD j 0) := ⟨_, rfl⟩
      obtain ⟨σ, hσd⟩ : ∃ σ : Nat → Option Nat, σ = fun i => ks.idxOf? i := ⟨_, rfl⟩
      have hI1 := small_inv hI ks hnd
      rw [← hρ1] at hI1
      rw [← hσd] at h1
      have hσ : ∀ i j, σ i = some j → ρ1 j = ρ i := fun i j hij => by
        rw [hσd] at hij
        rw [hρ1]
        simp only
        rw [List.getD_eq_getElem?_getD, idxOf?_spec ks i j hij]
        rfl
      have hsl : ∀ (j k : Nat), ks[j]? = some k → (smallH ks h)[j]? = some (renObj σ (h.getD k .dead)) ∧ live (smallH ks h) j = true ∧ ρ1 j = ρ k := fun j k hk => by
        have e : (smallH ks h)[j]? = some (renObj σ (h.getD k .dead)) := by simp only [smallH, List.getElem?_map, hk, Option.map_some, hσd]
        refine ⟨e, ?_, by rw [hρ1]; simp only; rw [List.getD_eq_getElem?_getD, hk]; rfl⟩
        have hl := hlive k (List.mem_of_getElem? hk)
        simp only [live, e]
        unfold live at hl
        split at hl
        · rename_i o ho
          rw [List.getD_eq_getElem?_getD, ho]
          exact renObj_there hl
        · cases hl
      have hrf : ∀ i j, σ i = some j → live h i = true → live (smallH ks h) j = true ∧ (fun k => (ρ1 k).cap) j = (fun k => (ρ k).cap) i := fun i j hij hl => by
        have h0 := hij
        rw [hσd] at h0
        exact ⟨(hsl j i (idxOf?_spec ks i j h0)).2.1, by simp only [hσ i j hij]⟩
      have hok1 : ∀ x ∈ a, AV.ok (smallH ks h) ρ1 x := fun x hx => by
        obtain ⟨i, hi⟩ := List.getElem?_of_mem hx
        obtain ⟨u, hu, hr⟩ := (renL_get _ _ h1).2 i x hi
        exact ren_refs hrf _ _ hr (hok u (List.mem_of_getElem? hu))
      have hreal : args.map (AV.real ρ) = a.map (AV.real ρ1) := by
        have := renL_real hσ args a h1
        simpa using this.symm
      rw [hreal]
      have hb : Calls P f (a.map (AV.real ρ1)).toArray w fun e w' => ∃ ρ2, e = .returned (v0.real ρ2) ∧ Inv ρ2 (frameOf ρ h w ks) w hq w' ∧ (∀ i, live (smallH ks h) i = true → live hq i = true ∧ ρ2 i = ρ1 i) ∧ v0.ok hq ρ2 := by
        exact hs _ _ _ _ _ h2 ρ1 _ _ _ hI1 hok1
      refine hb.mono fun e w' ⟨ρ2, he, hI2, hl2, hok2⟩ => ?_
      obtain ⟨τ, hτd⟩ : ∃ τ : Nat → Option Nat, τ = tauK h.length ks ns := ⟨_, rfl⟩
      rw [← hτd] at h4
      obtain ⟨ρ', hρ'⟩ : ∃ ρ' : Rho, ρ' = fun i => if i < h.length then ρ i else ρ2 (ns.getD (i - h.length) 0) := ⟨_, rfl⟩
      have ρlow : ∀ i, i < h.length → ρ' i = ρ i := fun i hi => by rw [hρ']; simp only [hi, if_true]
      obtain ⟨H, hH⟩ : ∃ H, H = joinH ks ns hq h := ⟨_, rfl⟩
      rw [← hH]
      have Hlow : ∀ i, i < h.length → H[i]? = some (updRow ks τ hq h i) := fun i hi => by
        rw [hH, joinH, List.getElem?_append_left (by simpa using hi), List.getElem?_map, List.getElem?_range hi, ← hτd]; rfl
      have Hnew : ∀ m j, ns[m]? = some j → H[h.length + m]? = some (renOwn τ (hq.getD j .dead)) := fun m j hj => by
        rw [hH, joinH, List.getElem?_append_right (by simp), ← hτd]
        simp only [List.length_map, List.length_range, show h.length + m - h.length = m by omega, List.getElem?_map, hj, Option.map_some]
      have hτ : ∀ j i, τ j = some i → ρ' i = ρ2 j := fun j i hji => by
        rw [hτd] at hji
        unfold tauK at hji
        split at hji
        · rename_i k hk
          simp only [Option.some.injEq] at hji
          subst hji
          obtain ⟨-, h5, h6⟩ := hsl j k hk
          rw [ρlow k (hlt k (hlive k (List.mem_of_getElem? hk))), (hl2 j h5).2, h6]
        · simp only [Option.map_eq_some_iff] at hji
          obtain ⟨m, h5, rfl⟩ := hji
          have e1 : h.length + m - h.length = m := by omega
          rw [hρ']
          simp only [show ¬ h.length + m < h.length by omega, if_false]
          rw [e1, List.getD_eq_getElem?_getD, idxOf?_spec ns j m h5]
          rfl
      have updThere : ∀ i, i < h.length → live h i = true → (updRow ks τ hq h i).there = true := fun i hi hl => by
        unfold updRow
        split
        · rename_i j hj
          split
          · have hk := idxOf?_spec ks i j hj
            have h5 := (hl2 j (hsl j i hk).2.1).1
            unfold live at h5
            split at h5
            · rename_i o ho
              rw [List.getD_eq_getElem?_getD, ho]
              exact renObj_there h5
            · cases h5
          · rfl
        · unfold live at hl
          split at hl
          · rename_i o ho
            rw [List.getD_eq_getElem?_getD, ho]
            exact hl
          · cases hl
      have hlv : ∀ i, live h i = true → live H i = true := fun i hi => by
        have := hlt i hi
        simp only [live, Hlow i this]
        exact updThere i this hi
      have hrf2 : ∀ j i, τ j = some i → live hq j = true → live H i = true ∧ (fun k => (ρ' k).cap) i = (fun k => (ρ2 k).cap) j := fun j i hji hl => by
        refine ⟨?_, by simp only [hτ j i hji]⟩
        rw [hτd] at hji
        unfold tauK at hji
        split at hji
        · rename_i k hk
          simp only [Option.some.injEq] at hji
          subst hji
          exact hlv k (hlive k (List.mem_of_getElem? hk))
        · simp only [Option.map_eq_some_iff] at hji
          obtain ⟨m, h5, rfl⟩ := hji
          simp only [live, Hnew m j (idxOf?_spec ns j m h5)]
          exact renOwn_there _ _
      -- the kinds of rows
      have hat : ∀ i o, H[i]? = some o → (i < h.length ∧ h[i]? = some o ∧ ∀ k ∈ ks, k ≠ i) ∨ (∃ j, ρ' i = ρ2 j ∧ ((∃ u, hq[j]? = some u ∧ o = renObj τ u) ∨ o = .dead) ∧ ((i < h.length ∧ ks[j]? = some i ∧ ((h.getD i .dead).kind = true ∨ o = .dead)) ∨ (h.length ≤ i ∧ ns[i - h.length]? = some j ∧ ∀ cs, o ≠ .ro cs))) := fun i o ho => by
        rcases Nat.lt_or_ge i h.length with q | q
        · rw [Hlow i q] at ho
          simp only [Option.some.injEq] at ho
          unfold updRow at ho
          split at ho
          · rename_i j hj
            have hk := idxOf?_spec ks i j hj
            right
            refine ⟨j, ?_, ?_, .inl ⟨q, hk, ?_⟩⟩
            · obtain ⟨-, h5, h6⟩ := hsl j i hk
              rw [ρlow i q, (hl2 j h5).2, h6]
            · split at ho
              · cases hu : hq[j]? with
                | none => rw [List.getD_eq_getElem?_getD, hu] at ho; exact .inr ho.symm
                | some u => rw [List.getD_eq_getElem?_getD, hu] at ho; exact .inl ⟨u, rfl, ho.symm⟩
              · exact .inr ho.symm
            · split at ho
              · rename_i hkind; exact .inl hkind
              · exact .inr ho.symm
          · rename_i hnone
            left
            refine ⟨q, ?_, fun k hk e => ?_⟩
            · rw [List.getD_eq_getElem?_getD, List.getElem?_eq_getElem q] at ho
              rw [List.getElem?_eq_getElem q]
              exact congrArg some ho
            · subst e
              obtain ⟨m, hm⟩ := List.getElem?_of_mem hk
              rw [idxOf?_mem hnd hm] at hnone
              cases hnone
        · right
          have hm : ∃ j, ns[i - h.length]? = some j := by
            cases hx : ns[i - h.length]? with
            | some j => exact ⟨j, rfl⟩
            | none =>
              rw [hH, joinH, List.getElem?_append_right (by simpa using q)] at ho
              simp only [List.length_map, List.length_range, List.getElem?_map, hx, Option.map_none] at ho
              cases ho
          obtain ⟨j, hj⟩ := hm
          have e := Hnew _ j hj
          rw [show h.length + (i - h.length) = i by omega, ho] at e
          simp only [Option.some.injEq] at e
          refine ⟨j, ?_, ?_, .inr ⟨q, hj, fun cs hc => renOwn_ro (e ▸ hc)⟩⟩
          · rw [hρ']; simp only [show ¬ i < h.length by omega, if_false]; rw [List.getD_eq_getElem?_getD, hj]; rfl
          · cases hu : hq[j]? with
            | none => rw [List.getD_eq_getElem?_getD, hu] at e; exact .inr e
            | some u =>
              rw [List.getD_eq_getElem?_getD, hu] at e
              rcases renOwn_cases τ u with h5 | h5
              · exact .inl ⟨u, rfl, by rw [e]; exact h5⟩
              · exact .inr (by rw [e]; exact h5)
      have hBK : ∀ b, B b → frameOf ρ h w ks b := fun b hb => ⟨hI.size b hb, fun k o _ ho hown e => (own_lt hown (hI.obj k o ho)).1 (e ▸ hb)⟩
      have hKlow : ∀ i o, h[i]? = some o → (∀ k ∈ ks, k ≠ i) → (o.own = true ∨ ∃ cs, o = .ro cs) → frameOf ρ h w ks (ρ i).blk := fun i o ho hne hk => by
        refine ⟨obj_low (hI.obj i o ho) hk, fun k u hku hu hown => ?_⟩
        rcases hk with hk | ⟨cs, rfl⟩
        · exact hI.sep k i u o hu ho hown hk (hne k hku)
        · exact hI.sepr k i u cs hu ho hown
      have hnK : ∀ j u, hq[j]? = some u → u.own = true → ¬ frameOf ρ h w ks (ρ2 j).blk := fun j u hu ho => (own_lt ho (hI2.obj j u hu)).1
      have hjj : ∀ i i' j j', ((i < h.length ∧ ks[j]? = some i ∧ ((h.getD i .dead).kind = true ∨ True)) ∨ (h.length ≤ i ∧ ns[i - h.length]? = some j)) → ((i' < h.length ∧ ks[j']? = some i' ∧ ((h.getD i' .dead).kind = true ∨ True)) ∨ (h.length ≤ i' ∧ ns[i' - h.length]? = some j')) → i ≠ i' → j ≠ j' := fun i i' j j' h5 h6 hne e => by
        subst e
        have kl : ∀ x, ks[j]? = some x → j < ks.length := fun x hx => by
          rcases Nat.lt_or_ge j ks.length with q | q
          · exact q
          · simp [List.getElem?_eq_none q] at hx
        rcases h5 with ⟨a1, a2, -⟩ | ⟨a1, a2⟩
        · rcases h6 with ⟨b1, b2, -⟩ | ⟨b1, b2⟩
          · rw [a2] at b2; exact hne (Option.some.inj b2)
          · have := hnge j (List.mem_of_getElem? b2)
            have := kl _ a2
            omega
        · rcases h6 with ⟨b1, b2, -⟩ | ⟨b1, b2⟩
          · have := hnge j (List.mem_of_getElem? a2)
            have := kl _ b2
            omega
          · have x := idxOf?_mem hnn a2
            have y := idxOf?_mem hnn b2
            rw [x] at y
            have := Option.some.inj y
            omega
      refine ⟨ρ', by rw [he, ren_real hτ _ _ h4], ⟨?_, ?_, fun i o ho => ?_, fun i i' o o' ho ho' c1 c2 hne => ?_, fun i i' o cs ho ho' c1 => ?_, fun i o ho => ?_⟩, fun i hi => ⟨hlv i hi, ρlow i (hlt i hi)⟩, ren_refs hrf2 _ _ h4 hok2⟩
      · exact hI.below.trans (hI2.below.mono hBK)
      · exact fun b hb => Nat.lt_of_lt_of_le (hI.size b hb) hI2.below.size
      · rcases hat i o ho with ⟨hi, ho, hne⟩ | ⟨j, hr, hc, hpos⟩
        · rw [ρlow i hi]
          have h5 := hI.obj i o ho
          have h6 : ObjRel ρ B w' (ρ i) o := by
            cases hkd : o.kind with
            | true => exact objRel_kept hI2.below.size (fun _ => hI2.below.block _ (hKlow i o ho hne (kind_cases hkd))) h5
            | false => cases o <;> first | trivial | cases hkd
          exact objRel_congr (fun k hk => ρlow k (hlt k hk)) (hI.wf i o ho) h6
        · rw [hr]
          rcases hc with ⟨u, hu, rfl⟩ | rfl
          · have h5 := renObj_rel hτ (hI2.obj j u hu)
            have hown : (renObj τ u).own = true → u.own = true := renObj_own
            generalize renObj τ u = u' at h5 hown
            have hnot : u'.own = true → ¬ B (ρ2 j).blk := fun ho hb => hnK j u hu (hown ho) (hBK _ hb)
            cases u' with
            | row t s cs => exact ⟨hnot rfl, h5.2⟩
            | map es => exact ⟨hnot rfl, h5.2⟩
            | ro cs => exact h5
            | hole => trivial
            | dead => trivial
          · trivial
      · rcases hat i o ho with ⟨hi, ho, hn⟩ | ⟨j, hr, hc, hpos⟩
        · rcases hat i' o' ho' with ⟨hi', ho', hn'⟩ | ⟨j', hr', hc', hpos'⟩
          · rw [ρlow i hi, ρlow i' hi']; exact hI.sep i i' o o' ho ho' c1 c2 hne
          · rcases hc' with ⟨u, hu, rfl⟩ | rfl
            · rw [ρlow i hi, hr']
              exact fun e => hnK j' u hu (renObj_own c2) (e ▸ hKlow i o ho hn (.inl c1))
            · cases c2
        · rcases hc with ⟨u, hu, rfl⟩ | rfl
          · rcases hat i' o' ho' with ⟨hi', ho', hn'⟩ | ⟨j', hr', hc', hpos'⟩
            · rw [hr, ρlow i' hi']
              exact fun e => hnK j u hu (renObj_own c1) (e ▸ hKlow i' o' ho' hn' (.inl c2))
            · rcases hc' with ⟨u', hu', rfl⟩ | rfl
              · rw [hr, hr']
                refine hI2.sep j j' u u' hu hu' (renObj_own c1) (renObj_own c2) (hjj i i' j j' ?_ ?_ hne)
                · rcases hpos with ⟨x1, x2, -⟩ | ⟨x1, x2, -⟩
                  · exact .inl ⟨x1, x2, .inr trivial⟩
                  · exact .inr ⟨x1, x2⟩
                · rcases hpos' with ⟨x1, x2, -⟩ | ⟨x1, x2, -⟩
                  · exact .inl ⟨x1, x2, .inr trivial⟩
                  · exact .inr ⟨x1, x2⟩
              · cases c2
          · cases c1
      · rcases hat i o ho with ⟨hi, ho, hn⟩ | ⟨j, hr, hc, hpos⟩
        · rcases hat i' _ ho' with ⟨hi', ho', hn'⟩ | ⟨j', hr', hc', hpos'⟩
          · rw [ρlow i hi, ρlow i' hi']; exact hI.sepr i i' o cs ho ho' c1
          · rcases hpos' with ⟨x1, x2, x3⟩ | ⟨x1, x2, x3⟩
            · rcases x3 with x3 | x3
              · rw [ρlow i hi, ρlow i' x1]
                have hki : h[i']? = some (h.getD i' .dead) := by rw [List.getD_eq_getElem?_getD, List.getElem?_eq_getElem x1]; rfl
                have hni : i ≠ i' := fun e => hn i' (List.mem_of_getElem? x2) e.symm
                rcases kind_cases x3 with y | ⟨cs', y⟩
                · exact hI.sep i i' o _ ho hki c1 y hni
                · rw [y] at hki; exact hI.sepr i i' o cs' ho hki c1
              · cases x3
            · exact absurd rfl (x3 cs)
        · rcases hc with ⟨u, hu, rfl⟩ | rfl
          · rcases hat i' _ ho' with ⟨hi', ho', hn'⟩ | ⟨j', hr', hc', hpos'⟩
            · rw [hr, ρlow i' hi']
              exact fun e => hnK j u hu (renObj_own c1) (e ▸ hKlow i' _ ho' hn' (.inr ⟨cs, rfl⟩))
            · rcases hc' with ⟨u', hu', e'⟩ | e'
              · obtain ⟨cs', e2⟩ := renObj_ro e'.symm
                subst e2
                rw [hr, hr']
                exact hI2.sepr j j' u cs' hu hu' (renObj_own c1)
              · cases e'
          · cases c1
      · rcases hat i o ho with ⟨hi, ho, hn⟩ | ⟨j, hr, hc, hpos⟩
        · have h5 := hI.wf i o ho
          have mono : ∀ v : AV, v.refs (live h) (fun k => (ρ k).cap) = true → v.refs (live H) (fun k => (ρ' k).cap) = true := fun v hv => refs_mono (fun k hk => ⟨hlv k hk, by simp only [ρlow k (hlt k hk)]⟩) v hv
          cases o with
          | hole => rfl
          | dead => rfl
          | ro cs => simp only [AObj.refs, List.all_eq_true] at h5 ⊢; exact fun v hv => mono v (h5 v hv)
          | row t s cs => simp only [AObj.refs, List.all_eq_true] at h5 ⊢; exact fun v hv => mono v (h5 v hv)
          | map es =>
            simp only [AObj.refs, List.all_eq_true, Bool.and_eq_true] at h5 ⊢
            exact fun e he => ⟨mono _ (h5 e he).1, mono _ (h5 e he).2⟩
        · rcases hc with ⟨u, hu, rfl⟩ | rfl
          · exact renObj_refs hrf2 (hI2.wf j u hu)
          · rfl
    · cases h3
  · cases hv
theorem frame_of_body (hm : P.follows .mixedOrders = true) (hS : S.OK P) {f : FuncId} {fn : Func} (hf : HasText P f fn) (d : Nat) {s : List AV → List AObj → Option (AV × AHeap × List Nat)}
    (hs : ∀ args hp v hq ns, s args hp = some (v, hq, ns) → (∃ F n, evalBody P S F n fn args hp = some (v, hq)) ∨ ∃ F n, evalBodyg P S F n fn args hp = some (v, hq)) : FullOK P f (framedS d s) :=
  frame_of_sem hf d fun args hp v hq ns h2 ρ1 B w0 w hI1 hok1 => by
    rcases hs _ _ _ _ _ h2 with ⟨F, n, he⟩ | ⟨F, n, he⟩
    · exact body_sound hm hS hf.1 he hI1 hok1
    · exact body_soundg hm hS hf.1 he hI1 hok1
end
/- The rule of the frame where one row is written, and the others that are reached hold no names. -/
/-- A row without names. -/
def AObj.num : AObj → Bool
  | .row _ _ cs => cs.all AV.closed
  | .ro cs => cs.all AV.closed
  | _ => false
theorem renObj_num {σ : Nat → Option Nat} {o : AObj} (h : o.num = true) : renObj σ o = o := by
  cases o with
  | row t s cs => simp only [renObj, renL_closed cs (closedL h)]
  | ro cs => simp only [renObj, renL_closed cs (closedL h)]
  | map es => cases h
  | hole => cases h
  | dead => cases h
theorem names_num {o : AObj} (h : o.num = true) : o.names = [] := by
  have h1 : o.refs (fun _ => false) (fun _ => 0) = true := by
    cases o with
    | row t s cs => exact h
    | ro cs => exact h
    | map es => cases h
    | hole => cases h
    | dead => cases h
  have := obj_names h1
  cases hx : o.names with
  | nil => rfl
  | cons a l => exact absurd (this a (by rw [hx]; exact List.mem_cons_self ..)) (by simp)
theorem kind_num {o : AObj} (h : o.num = true) : o.kind = true := by cases o <;> first | rfl | cases h
theorem num_int {k : IntKind} {t s : Nat} {cs : List AV} (h : cs.all (isInt k) = true) : (AObj.row t s cs).num = true ∧ (AObj.ro cs).num = true := by
  have : cs.all AV.closed = true := by
    rw [List.all_eq_true] at h ⊢
    intro v hv
    have := h v hv
    cases v <;> first | (simp [AV.closed, AV.refs]; done) | cases this
  exact ⟨this, this⟩
theorem nodup_shift (L m : Nat) : ((List.range m).map (L + ·)).Nodup :=
  List.pairwise_map.2 (List.Pairwise.imp (fun h e => h (by omega)) List.nodup_range)
theorem framed_gen {d : Nat} {s : List AV → List AObj → Option (AV × AHeap × List Nat)} {args a : List AV} {h : AHeap} {i : Nat} {ks : List Nat} {o0 o1 : AObj} {new : AHeap} {v : AV} {ns : List Nat}
    (hr : reachK d h args = i :: ks) (hnd : (i :: ks).Nodup) (hi : i < h.length) (hk : (h.getD i .dead).kind = true)
    (ha : AV.renL (fun x => (i :: ks).idxOf? x) args = some a) (h0 : renObj (fun x => (i :: ks).idxOf? x) (h.getD i .dead) = o0)
    (hn : ∀ k ∈ ks, (h.getD k .dead).num = true)
    (hs : s a (o0 :: ks.map fun k => h.getD k .dead) = some (v, (o1 :: ks.map fun k => h.getD k .dead) ++ new, ns)) (e2 : ns.Nodup) (e3 : ns.all (fun j => decide ((i :: ks).length ≤ j)) = true) (hv : v.closed = true) :
    framedS d s args h = some (v, h.set i (renObj (tauK h.length (i :: ks) ns) o1) ++ ns.map fun j => renOwn (tauK h.length (i :: ks) ns) (((o1 :: ks.map fun k => h.getD k .dead) ++ new).getD j .dead)) := by
  have e1 : smallH (i :: ks) h = o0 :: ks.map fun k => h.getD k .dead := by
    simp only [smallH, List.map_cons, h0, List.cons.injEq, true_and]
    exact List.map_congr_left fun k hk => renObj_num (hn k hk)
  have gl : ∀ m k, ks[m]? = some k → ((o1 :: ks.map fun k => h.getD k .dead) ++ new).getD (m + 1) .dead = h.getD k .dead := fun m k hm => by
    obtain ⟨hlt, hk2⟩ := List.getElem?_eq_some_iff.1 hm
    rw [List.getD_eq_getElem?_getD, List.getElem?_append_left (by simp; omega), List.getElem?_cons_succ, List.getElem?_map, hm]
    rfl
  unfold framedS
  rw [hr]
  simp only [hnd, decide_true, if_true, ha, Option.bind_some, e1, hs, e2, e3, Bool.and_self, ren_closed v hv, Option.map_some, Option.some.injEq, Prod.mk.injEq, true_and]
  unfold joinH
  congr 1
  refine List.ext_getElem? fun j => ?_
  rw [List.getElem?_map]
  rcases Nat.lt_or_ge j h.length with q | q
  · rw [List.getElem?_range q, Option.map_some]
    by_cases hj : j = i
    · subst hj
      rw [List.getElem?_set_self q]
      simp only [updRow, List.idxOf?_cons, BEq.rfl, if_true, hk, List.cons_append, List.getD_cons_zero]
    · rw [List.getElem?_set_ne (fun e => hj e.symm)]
      have hji : (i == j) = false := by simp; omega
      simp only [updRow, List.idxOf?_cons, hji, Bool.false_eq_true, if_false]
      cases hx : ks.idxOf? j with
      | none => simp only [Option.map_none]; rw [List.getD_eq_getElem?_getD, List.getElem?_eq_getElem q, Option.getD_some]
      | some m =>
        have hm := idxOf?_spec ks j m hx
        have hnum := hn j (List.mem_of_getElem? hm)
        simp only [Option.map_some, kind_num hnum, if_true, gl m j hm, renObj_num hnum]
        rw [List.getD_eq_getElem?_getD, List.getElem?_eq_getElem q, Option.getD_some]
  · rw [List.getElem?_eq_none (by simpa using q), List.getElem?_eq_none (by simpa using q)]; rfl
theorem framed_one {d : Nat} {s : List AV → List AObj → Option (AV × AHeap × List Nat)} {args a : List AV} {h : AHeap} {i : Nat} {ks : List Nat} {o0 o1 : AObj} {new : AHeap} {v : AV}
    (hr : reachK d h args = i :: ks) (hnd : (i :: ks).Nodup) (hi : i < h.length) (hk : (h.getD i .dead).kind = true)
    (ha : AV.renL (fun x => (i :: ks).idxOf? x) args = some a) (h0 : renObj (fun x => (i :: ks).idxOf? x) (h.getD i .dead) = o0)
    (hn : ∀ k ∈ ks, (h.getD k .dead).num = true)
    (hs : s a (o0 :: ks.map fun k => h.getD k .dead) = some (v, (o1 :: ks.map fun k => h.getD k .dead) ++ new, (List.range new.length).map (ks.length + 1 + ·))) (hv : v.closed = true) :
    framedS d s args h = some (v, h.set i (renObj (tauK h.length (i :: ks) ((List.range new.length).map (ks.length + 1 + ·))) o1) ++ new.map (renOwn (tauK h.length (i :: ks) ((List.range new.length).map (ks.length + 1 + ·))))) := by
  rw [framed_gen hr hnd hi hk ha h0 hn hs (nodup_shift _ _) (by
    rw [List.all_eq_true]
    intro j hj
    simp only [List.mem_map] at hj
    obtain ⟨m, _, rfl⟩ := hj
    simp only [List.length_cons, decide_eq_true_eq]
    omega) hv]
  have hg : ∀ m (x : AObj), new[m]? = some x → ((o1 :: ks.map fun k => h.getD k .dead) ++ new).getD (ks.length + 1 + m) .dead = x := fun m x hm => by
    rw [List.getD_eq_getElem?_getD, List.getElem?_append_right (by simp)]
    have : ks.length + 1 + m - (o1 :: ks.map fun k => h.getD k .dead).length = m := by simp
    rw [this, hm]; rfl
  congr 3
  refine List.ext_getElem? fun m => ?_
  rw [List.getElem?_map, List.getElem?_map, List.getElem?_map]
  rcases Nat.lt_or_ge m new.length with q | q
  · rw [List.getElem?_range q, List.getElem?_eq_getElem q]
    simp only [Option.map_some]
    rw [hg m _ (List.getElem?_eq_getElem q)]
  · rw [List.getElem?_eq_none (by simpa using q), List.getElem?_eq_none (by simpa using q)]; rfl
/-- Nothing new is kept, and the row stays as it was. -/
theorem framed_none {d : Nat} {s : List AV → List AObj → Option (AV × AHeap × List Nat)} {args a : List AV} {h : AHeap} {i : Nat} {ks : List Nat} {o0 : AObj} {new : AHeap} {v : AV}
    (hr : reachK d h args = i :: ks) (hnd : (i :: ks).Nodup) (hi : i < h.length) (hk : (h.getD i .dead).kind = true)
    (ha : AV.renL (fun x => (i :: ks).idxOf? x) args = some a) (h0 : renObj (fun x => (i :: ks).idxOf? x) (h.getD i .dead) = o0)
    (hn : ∀ k ∈ ks, (h.getD k .dead).num = true)
    (hb : renObj (tauK h.length (i :: ks) []) o0 = h.getD i .dead)
    (hs : s a (o0 :: ks.map fun k => h.getD k .dead) = some (v, (o0 :: ks.map fun k => h.getD k .dead) ++ new, [])) (hv : v.closed = true) :
    framedS d s args h = some (v, h) := by
  rw [framed_gen hr hnd hi hk ha h0 hn hs List.nodup_nil rfl hv, hb, List.map_nil, List.append_nil]
  congr 2
  refine List.ext_getElem? fun j => ?_
  by_cases hj : i = j
  · subst hj
    rw [List.getElem?_set_self hi, List.getD_eq_getElem?_getD, List.getElem?_eq_getElem hi, Option.getD_some]
  · rw [List.getElem?_set_ne hj]
theorem reach_ps {h : AHeap} {i j a o m : Nat} {c : ACap} (hij : i ≠ j) (hi : (h.getD i .dead).names = []) (hj : (h.getD j .dead).names = []) :
    reachK 1 h [.ptr (some (i, a)), .sl (some (j, o)) m c] = [i, j] := by
  have hji : ¬ j = i := fun e => hij e.symm
  rw [List.getD_eq_getElem?_getD] at hi hj
  simp [reachK, closeK, AV.namesL, AV.names, List.eraseDups_cons, hi, hj, hij, hji]
theorem reach_psr {h : AHeap} {i j k a o m : Nat} {c : ACap} (hij : i ≠ j) (hik : i ≠ k) (hjk : j ≠ k) (hi : (h.getD i .dead).names = [k]) (hj : (h.getD j .dead).names = []) :
    reachK 1 h [.ptr (some (i, a)), .sl (some (j, o)) m c] = [i, j, k] := by
  have hji : ¬ j = i := fun e => hij e.symm
  have hki : ¬ k = i := fun e => hik e.symm
  have hkj : ¬ k = j := fun e => hjk e.symm
  rw [List.getD_eq_getElem?_getD] at hi hj
  simp [reachK, closeK, AV.namesL, AV.names, List.eraseDups_cons, hi, hj, hij, hji, hki, hkj]
theorem reach_p {h : AHeap} {i a : Nat} (hi : (h.getD i .dead).names = []) : reachK 1 h [.ptr (some (i, a))] = [i] := by
  rw [List.getD_eq_getElem?_getD] at hi
  simp [reachK, closeK, AV.namesL, AV.names, List.eraseDups_cons, hi]
theorem reach_pr {h : AHeap} {i k a : Nat} (hik : i ≠ k) (hi : (h.getD i .dead).names = [k]) : reachK 1 h [.ptr (some (i, a))] = [i, k] := by
  have hki : ¬ k = i := fun e => hik e.symm
  rw [List.getD_eq_getElem?_getD] at hi
  simp [reachK, closeK, AV.namesL, AV.names, List.eraseDups_cons, hi, hki]
theorem idx2 {i j : Nat} (hij : i ≠ j) : ([i, j].idxOf? i) = some 0 ∧ ([i, j].idxOf? j) = some 1 := by
  simp [List.idxOf?_cons, hij]
theorem idx3 {i j k : Nat} (hij : i ≠ j) (hik : i ≠ k) (hjk : j ≠ k) : ([i, j, k].idxOf? i) = some 0 ∧ ([i, j, k].idxOf? j) = some 1 ∧ ([i, j, k].idxOf? k) = some 2 := by
  simp [List.idxOf?_cons, hij, hik, hjk]
theorem getD_at {h : AHeap} {i : Nat} {o : AObj} (hi : h[i]? = some o) : h.getD i .dead = o ∧ i < h.length := by
  refine ⟨by rw [List.getD_eq_getElem?_getD, hi]; rfl, ?_⟩
  rcases Nat.lt_or_ge i h.length with q | q
  · exact q
  · rw [List.getElem?_eq_none q] at hi; cases hi
theorem tau_old {n : Nat} {ks ns : List Nat} {j k : Nat} (h : ks[j]? = some k) : tauK n ks ns j = some k := by unfold tauK; rw [h]
theorem tau_new {n m : Nat} {ks : List Nat} {L : Nat} (hL : L = ks.length) (t : Nat) (h : t < m) : tauK n ks ((List.range m).map (L + ·)) (L + t) = some (n + t) := by
  subst hL
  unfold tauK
  rw [List.getElem?_eq_none (by omega)]
  have : ((List.range m).map (ks.length + ·)).idxOf? (ks.length + t) = some t :=
    idxOf?_mem (nodup_shift _ _) (by rw [List.getElem?_map, List.getElem?_range h]; rfl)
  simp only [this, Option.map_some]
theorem full_of_quiet {P : Program} {g : FuncId} {s : List AV → AHeap → Option AV} (hq : QuietOK P g s) : FullOK P g fun a h => (s a h).map (·, h) := by
  refine ⟨fun args h v h' hv ρ B w0 w hI hok => ?_, hq.2.2⟩
  simp only [Option.map_eq_some_iff, Prod.mk.injEq] at hv
  obtain ⟨v1, h1, rfl, rfl⟩ := hv
  obtain ⟨h2, h3⟩ := hq.1 args h v1 h1 ρ B w0 w hI hok
  exact h3.mono fun e w' ⟨h4, h5⟩ => ⟨ρ, h4, h5, fun i hi => ⟨hi, rfl⟩, h2⟩
theorem limG_inv {P : Program} {S : Specs} {F : Nat → Tidy} {pf : PF} {args : List AV} {h : AHeap} {r : AV × AHeap} (hr : limG P S F pf args h = some r) : ∃ n, runG P S F n pf args h = some r := by
  unfold limG at hr
  split at hr
  · rename_i hx
    cases hr
    exact Classical.choose_spec hx
  · cases hr
/- Code cut behind its first steps; contracts told apart by their first pointer. -/
@[reducible] def allK (S : Specs) : List ((FuncId × Nat) × (List AV × AHeap) × (AV × AHeap)) → Prop
  | [] => True
  | e :: l => callS S e.1.1 e.2.1.1 e.2.1.2 = some e.2.2 ∧ allK S l
end Go.Am
