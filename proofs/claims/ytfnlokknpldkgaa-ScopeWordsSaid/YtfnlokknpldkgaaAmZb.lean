/- Memory swept between regions: rows that nothing names any more are left out. Written by gengc.py. -/
import Derived.Test.YtfnlokknpldkgaaAmZa
set_option linter.unusedVariables false
set_option linter.unusedSimpArgs false
namespace Go.Am
open Go Go.RowKit
mutual
/-- A value with its blocks' numbers turned. -/
def AV.ren (σ : Nat → Option Nat) : AV → Option AV
  | .ptr none => some (.ptr none)
  | .ptr (some (k, o)) => (σ k).map fun k' => .ptr (some (k', o))
  | .sl none l c => some (.sl none l c)
  | .sl (some (k, o)) l c => (σ k).map fun k' => .sl (some (k', o)) l c
  | .agg cs => (AV.renL σ cs).map .agg
  | .tup vs => (AV.renL σ vs).map .tup
  | .fn f a c => match AV.renL σ a, AV.renL σ c with
    | some a, some c => some (.fn f a c)
    | _, _ => none
  | .map none => some (.map none)
  | .map (some k) => (σ k).map fun k' => .map (some k')
  | .ifc t v => (AV.ren σ v).map (.ifc t)
  | .slE k o i l s => (σ k).map fun k' => .slE k' o i l s
  | .int k n => some (.int k n)
  | .bool b => some (.bool b)
  | .str s => some (.str s)
  | .nilFn => some .nilFn
  | .nilIfc => some .nilIfc
  | .ext a l c => some (.ext a l c)
  | .any => some .any
  | .und => some .und
def AV.renL (σ : Nat → Option Nat) : List AV → Option (List AV)
  | [] => some []
  | v :: vs => match AV.ren σ v, AV.renL σ vs with
    | some v, some vs => some (v :: vs)
    | _, _ => none
end
section
variable {σ : Nat → Option Nat} {ρ ρ' : Rho}
mutual
theorem ren_real (hσ : ∀ i j, σ i = some j → ρ' j = ρ i) : ∀ (v v' : AV), v.ren σ = some v' → v'.real ρ' = v.real ρ
  | .ptr none, v', h => by cases h; rfl
  | .ptr (some (k, o)), v', h => by
    simp only [AV.ren, Option.map_eq_some_iff] at h; obtain ⟨j, hj, rfl⟩ := h; simp [AV.real, hσ k j hj]
  | .sl none _ _, v', h => by cases h; rfl
  | .sl (some (k, o)) _ _, v', h => by
    simp only [AV.ren, Option.map_eq_some_iff] at h; obtain ⟨j, hj, rfl⟩ := h; simp [AV.real, hσ k j hj]
  | .agg cs, v', h => by
    simp only [AV.ren, Option.map_eq_some_iff] at h; obtain ⟨j, hj, rfl⟩ := h; simp only [AV.real, renL_real hσ cs j hj]
  | .tup cs, v', h => by
    simp only [AV.ren, Option.map_eq_some_iff] at h; obtain ⟨j, hj, rfl⟩ := h; simp only [AV.real, renL_real hσ cs j hj]
  | .fn f a c, v', h => by
    simp only [AV.ren] at h
    split at h
    · rename_i x y hx hy; cases h; simp only [AV.real, renL_real hσ a x hx, renL_real hσ c y hy]
    · cases h
  | .map none, v', h => by cases h; rfl
  | .map (some k), v', h => by
    simp only [AV.ren, Option.map_eq_some_iff] at h; obtain ⟨j, hj, rfl⟩ := h; simp [AV.real, hσ k j hj]
  | .ifc t v, v', h => by
    simp only [AV.ren, Option.map_eq_some_iff] at h; obtain ⟨j, hj, rfl⟩ := h; simp only [AV.real, ren_real hσ v j hj]
  | .slE k o i l s, v', h => by
    simp only [AV.ren, Option.map_eq_some_iff] at h; obtain ⟨j, hj, rfl⟩ := h; simp [AV.real, hσ k j hj]
  | .int _ _, v', h => by cases h; rfl
  | .bool _, v', h => by cases h; rfl
  | .str _, v', h => by cases h; rfl
  | .nilFn, v', h => by cases h; rfl
  | .nilIfc, v', h => by cases h; rfl
  | .ext a l c, v', h => by cases h; rfl
  | .any, v', h => by cases h; rfl
  | .und, v', h => by cases h; rfl
theorem renL_real (hσ : ∀ i j, σ i = some j → ρ' j = ρ i) : ∀ (vs vs' : List AV), AV.renL σ vs = some vs' → AV.reals ρ' vs' = AV.reals ρ vs
  | [], v', h => by cases h; rfl
  | v :: vs, v', h => by
    simp only [AV.renL] at h
    split at h
    · rename_i x y hx hy; cases h; simp only [AV.reals, ren_real hσ v x hx, renL_real hσ vs y hy]
    · cases h
end
mutual
theorem ren_refs {p q : Nat → Bool} {c d : Nat → Nat} (hσ : ∀ i j, σ i = some j → p i = true → q j = true ∧ d j = c i) : ∀ (v v' : AV), v.ren σ = some v' → v.refs p c = true → v'.refs q d = true
  | .ptr none, v', h, _ => by cases h; rfl
  | .ptr (some (k, o)), v', h, hv => by
    simp only [AV.ren, Option.map_eq_some_iff] at h; obtain ⟨j, hj, rfl⟩ := h; exact (hσ k j hj hv).1
  | .sl none _ _, v', h, hv => by cases h; exact hv
  | .sl (some (k, o)) l (.fix n), v', h, hv => by
    simp only [AV.ren, Option.map_eq_some_iff] at h; obtain ⟨j, hj, rfl⟩ := h
    simp only [AV.refs, Bool.and_eq_true] at hv ⊢; exact ⟨(hσ k j hj hv.1).1, hv.2⟩
  | .sl (some (k, o)) l (.rel i), v', h, hv => by
    simp only [AV.ren, Option.map_eq_some_iff] at h; obtain ⟨j, hj, rfl⟩ := h
    simp only [AV.refs, Bool.and_eq_true] at hv ⊢; exact ⟨(hσ k j hj hv.1).1, by rw [(hσ k j hj hv.1).2]; exact hv.2⟩
  | .agg cs, v', h, hv => by
    simp only [AV.ren, Option.map_eq_some_iff] at h; obtain ⟨j, hj, rfl⟩ := h; exact renL_refs hσ cs j hj hv
  | .tup cs, v', h, hv => by
    simp only [AV.ren, Option.map_eq_some_iff] at h; obtain ⟨j, hj, rfl⟩ := h; exact renL_refs hσ cs j hj hv
  | .fn f a c, v', h, hv => by
    simp only [AV.ren] at h
    split at h
    · rename_i x y hx hy; cases h
      simp only [AV.refs, Bool.and_eq_true] at hv ⊢
      exact ⟨renL_refs hσ a x hx hv.1, renL_refs hσ c y hy hv.2⟩
    · cases h
  | .map none, v', h, _ => by cases h; rfl
  | .map (some k), v', h, hv => by
    simp only [AV.ren, Option.map_eq_some_iff] at h; obtain ⟨j, hj, rfl⟩ := h; exact (hσ k j hj hv).1
  | .ifc t v, v', h, hv => by
    simp only [AV.ren, Option.map_eq_some_iff] at h; obtain ⟨j, hj, rfl⟩ := h; exact ren_refs hσ v j hj hv
  | .slE k o i l s, v', h, hv => by
    simp only [AV.ren, Option.map_eq_some_iff] at h; obtain ⟨j, hj, rfl⟩ := h
    simp only [AV.refs, Bool.and_eq_true] at hv ⊢; exact ⟨(hσ k j hj hv.1).1, by rw [(hσ k j hj hv.1).2]; exact hv.2⟩
  | .int _ _, v', h, _ => by cases h; rfl
  | .bool _, v', h, _ => by cases h; rfl
  | .str _, v', h, _ => by cases h; rfl
  | .nilFn, v', h, _ => by cases h; rfl
  | .nilIfc, v', h, _ => by cases h; rfl
  | .ext a l c, v', h, _ => by cases h; rfl
  | .any, v', h, _ => by cases h; rfl
  | .und, v', h, _ => by cases h; rfl
theorem renL_refs {p q : Nat → Bool} {c d : Nat → Nat} (hσ : ∀ i j, σ i = some j → p i = true → q j = true ∧ d j = c i) : ∀ (vs vs' : List AV), AV.renL σ vs = some vs' → AV.refsL p c vs = true → AV.refsL q d vs' = true
  | [], v', h, _ => by cases h; rfl
  | v :: vs, v', h, hv => by
    simp only [AV.renL] at h
    split at h
    · rename_i x y hx hy; cases h
      simp only [AV.refsL, Bool.and_eq_true] at hv ⊢
      exact ⟨ren_refs hσ v x hx hv.1, renL_refs hσ vs y hy hv.2⟩
    · cases h
end
theorem ren_one {v v' : AV} (h : v.ren σ = some v') (h1 : v.one = true) : v'.one = true := by
  cases v with
  | ptr a => cases a with
    | none => cases h; rfl
    | some a => simp only [AV.ren, Option.map_eq_some_iff] at h; obtain ⟨j, hj, rfl⟩ := h; rfl
  | sl a l c => cases a with
    | none => cases h; rfl
    | some a => simp only [AV.ren, Option.map_eq_some_iff] at h; obtain ⟨j, hj, rfl⟩ := h; rfl
  | map a => cases a with
    | none => cases h; rfl
    | some a => simp only [AV.ren, Option.map_eq_some_iff] at h; obtain ⟨j, hj, rfl⟩ := h; rfl
  | fn f a c =>
    simp only [AV.ren] at h
    split at h
    · cases h; rfl
    · cases h
  | ifc t v => simp only [AV.ren, Option.map_eq_some_iff] at h; obtain ⟨j, hj, rfl⟩ := h; rfl
  | slE k o i l s => simp only [AV.ren, Option.map_eq_some_iff] at h; obtain ⟨j, hj, rfl⟩ := h; rfl
  | agg _ => cases h1
  | tup _ => cases h1
  | any => cases h1
  | und => cases h1
  | _ => cases h; rfl
theorem renL_get : ∀ (vs vs' : List AV), AV.renL σ vs = some vs' → vs'.length = vs.length ∧ ∀ (i : Nat) (v' : AV), vs'[i]? = some v' → ∃ v, vs[i]? = some v ∧ v.ren σ = some v'
  | [], v', h => by cases h; exact ⟨rfl, fun i v h => by simp at h⟩
  | v :: vs, v', h => by
    simp only [AV.renL] at h
    split at h
    · rename_i x y hx hy; cases h
      obtain ⟨h1, h2⟩ := renL_get vs y hy
      refine ⟨by simp [h1], fun i u hu => ?_⟩
      cases i with
      | zero => simp only [List.getElem?_cons_zero, Option.some.injEq] at hu; subst hu; exact ⟨v, rfl, hx⟩
      | succ i => simp only [List.getElem?_cons_succ] at hu ⊢; exact h2 i u hu
    · cases h
theorem renL_cells {cs cs' : List AV} (hσ : ∀ i j, σ i = some j → ρ' j = ρ i) (h : AV.renL σ cs = some cs') : cs'.map (AV.real ρ') = cs.map (AV.real ρ) := by
  have := renL_real hσ cs cs' h
  simpa using this
end
/-- A row with its numbers turned; what names a row that is left out is dead. -/
def renE (σ : Nat → Option Nat) : List (AV × AV) → Option (List (AV × AV))
  | [] => some []
  | e :: es => match AV.ren σ e.1, AV.ren σ e.2, renE σ es with
    | some k, some v, some es => some ((k, v) :: es)
    | _, _, _ => none
def renObj (σ : Nat → Option Nat) : AObj → AObj
  | .row t s cs => match AV.renL σ cs with | some cs => .row t s cs | none => .dead
  | .ro cs => match AV.renL σ cs with | some cs => .ro cs | none => .dead
  | .map es => match renE σ es with | some es => .map es | none => .dead
  | .hole => .hole
  | .dead => .dead
section
variable {σ : Nat → Option Nat} {ρ ρ' : Rho}
theorem renE_real (hσ : ∀ i j, σ i = some j → ρ' j = ρ i) : ∀ (es es' : List (AV × AV)), renE σ es = some es' → es'.map (fun e => (e.1.real ρ', e.2.real ρ')) = es.map (fun e => (e.1.real ρ, e.2.real ρ))
  | [], _, h => by cases h; rfl
  | e :: es, _, h => by
    simp only [renE] at h
    split at h
    · rename_i k v es' h1 h2 h3
      cases h
      simp only [List.map_cons, ren_real hσ _ _ h1, ren_real hσ _ _ h2, renE_real hσ es es' h3]
    · cases h
theorem renE_refs {p q : Nat → Bool} {c d : Nat → Nat} (hσ : ∀ i j, σ i = some j → p i = true → q j = true ∧ d j = c i) : ∀ (es es' : List (AV × AV)), renE σ es = some es' → es.all (fun e => e.1.refs p c && e.2.refs p c) = true → es'.all (fun e => e.1.refs q d && e.2.refs q d) = true
  | [], _, h, _ => by cases h; rfl
  | e :: es, _, h, hv => by
    simp only [renE] at h
    split at h
    · rename_i k v es' h1 h2 h3
      cases h
      simp only [List.all_cons, Bool.and_eq_true] at hv ⊢
      exact ⟨⟨ren_refs hσ _ _ h1 hv.1.1, ren_refs hσ _ _ h2 hv.1.2⟩, renE_refs hσ es es' h3 hv.2⟩
    · cases h
theorem renObj_rel {B : Fr} {w : World} {l : RL} (hσ : ∀ i j, σ i = some j → ρ' j = ρ i) {o : AObj} (h : ObjRel ρ B w l o) : ObjRel ρ' B w l (renObj σ o) := by
  cases o with
  | hole => trivial
  | dead => trivial
  | ro cs =>
    simp only [renObj]
    split
    · rename_i cs' hc
      obtain ⟨h1, h2⟩ := h
      refine ⟨h1, fun j v hv => ?_⟩
      obtain ⟨u, hu, hr⟩ := (renL_get _ _ hc).2 j v hv
      rw [h2 j u hu, ren_real hσ _ _ hr]
    · trivial
  | row t s cs =>
    simp only [renObj]
    split
    · rename_i cs' hc
      obtain ⟨h1, h2, arr, h3, h4, h5, h6, h7⟩ := h
      refine ⟨h1, h2, arr, h3, ?_, h5, h6, fun v hv => ?_⟩
      · rw [(renL_get _ _ hc).1, h4, renL_cells hσ hc]
      · obtain ⟨i, hi⟩ := List.getElem?_of_mem hv
        obtain ⟨u, hu, hr⟩ := (renL_get _ _ hc).2 i v hi
        exact ren_one hr (h7 u (List.mem_of_getElem? hu))
    · trivial
  | map es =>
    simp only [renObj]
    split
    · rename_i es' hc
      obtain ⟨h1, ents, clock, h2, h3⟩ := h
      exact ⟨h1, ents, clock, h2, by rw [h3, renE_real hσ _ _ hc]⟩
    · trivial
theorem renObj_refs {p q : Nat → Bool} {c d : Nat → Nat} (hσ : ∀ i j, σ i = some j → p i = true → q j = true ∧ d j = c i) {o : AObj} (h : o.refs p c = true) : (renObj σ o).refs q d = true := by
  have cells : ∀ cs cs' : List AV, AV.renL σ cs = some cs' → cs.all (AV.refs p c) = true → cs'.all (AV.refs q d) = true := fun cs cs' h1 h2 => by
    rw [← refsL_eq] at h2 ⊢
    exact renL_refs hσ cs cs' h1 h2
  cases o with
  | hole => rfl
  | dead => rfl
  | ro cs =>
    simp only [renObj]
    split
    · rename_i cs' hc; exact cells _ _ hc h
    · rfl
  | row t s cs =>
    simp only [renObj]
    split
    · rename_i cs' hc; exact cells _ _ hc h
    · rfl
  | map es =>
    simp only [renObj]
    split
    · rename_i es' hc; exact renE_refs hσ _ _ hc h
    · rfl
theorem renObj_own {o : AObj} (h : (renObj σ o).own = true) : o.own = true := by
  cases o with
  | hole => cases h
  | dead => cases h
  | ro cs => simp only [renObj] at h; split at h <;> cases h
  | row t s cs => rfl
  | map es => rfl
theorem renObj_ro {o : AObj} {cs : List AV} (h : renObj σ o = .ro cs) : ∃ cs', o = .ro cs' := by
  cases o with
  | hole => cases h
  | dead => cases h
  | ro cs => exact ⟨cs, rfl⟩
  | row t s cs => simp only [renObj] at h; split at h <;> cases h
  | map es => simp only [renObj] at h; split at h <;> cases h
theorem renObj_there {o : AObj} (h : o.there = true) : (renObj σ o).there = true := by
  cases o with
  | hole => cases h
  | dead => rfl
  | ro cs => simp only [renObj]; split <;> rfl
  | row t s cs => simp only [renObj]; split <;> rfl
  | map es => simp only [renObj]; split <;> rfl
end
/-- What is left out at a region's head: temporaries, and of the rows from b on all but these. -/
inductive Keep where
  | all
  | rows (ks : List Nat)
  | auto
structure Tidy where
  drop : List Nat
  keep : Keep
mutual
/-- The blocks that a value names. -/
def AV.names : AV → List Nat
  | .ptr (some (k, _)) => [k]
  | .sl (some (k, _)) _ _ => [k]
  | .agg cs => AV.namesL cs
  | .tup cs => AV.namesL cs
  | .fn _ a c => AV.namesL a ++ AV.namesL c
  | .map (some k) => [k]
  | .ifc _ v => AV.names v
  | .slE k _ _ _ _ => [k]
  | _ => []
def AV.namesL : List AV → List Nat
  | [] => []
  | v :: vs => AV.names v ++ AV.namesL vs
end
def AObj.names : AObj → List Nat
  | .row _ _ cs => AV.namesL cs
  | .ro cs => AV.namesL cs
  | .map es => es.flatMap fun e => e.1.names ++ e.2.names
  | _ => []
/-- The rows from b on that something names. -/
def autoK (b : Nat) (st : St) : List Nat := (List.range (st.2.length - b)).filter fun i => st.1.any (fun v => v.names.contains (b + i)) || (List.range st.2.length).any (fun j => (st.2.getD j .dead).names.contains (b + i))
def sigma (b : Nat) (ks : List Nat) (i : Nat) : Option Nat := if i < b then some i else (ks.idxOf? (i - b)).map (b + ·)
def sweep (b : Nat) (ks : List Nat) (st : St) : St :=
  if decide (b ≤ st.2.length) && decide ks.Nodup then
    (st.1.map (fun v => (v.ren (sigma b ks)).getD .any), (st.2.take b).map (renObj (sigma b ks)) ++ ks.map fun k => renObj (sigma b ks) (st.2.getD (b + k) .dead))
  else st
def tidy (b : Nat) (t : Tidy) (st : St) : St := match t.keep with
  | .all => forget t.drop st
  | .rows ks => sweep b ks (forget t.drop st)
  | .auto => sweep b (autoK b (forget t.drop st)) (forget t.drop st)
theorem idxOf?_spec : ∀ (ks : List Nat) (x m : Nat), ks.idxOf? x = some m → ks[m]? = some x
  | [], x, m, h => by simp at h
  | k :: ks, x, m, h => by
    rw [List.idxOf?_cons] at h
    split at h
    · rename_i hk
      cases h
      simpa using hk
    · simp only [Option.map_eq_some_iff] at h
      obtain ⟨m', h1, rfl⟩ := h
      simpa using idxOf?_spec ks x m' h1
theorem rel_sweepD {ds : List Deferred} {B : Fr} {w0 : World} {ρ0 : Rho} {h0 : AHeap} {st : St} {a : Act} {w : World} {b : Nat} (hb : h0.length ≤ b) (ks : List Nat) (hR : RelD ds B w0 ρ0 h0 st a w) : RelD ds B w0 ρ0 h0 (sweep b ks st) a w := by
  unfold sweep
  split
  · rename_i hc
    simp only [Bool.and_eq_true, decide_eq_true_eq] at hc
    obtain ⟨hlen, hnd⟩ := hc
    obtain ⟨ρ, hI, hF, hok, hd, hb'⟩ := hR
    obtain ⟨src, hsrc⟩ : ∃ src : Nat → Nat, src = fun i => if i < b then i else b + ks.getD (i - b) 0 := ⟨_, rfl⟩
    obtain ⟨ρ', hρ⟩ : ∃ ρ' : Rho, ρ' = fun i => ρ (src i) := ⟨_, rfl⟩
    have hs1 : ∀ i j, sigma b ks i = some j → src j = i := fun i j h => by
      unfold sigma at h
      split at h
      · rename_i hlt; cases h; rw [hsrc]; simp only [hlt, if_true]
      · rename_i hge
        simp only [Option.map_eq_some_iff] at h
        obtain ⟨m, h1, rfl⟩ := h
        have := idxOf?_spec ks _ _ h1
        rw [hsrc]
        simp only [show ¬ b + m < b by omega, if_false, show b + m - b = m by omega]
        rw [List.getD_eq_getElem?_getD, this]
        simp only [Option.getD_some]
        omega
    have hσ : ∀ i j, sigma b ks i = some j → ρ' j = ρ i := fun i j h => by rw [hρ]; simp only [hs1 i j h]
    obtain ⟨h', hh⟩ : ∃ h', h' = (st.2.take b).map (renObj (sigma b ks)) ++ ks.map fun k => renObj (sigma b ks) (st.2.getD (b + k) .dead) := ⟨_, rfl⟩
    have hat : ∀ k o, h'[k]? = some o → (∃ o', st.2[src k]? = some o' ∧ o = renObj (sigma b ks) o') ∨ o = .dead := fun k o ho => by
      rw [hh] at ho
      have hl1 : ((st.2.take b).map (renObj (sigma b ks))).length = b := by simp; omega
      rcases Nat.lt_or_ge k b with q | q
      · rw [List.getElem?_append_left (by rw [hl1]; exact q)] at ho
        simp only [List.getElem?_map, Option.map_eq_some_iff] at ho
        obtain ⟨o', h1, rfl⟩ := ho
        rw [List.getElem?_take_of_lt q] at h1
        refine .inl ⟨o', ?_, rfl⟩
        rw [hsrc]; simp only [q, if_true]; exact h1
      · rw [List.getElem?_append_right (by rw [hl1]; exact q), hl1] at ho
        simp only [List.getElem?_map, Option.map_eq_some_iff] at ho
        obtain ⟨m, h1, rfl⟩ := ho
        have hs : src k = b + m := by
          rw [hsrc]; simp only [show ¬ k < b by omega, if_false]
          rw [List.getD_eq_getElem?_getD, h1]; rfl
        cases h2 : st.2[b + m]? with
        | none => right; rw [List.getD_eq_getElem?_getD, h2]; rfl
        | some o' => left; exact ⟨o', by rw [hs, h2], by rw [List.getD_eq_getElem?_getD, h2]; rfl⟩
    have hinj : ∀ k k' o o', h'[k]? = some o → h'[k']? = some o' → k ≠ k' → src k ≠ src k' := fun k k' o o' ho ho' hne he => by
      have hl : h'.length = b + ks.length := by rw [hh]; simp; omega
      have hk : k < b + ks.length := by
        rcases Nat.lt_or_ge k h'.length with q | q
        · omega
        · simp [List.getElem?_eq_none q] at ho
      have hk' : k' < b + ks.length := by
        rcases Nat.lt_or_ge k' h'.length with q | q
        · omega
        · simp [List.getElem?_eq_none q] at ho'
      rw [hsrc] at he
      simp only at he
      split at he
      · split at he
        · exact hne he
        · omega
      · split at he
        · omega
        · rename_i q1 q2
          have e1 : ks.getD (k - b) 0 = ks[k - b]'(by omega) := by rw [List.getD_eq_getElem?_getD, List.getElem?_eq_getElem (by omega)]; rfl
          have e2 : ks.getD (k' - b) 0 = ks[k' - b]'(by omega) := by rw [List.getD_eq_getElem?_getD, List.getElem?_eq_getElem (by omega)]; rfl
          have := (List.getElem_inj hnd).1 (show ks[k - b]'(by omega) = ks[k' - b]'(by omega) by omega)
          omega
    have hlv : ∀ i j, sigma b ks i = some j → live st.2 i = true → live h' j = true := fun i j h hl => by
      have hl1 : ((st.2.take b).map (renObj (sigma b ks))).length = b := by simp; omega
      obtain ⟨o, ho, ht⟩ : ∃ o, st.2[i]? = some o ∧ o.there = true := by
        unfold live at hl
        split at hl
        · rename_i o ho; exact ⟨o, ho, hl⟩
        · cases hl
      unfold sigma at h
      split at h
      · rename_i hlt
        cases h
        have : h'[i]? = some (renObj (sigma b ks) o) := by
          rw [hh, List.getElem?_append_left (by rw [hl1]; exact hlt), List.getElem?_map, List.getElem?_take_of_lt hlt, ho]; rfl
        simp only [live, this]
        exact renObj_there ht
      · rename_i hge
        simp only [Option.map_eq_some_iff] at h
        obtain ⟨m, h1, rfl⟩ := h
        have h2 := idxOf?_spec ks _ _ h1
        have : h'[b + m]? = some (renObj (sigma b ks) o) := by
          rw [hh, List.getElem?_append_right (by rw [hl1]; omega), hl1, show b + m - b = m by omega, List.getElem?_map, h2]
          simp only [Option.map_some]
          rw [List.getD_eq_getElem?_getD, show b + (i - b) = i by omega, ho]
          rfl
        simp only [live, this]
        exact renObj_there ht
    have hrf : ∀ i j, sigma b ks i = some j → live st.2 i = true → live h' j = true ∧ (fun k => (ρ' k).cap) j = (fun k => (ρ k).cap) i := fun i j h hl => ⟨hlv i j h hl, by simp only [hσ i j h]⟩
    refine ⟨ρ', ?_, ?_, ?_, hd, ?_⟩
    · show Inv ρ' B w0 ((st.2.take b).map (renObj (sigma b ks)) ++ ks.map fun k => renObj (sigma b ks) (st.2.getD (b + k) .dead)) w
      rw [← hh]
      refine ⟨hI.below, hI.size, fun k o ho => ?_, fun k k' o o' ho ho' h1 h2 hne => ?_, fun k k' o cs ho ho' h1 => ?_, fun k o ho => ?_⟩
      · rcases hat k o ho with ⟨o', h1, rfl⟩ | rfl
        · have := hI.obj _ _ h1
          have e : ρ' k = ρ (src k) := by rw [hρ]
          rw [e]
          exact renObj_rel hσ this
        · trivial
      · rcases hat k o ho with ⟨u, hu, rfl⟩ | rfl
        · rcases hat k' o' ho' with ⟨u', hu', rfl⟩ | rfl
          · have := hI.sep _ _ u u' hu hu' (renObj_own h1) (renObj_own h2) (hinj k k' _ _ ho ho' hne)
            rw [hρ]; exact this
          · cases h2
        · cases h1
      · rcases hat k o ho with ⟨u, hu, rfl⟩ | rfl
        · rcases hat k' _ ho' with ⟨u', hu', hr⟩ | hr
          · obtain ⟨cs', rfl⟩ := renObj_ro hr.symm
            have := hI.sepr _ _ u cs' hu hu' (renObj_own h1)
            rw [hρ]; exact this
          · cases hr
        · cases h1
      · rcases hat k o ho with ⟨u, hu, rfl⟩ | rfl
        · exact renObj_refs hrf (hI.wf _ _ hu)
        · rfl
    · refine ⟨by simp [hF.1], fun i v hv hne => ?_⟩
      simp only [List.getElem?_map, Option.map_eq_some_iff] at hv
      obtain ⟨u, hu, rfl⟩ := hv
      cases hr : u.ren (sigma b ks) with
      | none => rw [hr] at hne; exact absurd rfl hne
      | some u' =>
        simp only [Option.getD_some]
        rw [ren_real hσ _ _ hr]
        refine hF.2 i u hu fun h => ?_
        subst h
        simp only [AV.ren, Option.some.injEq] at hr
        subst hr
        simp [AV.ren] at hne
    · intro v hv
      simp only [List.mem_map] at hv
      obtain ⟨u, hu, rfl⟩ := hv
      show AV.refs (live ((st.2.take b).map (renObj (sigma b ks)) ++ ks.map fun k => renObj (sigma b ks) (st.2.getD (b + k) .dead))) (fun k => (ρ' k).cap) _ = true
      rw [← hh]
      cases hr : u.ren (sigma b ks) with
      | none => rfl
      | some u' => exact ren_refs hrf _ _ hr (hok u hu)
    · intro i hi
      have hlt : i < h0.length := by
        rcases Nat.lt_or_ge i h0.length with q | q
        · exact q
        · simp [live, List.getElem?_eq_none q] at hi
      have hs : sigma b ks i = some i := by unfold sigma; rw [if_pos (by omega)]
      obtain ⟨h1, h2⟩ := hb' i hi
      show live ((st.2.take b).map (renObj (sigma b ks)) ++ ks.map fun k => renObj (sigma b ks) (st.2.getD (b + k) .dead)) i = true ∧ _
      rw [← hh]
      exact ⟨hlv i i hs h1, by rw [hσ i i hs, h2]⟩
  · exact hR
theorem rel_tidyD {ds : List Deferred} {B : Fr} {w0 : World} {ρ0 : Rho} {h0 : AHeap} {st : St} {a : Act} {w : World} {b : Nat} (hb : h0.length ≤ b) (t : Tidy) (hR : RelD ds B w0 ρ0 h0 st a w) : RelD ds B w0 ρ0 h0 (tidy b t st) a w := by
  unfold tidy
  split
  · exact rel_forgetD _ hR
  · exact rel_sweepD hb _ (rel_forgetD _ hR)
  · exact rel_sweepD hb _ (rel_forgetD _ hR)
theorem rel_tidy {B : Fr} {w0 : World} {ρ0 : Rho} {h0 : AHeap} {st : St} {a : Act} {w : World} {b : Nat} (hb : h0.length ≤ b) (t : Tidy) (hR : Rel B w0 ρ0 h0 st a w) : Rel B w0 ρ0 h0 (tidy b t st) a w := hR.lift fun h => rel_tidyD hb t h
section
variable (P : Program) (S : Specs)
def evg (b0 : Nat) (F : Nat → Tidy) : Nat → Code ⊕ (Code × Code) → St → Option (AExit × St)
  | 0, _, _ => none
  | n + 1, .inl c, st => match c with
    | .skip => some (.normal, st)
    | .label _ => some (.normal, st)
    | .region id ops draw => (evalRegion P S ops draw (tidy b0 (F id) st)).map (.normal, ·)
    | .seq a b => match evg b0 F n (.inl a) st with
      | some (.normal, st') => evg b0 F n (.inl b) st'
      | r => r
    | .cond c x y => match evalOperand st.1 c with
      | some (.bool b) => evg b0 F n (.inl (if b then x else y)) st
      | _ => none
    | .block id body => match evg b0 F n (.inl body) st with
      | some (.exit id', st') => if id' = id then some (.normal, st') else some (.exit id', st')
      | r => r
    | .loop body => match evg b0 F n (.inl body) st with
      | some (.normal, st') => evg b0 F n (.inl (.loop body)) st'
      | r => r
    | .exit id => some (.exit id, st)
    | .goto l => some (.goto l, st)
    | .scope body => evg b0 F n (.inr (body, body)) st
    | .ret => some (.ret, st)
    | _ => none
  | n + 1, .inr (c, rest), st => match evg b0 F n (.inl rest) st with
    | some (.goto l, st') => match findLabel c l with
      | some r' => evg b0 F n (.inr (c, r')) st'
      | none => some (.goto l, st')
    | r => r
end
section
variable {P : Program} {S : Specs} {B : Fr} {w0 : World} {ρ0 : Rho} {h0 : AHeap}
theorem loop_roundsg {b0 : Nat} (F : Nat → Tidy) {body : Code} : ∀ (m : Nat), (∀ k < m, ∀ (st : St) (e : AExit) (st' : St), evg P S b0 F k (.inl body) st = some (e, st') → CodeSound P B w0 ρ0 h0 (.inl body) st e st') →
    ∀ (st : St) (e : AExit) (st' : St), evg P S b0 F m (.inl (.loop body)) st = some (e, st') → ∀ R a w, Rel B w0 ρ0 h0 st a w →
      Code.roundsIn (fR R) 0 P body (fun ex a' w' => ex = e.real ∧ Rel B w0 ρ0 h0 st' a' w') m a w
  | 0, _, _, _, _, he => by simp [evg] at he
  | m + 1, hb, st, e, st', he => by
    intro R a w hR
    simp only [evg] at he
    cases h1 : evg P S b0 F m (.inl body) st with
    | none => rw [h1] at he; cases he
    | some r =>
      obtain ⟨e1, st1⟩ := r
      have hx := hb m (Nat.lt_succ_self m) _ _ _ h1 R a w hR
      rw [h1] at he
      rw [roundsIn_succ]
      refine wpIn_mono hx fun ex a' w' ⟨hex, hR'⟩ => ?_
      subst hex
      cases e1 with
      | normal => exact loop_roundsg F m (fun k hk => hb k (by omega)) st1 e st' he R a' w' hR'
      | _ => simp only [Option.some.injEq, Prod.mk.injEq] at he; obtain ⟨rfl, rfl⟩ := he; exact ⟨rfl, hR'⟩
theorem evg_sound {b0 : Nat} (hb : h0.length ≤ b0) (hm : P.follows .mixedOrders = true) (hS : S.OK P) (F : Nat → Tidy) : ∀ (n : Nat) (x : Code ⊕ (Code × Code)) (st : St) (e : AExit) (st' : St), evg P S b0 F n x st = some (e, st') → CodeSound P B w0 ρ0 h0 x st e st' := by
  intro n
  induction n using Nat.strongRecOn with
  | _ n IHs =>
  intro x st e st' he
  match n, x, he, IHs with
  | 0, _, he, _ => simp [evg] at he
  | n + 1, .inl c, he, IHs =>
    have IH := IHs n (Nat.lt_succ_self n)
    cases c with
    | skip => simp only [evg, Option.some.injEq, Prod.mk.injEq] at he; obtain ⟨rfl, rfl⟩ := he; exact fun R a w hR => wpIn_skip ⟨rfl, hR⟩
    | label l => simp only [evg, Option.some.injEq, Prod.mk.injEq] at he; obtain ⟨rfl, rfl⟩ := he; exact fun R a w hR => wpIn_label ⟨rfl, hR⟩
    | region id ops draw =>
      simp only [evg, Option.map_eq_some_iff, Prod.mk.injEq] at he
      obtain ⟨st1, h1, rfl, rfl⟩ := he
      exact fun R a w hR => region_sound hm hS h1 (rel_tidy hb _ hR) (fun a' w' hR' => ⟨rfl, hR'⟩)
    | seq x y =>
      intro R a w hR
      simp only [evg] at he
      refine wpIn_seq ?_
      cases h1 : evg P S b0 F n (.inl x) st with
      | none => rw [h1] at he; cases he
      | some r =>
        obtain ⟨e1, st1⟩ := r
        have hx := IH _ _ _ _ h1 R a w hR
        rw [h1] at he
        refine wpIn_mono hx fun ex a' w' ⟨hex, hR'⟩ => ?_
        subst hex
        cases e1 with
        | normal => exact IH _ _ _ _ he R a' w' hR'
        | _ => simp only [Option.some.injEq, Prod.mk.injEq] at he; obtain ⟨rfl, rfl⟩ := he; exact ⟨rfl, hR'⟩
    | cond c x y =>
      intro R a w hR
      simp only [evg] at he
      split at he
      · rename_i b hb
        obtain ⟨_, _, _, _, ρ, hI, hF, _⟩ := id hR
        have hc := operand_sound hF hb
        exact wpIn_cond (t := b) hc (IH _ _ _ _ he R a w hR)
      · cases he
    | block id body =>
      intro R a w hR
      simp only [evg] at he
      refine wpIn_block ?_
      cases h1 : evg P S b0 F n (.inl body) st with
      | none => rw [h1] at he; cases he
      | some r =>
        obtain ⟨e1, st1⟩ := r
        have hx := IH _ _ _ _ h1 R a w hR
        rw [h1] at he
        refine wpIn_mono hx fun ex a' w' ⟨hex, hR'⟩ => ?_
        subst hex
        cases e1 with
        | exit id' =>
          simp only [AExit.real, Exit.inBlock]
          simp only at he
          split at he
          · rename_i hid
            simp only [Option.some.injEq, Prod.mk.injEq] at he
            obtain ⟨rfl, rfl⟩ := he
            rw [if_pos hid]; exact ⟨rfl, hR'⟩
          · rename_i hid
            simp only [Option.some.injEq, Prod.mk.injEq] at he
            obtain ⟨rfl, rfl⟩ := he
            rw [if_neg hid]; exact ⟨rfl, hR'⟩
        | _ => simp only [Option.some.injEq, Prod.mk.injEq] at he; obtain ⟨rfl, rfl⟩ := he; exact ⟨rfl, hR'⟩
    | loop body =>
      intro R a w hR
      exact wpIn_loop_rounds (n + 1) (loop_roundsg F (n + 1) (fun k hk st e st' h => IHs k hk _ st e st' h) st e st' he R a w hR)
    | exit id => simp only [evg, Option.some.injEq, Prod.mk.injEq] at he; obtain ⟨rfl, rfl⟩ := he; exact fun R a w hR => wpIn_exit ⟨rfl, hR⟩
    | goto l => simp only [evg, Option.some.injEq, Prod.mk.injEq] at he; obtain ⟨rfl, rfl⟩ := he; exact fun R a w hR => wpIn_goto ⟨rfl, hR⟩
    | scope body =>
      intro R a w hR b k cs hro _ _
      simp only [evg] at he
      obtain ⟨a', w', hR', harr⟩ := IH _ _ _ _ he R a w hR b k cs hro
      exact ⟨_, a', w', ⟨rfl, hR'⟩, .of_steps (.one (fenced_calm (n := 0) trivial (fun _ hd => by cases hd) rfl) stepR_scope) harr⟩
    | ret => simp only [evg, Option.some.injEq, Prod.mk.injEq] at he; obtain ⟨rfl, rfl⟩ := he; exact fun R a w hR => wpIn_ret ⟨rfl, hR⟩
    | rangeFunc f ps as body => simp [evg] at he
    | refuse why => simp [evg] at he
  | n + 1, .inr (c, rest), he, IHs =>
    have IH := IHs n (Nat.lt_succ_self n)
    intro R a w hR b k cs hro
    simp only [evg] at he
    cases h1 : evg P S b0 F n (.inl rest) st with
    | none => rw [h1] at he; cases he
    | some r =>
      obtain ⟨e1, st1⟩ := r
      have hx := IH _ _ _ _ h1 R a w hR
      rw [h1] at he
      obtain ⟨ex, a1, w1, ⟨hex, hR1⟩, harr⟩ := hx b (.inScope c :: k) cs hro trivial (fun _ hd => by cases hd)
      subst hex
      cases e1 with
      | normal =>
        simp only [Option.some.injEq, Prod.mk.injEq] at he; obtain ⟨rfl, rfl⟩ := he
        exact ⟨a1, w1, hR1, StepsIn.trans harr (.one (fenced_calm (n := 0) trivial (fun _ hd => by cases hd) rfl) stepR_inScope)⟩
      | exit id =>
        simp only [Option.some.injEq, Prod.mk.injEq] at he; obtain ⟨rfl, rfl⟩ := he
        exact ⟨a1, w1, hR1, fun k' hk => harr.1 k' (by simp [exitTo, hk]), fun hr hk => harr.2 hr (by simp [exitTo, hk])⟩
      | goto l =>
        simp only at he
        cases hf : findLabel c l with
        | none =>
          rw [hf] at he
          simp only [Option.some.injEq, Prod.mk.injEq] at he; obtain ⟨rfl, rfl⟩ := he
          exact ⟨a1, w1, hR1, fun k' hk => harr.1 k' (by simp [gotoIn, hf, hk]), fun hr hk => harr.2 hr (by simp [gotoIn, hf, hk])⟩
        | some r' =>
          rw [hf] at he
          obtain ⟨a2, w2, hR2, harr2⟩ := IH _ _ _ _ he R a1 w1 hR1 b k cs hro
          exact ⟨a2, w2, hR2, ArrivesIn.of_steps (harr.1 _ (by simp [gotoIn, hf])) harr2⟩
      | ret =>
        simp only [Option.some.injEq, Prod.mk.injEq] at he; obtain ⟨rfl, rfl⟩ := he
        exact ⟨a1, w1, hR1, harr⟩
end
section
variable (P : Program) (S : Specs)
def evG (b0 : Nat) (F : Nat → Tidy) : Nat → PC ⊕ (PC × PC) → St → Option (AExit × St)
  | 0, _, _ => none
  | n + 1, .inl c, st => match c with
    | .skip => some (.normal, st)
    | .label _ => some (.normal, st)
    | .ops id na l => (evalOpsR P S (tidy b0 (F id) st).2.length l (withHoles na (tidy b0 (F id) st))).map (.normal, ·)
    | .ops2 id na ls l r => ((evalHeadR P S ls 0 (tidy b0 (F id) st).2.length l (withHoles na (tidy b0 (F id) st), List.replicate (l.length + r.length) none)).bind fun x => evalOpsR P S ((tidy b0 (F id) st).2.length + (l.filter (·.ri.isAlloc)).length) r x.1).map (.normal, ·)
    | .seq a b => match evG b0 F n (.inl a) st with
      | some (.normal, st') => evG b0 F n (.inl b) st'
      | r => r
    | .cond c x y => match evalOperand st.1 c with
      | some (.bool b) => evG b0 F n (.inl (if b then x else y)) st
      | _ => none
    | .block id body => match evG b0 F n (.inl body) st with
      | some (.exit id', st') => if id' = id then some (.normal, st') else some (.exit id', st')
      | r => r
    | .loop body => match evG b0 F n (.inl body) st with
      | some (.normal, st') => evG b0 F n (.inl (.loop body)) st'
      | r => r
    | .exit id => some (.exit id, st)
    | .goto l => some (.goto l, st)
    | .scope body => evG b0 F n (.inr (body, body)) st
    | .ret => some (.ret, st)
    | .ops3 .. => none
    | .rf .. => none
  | n + 1, .inr (c, rest), st => match evG b0 F n (.inl rest) st with
    | some (.goto l, st') => match findP c l with
      | some r' => evG b0 F n (.inr (c, r')) st'
      | none => some (.goto l, st')
    | r => r
end
section
variable {P : Program} {S : Specs} {Q : FuncId → Bool}
theorem code_resolvedg {b0 : Nat} (hQ : ∀ g, (S.q g).isSome = Q g) (F : Nat → Tidy) : ∀ (n : Nat),
    (∀ (c : Code) (pc : PC) (st : St) (r : AExit × St), comp P Q c = some pc → evG P S b0 F n (.inl pc) st = some r → evg P S b0 F n (.inl c) st = some r) ∧
    (∀ (c rest : Code) (pc pr : PC) (st : St) (r : AExit × St), comp P Q c = some pc → comp P Q rest = some pr → evG P S b0 F n (.inr (pc, pr)) st = some r → evg P S b0 F n (.inr (c, rest)) st = some r)
  | 0 => ⟨fun _ _ _ _ _ he => by simp [evG] at he, fun _ _ _ _ _ _ _ _ he => by simp [evG] at he⟩
  | n + 1 => by
    obtain ⟨IH, IH2⟩ := code_resolvedg hQ F n
    refine ⟨fun c pc st r hc he => ?_, fun c rest pc pr st r hc hr he => ?_⟩
    · cases c with
      | skip => simp only [comp, Option.some.injEq] at hc; subst hc; exact he
      | label l => simp only [comp, Option.some.injEq] at hc; subst hc; exact he
      | exit l => simp only [comp, Option.some.injEq] at hc; subst hc; exact he
      | goto l => simp only [comp, Option.some.injEq] at hc; subst hc; exact he
      | ret => simp only [comp, Option.some.injEq] at hc; subst hc; exact he
      | region id ops draw =>
        simp only [comp] at hc
        split at hc
        · simp only [Option.map_eq_some_iff] at hc; obtain ⟨_, _, rfl⟩ := hc; simp [evG] at he
        split at hc
        · rename_i hdr
          simp only [Bool.and_eq_true] at hdr
          obtain ⟨rfl, -⟩ := hdr
          split at hc
          · rename_i hd
            simp only [Option.map_eq_some_iff] at hc
            obtain ⟨pl, hpl, rfl⟩ := hc
            simp only [evG, Option.map_eq_some_iff] at he
            obtain ⟨st1, h1, rfl⟩ := he
            simp only [evg, Option.map_eq_some_iff]
            exact ⟨st1, region2_resolved hQ hd hpl rfl h1, rfl⟩
          · cases hc
        · rename_i hdr
          split at hc
          · rename_i hd
            simp only [Option.map_eq_some_iff] at hc
            obtain ⟨pl, hpl, rfl⟩ := hc
            simp only [evG, Option.map_eq_some_iff] at he
            obtain ⟨st1, h1, rfl⟩ := he
            simp only [evg, Option.map_eq_some_iff]
            refine ⟨st1, region_resolved hQ (fun hdw => ?_) hd hpl ?_, rfl⟩
            · simp only [hdw, Bool.true_and, Bool.or_eq_true, decide_eq_true_eq, not_or, Bool.not_eq_true', Bool.not_eq_false, List.isEmpty_iff] at hdr; exact ⟨by omega, hdr.2⟩
            · exact h1
          · cases hc
      | seq a b =>
        simp only [comp, Option.bind_eq_some_iff, Option.map_eq_some_iff] at hc
        obtain ⟨pa, ha, pb, hb, rfl⟩ := hc
        simp only [evG] at he
        simp only [evg]
        cases h1 : evG P S b0 F n (.inl pa) st with
        | none => rw [h1] at he; cases he
        | some q =>
          obtain ⟨e1, st1⟩ := q
          rw [IH a pa st _ ha h1]
          rw [h1] at he
          cases e1 with
          | normal => exact IH b pb st1 r hb he
          | _ => exact he
      | cond q a b =>
        simp only [comp, Option.bind_eq_some_iff, Option.map_eq_some_iff] at hc
        obtain ⟨pa, ha, pb, hb, rfl⟩ := hc
        simp only [evG] at he
        simp only [evg]
        split at he
        · rename_i t ht
          try rw [ht]
          cases t with
          | true => exact IH a pa st r ha he
          | false => exact IH b pb st r hb he
        · cases he
      | block id a =>
        simp only [comp, Option.map_eq_some_iff] at hc
        obtain ⟨pa, ha, rfl⟩ := hc
        simp only [evG] at he
        simp only [evg]
        cases h1 : evG P S b0 F n (.inl pa) st with
        | none => rw [h1] at he; cases he
        | some q =>
          obtain ⟨e1, st1⟩ := q
          rw [IH a pa st _ ha h1]
          rw [h1] at he
          exact he
      | loop a =>
        simp only [comp, Option.map_eq_some_iff] at hc
        obtain ⟨pa, ha, rfl⟩ := hc
        simp only [evG] at he
        simp only [evg]
        cases h1 : evG P S b0 F n (.inl pa) st with
        | none => rw [h1] at he; cases he
        | some q =>
          obtain ⟨e1, st1⟩ := q
          rw [IH a pa st _ ha h1]
          rw [h1] at he
          cases e1 with
          | normal => exact IH (.loop a) (.loop pa) st1 r (by simp [comp, ha]) he
          | _ => exact he
      | scope a =>
        simp only [comp, Option.map_eq_some_iff] at hc
        obtain ⟨pa, ha, rfl⟩ := hc
        simp only [evG] at he
        simp only [evg]
        exact IH2 a a pa pa st r ha ha he
      | rangeFunc _ _ _ _ => simp only [comp, Option.bind_eq_some_iff, Option.map_eq_some_iff] at hc; obtain ⟨_, _, _, _, rfl⟩ := hc; simp [evG] at he
      | refuse _ => simp [comp] at hc
    · simp only [evG] at he
      simp only [evg]
      cases h1 : evG P S b0 F n (.inl pr) st with
      | none => rw [h1] at he; cases he
      | some q =>
        obtain ⟨e1, st1⟩ := q
        rw [IH rest pr st _ hr h1]
        rw [h1] at he
        cases e1 with
        | goto l =>
          simp only at he ⊢
          have hf := find_resolved c pc hc l
          cases hl : findLabel c l with
          | some r' =>
            rw [hl] at hf
            obtain ⟨pr', e2, e3⟩ := hf
            rw [e2] at he
            exact IH2 c r' pc pr' st1 r hc e3 he
          | none =>
            rw [hl] at hf
            simp only at hf
            rw [hf] at he
            exact he
        | _ => exact he
end
section
variable {P : Program} {S : Specs} {b0 : Nat} {F : Nat → Tidy}
end
section
variable (P : Program) (S : Specs) (sy : Sy) (cv : CV)
end
section
variable {P : Program} {S : Specs} {b0 : Nat} {F : Nat → Tidy}
end
end Go.Am
