/- Memory swept between regions: rows that nothing names any more are left out. Written by gengc.py. -/
import Derived.Test.YtiijphmpkmmpjaaAmZa
set_option linter.unusedVariables false
set_option linter.unusedSimpArgs false
namespace Go.Am
open Go Go.RowKit
mutual
/-- A value with its blocks' numbers turned. -/
def AV.ren (σ : Nat → Option Nat) : AV → Option AV
  | .ptr none => some (.ptr none)
  | .ptr (some (k, o)) => (σ k).map fun k' => .ptr (some (k', o))
  | .sl none l c => some (.sl none l c)
  | .sl (some (k, o)) l c => (σ k).map fun k' => .sl (some (k', o)) l c
  | .agg cs => (AV.renL σ cs).map .agg
  | .tup vs => (AV.renL σ vs).map .tup
  | .fn f a c => match AV.renL σ a, AV.renL σ c with
    | some a, some c => some (.fn f a c)
    | _, _ => none
  | .map none => some (.map none)
  | .map (some k) => (σ k).map fun k' => .map (some k')
  | .ifc t v => (AV.ren σ v).map (.ifc t)
  | .slE k o i l s => (σ k).map fun k' => .slE k' o i l s
  | .int k n => some (.int k n)
  | .bool b => some (.bool b)
  | .str s => some (.str s)
  | .nilFn => some .nilFn
  | .nilIfc => some .nilIfc
  | .ext a l c => some (.ext a l c)
  | .any => some .any
  | .und => some .und
def AV.renL (σ : Nat → Option Nat) : List AV → Option (List AV)
  | [] => some []
  | v :: vs => match AV.ren σ v, AV.renL σ vs with
    | some v, some vs => some (v :: vs)
    | _, _ => none
end
section
variable {σ : Nat → Option Nat} {ρ ρ' : Rho}
mutual
theorem ren_real (hσ : ∀ i j, σ i = some j → ρ' j = ρ i) : ∀ (v v' : AV), v.ren σ = some v' → v'.real ρ' = v.real ρ
  | .ptr none, v', h => by cases h; rfl
  | .ptr (some (k, o)), v', h => by
    simp only [AV.ren, Option.map_eq_some_iff] at h; obtain ⟨j, hj, rfl⟩ := h; simp [AV.real, hσ k j hj]
  | .sl none _ _, v', h => by cases h; rfl
  | .sl (some (k, o)) _ _, v', h => by
    simp only [AV.ren, Option.map_eq_some_iff] at h; obtain ⟨j, hj, rfl⟩ := h; simp [AV.real, hσ k j hj]
  | .agg cs, v', h => by
    simp only [AV.ren, Option.map_eq_some_iff] at h; obtain ⟨j, hj, rfl⟩ := h; simp only [AV.real, renL_real hσ cs j hj]
  | .tup cs, v', h => by
    simp only [AV.ren, Option.map_eq_some_iff] at h; obtain ⟨j, hj, rfl⟩ := h; simp only [AV.real, renL_real hσ cs j hj]
  | .fn f a c, v', h => by
    simp only [AV.ren] at h
    split at h
    · rename_i x y hx hy; cases h; simp only [AV.real, renL_real hσ a x hx, renL_real hσ c y hy]
    · cases h
  | .map none, v', h => by cases h; rfl
  | .map (some k), v', h => by
    simp only [AV.ren, Option.map_eq_some_iff] at h; obtain ⟨j, hj, rfl⟩ := h; simp [AV.real, hσ k j hj]
  | .ifc t v, v', h => by
    simp only [AV.ren, Option.map_eq_some_iff] at h; obtain ⟨j, hj, rfl⟩ := h; simp only [AV.real, ren_real hσ v j hj]
  | .slE k o i l s, v', h => by
    simp only [AV.ren, Option.map_eq_some_iff] at h; obtain ⟨j, hj, rfl⟩ := h; simp [AV.real, hσ k j hj]
  | .int _ _, v', h => by cases h; rfl
  | .bool _, v', h => by cases h; rfl
  | .str _, v', h => by cases h; rfl
  | .nilFn, v', h => by cases h; rfl
  | .nilIfc, v', h => by cases h; rfl
  | .ext a l c, v', h => by cases h; rfl
  | .any, v', h => by cases h; rfl
  | .und, v', h => by cases h; rfl
theorem renL_real (hσ : ∀ i j, σ i = some j → ρ' j = ρ i) : ∀ (vs vs' : List AV), AV.renL σ vs = some vs' → AV.reals ρ' vs' = AV.reals ρ vs
  | [], v', h => by cases h; rfl
  | v :: vs, v', h => by
    simp only [AV.renL] at h
    split at h
    · rename_i x y hx hy; cases h; simp only [AV.reals, ren_real hσ v x hx, renL_real hσ vs y hy]
    · cases h
end
mutual
theorem ren_refs {p q : Nat → Bool} {c d : Nat → Nat} (hσ : ∀ i j, σ i = some j → p i = true → q j = true ∧ d j = c i) : ∀ (v v' : AV), v.ren σ = some v' → v.refs p c = true → v'.refs q d = true
  | .ptr none, v', h, _ => by cases h; rfl
  | .ptr (some (k, o)), v', h, hv => by
    simp only [AV.ren, Option.map_eq_some_iff] at h; obtain ⟨j, hj, rfl⟩ := h; exact (hσ k j hj hv).1
  | .sl none _ _, v', h, hv => by cases h; exact hv
  | .sl (some (k, o)) l (.fix n), v', h, hv => by
    simp only [AV.ren, Option.map_eq_some_iff] at h; obtain ⟨j, hj, rfl⟩ := h
    simp only [AV.refs, Bool.and_eq_true] at hv ⊢; exact ⟨(hσ k j hj hv.1).1, hv.2⟩
  | .sl (some (k, o)) l (.rel i), v', h, hv => by
    simp only [AV.ren, Option.map_eq_some_iff] at h; obtain ⟨j, hj, rfl⟩ := h
    simp only [AV.refs, Bool.and_eq_true] at hv ⊢; exact ⟨(hσ k j hj hv.1).1, by rw [(hσ k j hj hv.1).2]; exact hv.2⟩
  | .agg cs, v', h, hv => by
    simp only [AV.ren, Option.map_eq_some_iff] at h; obtain ⟨j, hj, rfl⟩ := h; exact renL_refs hσ cs j hj hv
  | .tup cs, v', h, hv => by
    simp only [AV.ren, Option.map_eq_some_iff] at h; obtain ⟨j, hj, rfl⟩ := h; exact renL_refs hσ cs j hj hv
  | .fn f a c, v', h, hv => by
    simp only [AV.ren] at h
    split at h
    · rename_i x y hx hy; cases h
      simp only [AV.refs, Bool.and_eq_true] at hv ⊢
      exact ⟨renL_refs hσ a x hx hv.1, renL_refs hσ c y hy hv.2⟩
    · cases h
  | .map none, v', h, _ => by cases h; rfl
  | .map (some k), v', h, hv => by
    simp only [AV.ren, Option.map_eq_some_iff] at h; obtain ⟨j, hj, rfl⟩ := h; exact (hσ k j hj hv).1
  | .ifc t v, v', h, hv => by
    simp only [AV.ren, Option.map_eq_some_iff] at h; obtain ⟨j, hj, rfl⟩ := h; exact ren_refs hσ v j hj hv
  | .slE k o i l s, v', h, hv => by
    simp only [AV.ren, Option.map_eq_some_iff] at h; obtain ⟨j, hj, rfl⟩ := h
    simp only [AV.refs, Bool.and_eq_true] at hv ⊢; exact ⟨(hσ k j hj hv.1).1, by rw [(hσ k j hj hv.1).2]; exact hv.2⟩
  | .int _ _, v', h, _ => by cases h; rfl
  | .bool _, v', h, _ => by cases h; rfl
  | .str _, v', h, _ => by cases h; rfl
  | .nilFn, v', h, _ => by cases h; rfl
  | .nilIfc, v', h, _ => by cases h; rfl
  | .ext a l c, v', h, _ => by cases h; rfl
  | .any, v', h, _ => by cases h; rfl
  | .und, v', h, _ => by cases h; rfl
theorem renL_refs {p q : Nat → Bool} {c d : Nat → Nat} (hσ : ∀ i j, σ i = some j → p i = true → q j = true ∧ d j = c i) : ∀ (vs vs' : List AV), AV.renL σ vs = some vs' → AV.refsL p c vs = true → AV.refsL q d vs' = true
  | [], v', h, _ => by cases h; rfl
  | v :: vs, v', h, hv => by
    simp only [AV.renL] at h
    split at h
    · rename_i x y hx hy; cases h
      simp only [AV.refsL, Bool.and_eq_true] at hv ⊢
      exact ⟨ren_refs hσ v x hx hv.1, renL_refs hσ vs y hy hv.2⟩
    · cases h
end
theorem ren_one {v v' : AV} (h : v.ren σ = some v') (h1 : v.one = true) : v'.one = true := by
  cases v with
  | ptr a => cases a with
    | none => cases h; rfl
    | some a => simp only [AV.ren, Option.map_eq_some_iff] at h; obtain ⟨j, hj, rfl⟩ := h; rfl
  | sl a l c => cases a with
    | none => cases h; rfl
    | some a => simp only [AV.ren, Option.map_eq_some_iff] at h; obtain ⟨j, hj, rfl⟩ := h; rfl
  | map a => cases a with
    | none => cases h; rfl
    | some a => simp only [AV.ren, Option.map_eq_some_iff] at h; obtain ⟨j, hj, rfl⟩ := h; rfl
  | fn f a c =>
    simp only [AV.ren] at h
    split at h
    · cases h; rfl
    · cases h
  | ifc t v => simp only [AV.ren, Option.map_eq_some_iff] at h; obtain ⟨j, hj, rfl⟩ := h; rfl
  | slE k o i l s => simp only [AV.ren, Option.map_eq_some_iff] at h; obtain ⟨j, hj, rfl⟩ := h; rfl
  | agg _ => cases h1
  | tup _ => cases h1
  | any => cases h1
  | und => cases h1
  | _ => cases h; rfl
theorem renL_get : ∀ (vs vs' : List AV), AV.renL σ vs = some vs' → vs'.length = vs.length ∧ ∀ (i : Nat) (v' : AV), vs'[i]? = some v' → ∃ v, vs[i]? = some v ∧ v.ren σ = some v'
  | [], v', h => by cases h; exact ⟨rfl, fun i v h => by simp at h⟩
  | v :: vs, v', h => by
    simp only [AV.renL] at h
    split at h
    · rename_i x y hx hy; cases h
      obtain ⟨h1, h2⟩ := renL_get vs y hy
      refine ⟨by simp [h1], fun i u hu => ?_⟩
      cases i with
      | zero => simp only [List.getElem?_cons_zero, Option.some.injEq] at hu; subst hu; exact ⟨v, rfl, hx⟩
      | succ i => simp only [List.getElem?_cons_succ] at hu ⊢; exact h2 i u hu
    · cases h
theorem renL_ints {k : IntKind} : ∀ (vs : List AV), vs.all (isInt k) = true → AV.renL σ vs = some vs
  | [], _ => rfl
  | v :: vs, h => by
    simp only [List.all_cons, Bool.and_eq_true] at h
    obtain ⟨h1, h2⟩ := h
    cases v <;> first | cases h1 | skip
    simp only [AV.renL, AV.ren, renL_ints vs h2]
theorem renL_cells {cs cs' : List AV} (hσ : ∀ i j, σ i = some j → ρ' j = ρ i) (h : AV.renL σ cs = some cs') : cs'.map (AV.real ρ') = cs.map (AV.real ρ) := by
  have := renL_real hσ cs cs' h
  simpa using this
end
/-- A row with its numbers turned; what names a row that is left out is dead. -/
def renE (σ : Nat → Option Nat) : List (AV × AV) → Option (List (AV × AV))
  | [] => some []
  | e :: es => match AV.ren σ e.1, AV.ren σ e.2, renE σ es with
    | some k, some v, some es => some ((k, v) :: es)
    | _, _, _ => none
def renObj (σ : Nat → Option Nat) : AObj → AObj
  | .row t s cs => match AV.renL σ cs with | some cs => .row t s cs | none => .dead
  | .ro cs => match AV.renL σ cs with | some cs => .ro cs | none => .dead
  | .map es => match renE σ es with | some es => .map es | none => .dead
  | .hole => .hole
  | .dead => .dead
section
variable {σ : Nat → Option Nat} {ρ ρ' : Rho}
theorem renE_real (hσ : ∀ i j, σ i = some j → ρ' j = ρ i) : ∀ (es es' : List (AV × AV)), renE σ es = some es' → es'.map (fun e => (e.1.real ρ', e.2.real ρ')) = es.map (fun e => (e.1.real ρ, e.2.real ρ))
  | [], _, h => by cases h; rfl
  | e :: es, _, h => by
    simp only [renE] at h
    split at h
    · rename_i k v es' h1 h2 h3
      cases h
      simp only [List.map_cons, ren_real hσ _ _ h1, ren_real hσ _ _ h2, renE_real hσ es es' h3]
    · cases h
theorem renE_refs {p q : Nat → Bool} {c d : Nat → Nat} (hσ : ∀ i j, σ i = some j → p i = true → q j = true ∧ d j = c i) : ∀ (es es' : List (AV × AV)), renE σ es = some es' → es.all (fun e => e.1.refs p c && e.2.refs p c) = true → es'.all (fun e => e.1.refs q d && e.2.refs q d) = true
  | [], _, h, _ => by cases h; rfl
  | e :: es, _, h, hv => by
    simp only [renE] at h
    split at h
    · rename_i k v es' h1 h2 h3
      cases h
      simp only [List.all_cons, Bool.and_eq_true] at hv ⊢
      exact ⟨⟨ren_refs hσ _ _ h1 hv.1.1, ren_refs hσ _ _ h2 hv.1.2⟩, renE_refs hσ es es' h3 hv.2⟩
    · cases h
theorem renObj_rel {B : Fr} {w : World} {l : RL} (hσ : ∀ i j, σ i = some j → ρ' j = ρ i) {o : AObj} (h : ObjRel ρ B w l o) : ObjRel ρ' B w l (renObj σ o) := by
  cases o with
  | hole => trivial
  | dead => trivial
  | ro cs =>
    simp only [renObj]
    split
    · rename_i cs' hc
      obtain ⟨h1, h2⟩ := h
      refine ⟨h1, fun j v hv => ?_⟩
      obtain ⟨u, hu, hr⟩ := (renL_get _ _ hc).2 j v hv
      rw [h2 j u hu, ren_real hσ _ _ hr]
    · trivial
  | row t s cs =>
    simp only [renObj]
    split
    · rename_i cs' hc
      obtain ⟨h1, h2, arr, h3, h4, h5, h6, h7⟩ := h
      refine ⟨h1, h2, arr, h3, ?_, h5, h6, fun v hv => ?_⟩
      · rw [(renL_get _ _ hc).1, h4, renL_cells hσ hc]
      · obtain ⟨i, hi⟩ := List.getElem?_of_mem hv
        obtain ⟨u, hu, hr⟩ := (renL_get _ _ hc).2 i v hi
        exact ren_one hr (h7 u (List.mem_of_getElem? hu))
    · trivial
  | map es =>
    simp only [renObj]
    split
    · rename_i es' hc
      obtain ⟨h1, ents, clock, h2, h3⟩ := h
      exact ⟨h1, ents, clock, h2, by rw [h3, renE_real hσ _ _ hc]⟩
    · trivial
theorem renObj_refs {p q : Nat → Bool} {c d : Nat → Nat} (hσ : ∀ i j, σ i = some j → p i = true → q j = true ∧ d j = c i) {o : AObj} (h : o.refs p c = true) : (renObj σ o).refs q d = true := by
  have cells : ∀ cs cs' : List AV, AV.renL σ cs = some cs' → cs.all (AV.refs p c) = true → cs'.all (AV.refs q d) = true := fun cs cs' h1 h2 => by
    rw [← refsL_eq] at h2 ⊢
    exact renL_refs hσ cs cs' h1 h2
  cases o with
  | hole => rfl
  | dead => rfl
  | ro cs =>
    simp only [renObj]
    split
    · rename_i cs' hc; exact cells _ _ hc h
    · rfl
  | row t s cs =>
    simp only [renObj]
    split
    · rename_i cs' hc; exact cells _ _ hc h
    · rfl
  | map es =>
    simp only [renObj]
    split
    · rename_i es' hc; exact renE_refs hσ _ _ hc h
    · rfl
theorem renObj_own {o : AObj} (h : (renObj σ o).own = true) : o.own = true := by
  cases o with
  | hole => cases h
  | dead => cases h
  | ro cs => simp only [renObj] at h; split at h <;> cases h
  | row t s cs => rfl
  | map es => rfl
theorem renObj_ro {o : AObj} {cs : List AV} (h : renObj σ o = .ro cs) : ∃ cs', o = .ro cs' := by
  cases o with
  | hole => cases h
  | dead => cases h
  | ro cs => exact ⟨cs, rfl⟩
  | row t s cs => simp only [renObj] at h; split at h <;> cases h
  | map es => simp only [renObj] at h; split at h <;> cases h
theorem renObj_there {o : AObj} (h : o.there = true) : (renObj σ o).there = true := by
  cases o with
  | hole => cases h
  | dead => rfl
  | ro cs => simp only [renObj]; split <;> rfl
  | row t s cs => simp only [renObj]; split <;> rfl
  | map es => simp only [renObj]; split <;> rfl
end
/-- What is left out at a region's head: temporaries, and of the rows from b on all but these. -/
inductive Keep where
  | all
  | rows (ks : List Nat)
  | auto
structure Tidy where
  drop : List Nat
  keep : Keep
mutual
/-- The blocks that a value names. -/
def AV.names : AV → List Nat
  | .ptr (some (k, _)) => [k]
  | .sl (some (k, _)) _ _ => [k]
  | .agg cs => AV.namesL cs
  | .tup cs => AV.namesL cs
  | .fn _ a c => AV.namesL a ++ AV.namesL c
  | .map (some k) => [k]
  | .ifc _ v => AV.names v
  | .slE k _ _ _ _ => [k]
  | _ => []
def AV.namesL : List AV → List Nat
  | [] => []
  | v :: vs => AV.names v ++ AV.namesL vs
end
def AObj.names : AObj → List Nat
  | .row _ _ cs => AV.namesL cs
  | .ro cs => AV.namesL cs
  | .map es => es.flatMap fun e => e.1.names ++ e.2.names
  | _ => []
theorem namesL_ints {k : IntKind} : ∀ (vs : List AV), vs.all (isInt k) = true → AV.namesL vs = []
  | [], _ => rfl
  | v :: vs, h => by
    simp only [List.all_cons, Bool.and_eq_true] at h
    obtain ⟨h1, h2⟩ := h
    cases v <;> first | cases h1 | skip
    simp only [AV.namesL, AV.names, namesL_ints vs h2, List.nil_append]
/-- The rows from b on that something names. -/
def autoK (b : Nat) (st : St) : List Nat := (List.range (st.2.length - b)).filter fun i => st.1.any (fun v => v.names.contains (b + i)) || (List.range st.2.length).any (fun j => (st.2.getD j .dead).names.contains (b + i))
def sigma (b : Nat) (ks : List Nat) (i : Nat) : Option Nat := if i < b then some i else (ks.idxOf? (i - b)).map (b + ·)
def sweep (b : Nat) (ks : List Nat) (st : St) : St :=
  if decide (b ≤ st.2.length) && decide ks.Nodup then
    (st.1.map (fun v => (v.ren (sigma b ks)).getD .any), (st.2.take b).map (renObj (sigma b ks)) ++ ks.map fun k => renObj (sigma b ks) (st.2.getD (b + k) .dead))
  else st
def tidy (b : Nat) (t : Tidy) (st : St) : St := match t.keep with
  | .all => forget t.drop st
  | .rows ks => sweep b ks (forget t.drop st)
  | .auto => sweep b (autoK b (forget t.drop st)) (forget t.drop st)
theorem idxOf?_spec : ∀ (ks : List Nat) (x m : Nat), ks.idxOf? x = some m → ks[m]? = some x
  | [], x, m, h => by simp at h
  | k :: ks, x, m, h => by
    rw [List.idxOf?_cons] at h
    split at h
    · rename_i hk
      cases h
      simpa using hk
    · simp only [Option.map_eq_some_iff] at h
      obtain ⟨m', h1, rfl⟩ := h
      simpa using idxOf?_spec ks x m' h1
theorem rel_sweep {B : Fr} {w0 : World} {ρ0 : Rho} {h0 : AHeap} {st : St} {a : Act} {w : World} {b : Nat} (hb : h0.length ≤ b) (ks : List Nat) (hR : Rel B w0 ρ0 h0 st a w) : Rel B w0 ρ0 h0 (sweep b ks st) a w := by
  unfold sweep
  split
  · rename_i hc
    simp only [Bool.and_eq_true, decide_eq_true_eq] at hc
    obtain ⟨hlen, hnd⟩ := hc
    obtain ⟨ρ, hI, hF, hok, hd, hb'⟩ := hR
    obtain ⟨src, hsrc⟩ : ∃ src : Nat → Nat, src = fun i => if i < b then i else b + ks.getD (i - b) 0 := ⟨_, rfl⟩
    obtain ⟨ρ', hρ⟩ : ∃ ρ' : Rho, ρ' = fun i => ρ (src i) := ⟨_, rfl⟩
    have hs1 : ∀ i j, sigma b ks i = some j → src j = i := fun i j h => by
      unfold sigma at h
      split at h
      · rename_i hlt; cases h; rw [hsrc]; simp only [hlt, if_true]
      · rename_i hge
        simp only [Option.map_eq_some_iff] at h
        obtain ⟨m, h1, rfl⟩ := h
        have := idxOf?_spec ks _ _ h1
        rw [hsrc]
        simp only [show ¬ b + m < b by omega, if_false, show b + m - b = m by omega]
        rw [List.getD_eq_getElem?_getD, this]
        simp only [Option.getD_some]
        omega
    have hσ : ∀ i j, sigma b ks i = some j → ρ' j = ρ i := fun i j h => by rw [hρ]; simp only [hs1 i j h]
    obtain ⟨h', hh⟩ : ∃ h', h' = (st.2.take b).map (renObj (sigma b ks)) ++ ks.map fun k => renObj (sigma b ks) (st.2.getD (b + k) .dead) := ⟨_, rfl⟩
    have hat : ∀ k o, h'[k]? = some o → (∃ o', st.2[src k]? = some o' ∧ o = renObj (sigma b ks) o') ∨ o = .dead := fun k o ho => by
      rw [hh] at ho
      have hl1 : ((st.2.take b).map (renObj (sigma b ks))).length = b := by simp; omega
      rcases Nat.lt_or_ge k b with q | q
      · rw [List.getElem?_append_left (by rw [hl1]; exact q)] at ho
        simp only [List.getElem?_map, Option.map_eq_some_iff] at ho
        obtain ⟨o', h1, rfl⟩ := ho
        rw [List.getElem?_take_of_lt q] at h1
        refine .inl ⟨o', ?_, rfl⟩
        rw [hsrc]; simp only [q, if_true]; exact h1
      · rw [List.getElem?_append_right (by rw [hl1]; exact q), hl1] at ho
        simp only [List.getElem?_map, Option.map_eq_some_iff] at ho
        obtain ⟨m, h1, rfl⟩ := ho
        have hs : src k = b + m := by
          rw [hsrc]; simp only [show ¬ k < b by omega, if_false]
          rw [List.getD_eq_getElem?_getD, h1]; rfl
        cases h2 : st.2[b + m]? with
        | none => right; rw [List.getD_eq_getElem?_getD, h2]; rfl
        | some o' => left; exact ⟨o', by rw [hs, h2], by rw [List.getD_eq_getElem?_getD, h2]; rfl⟩
    have hinj : ∀ k k' o o', h'[k]? = some o → h'[k']? = some o' → k ≠ k' → src k ≠ src k' := fun k k' o o' ho ho' hne he => by
      have hl : h'.length = b + ks.length := by rw [hh]; simp; omega
      have hk : k < b + ks.length := by
        rcases Nat.lt_or_ge k h'.length with q | q
        · omega
        · simp [List.getElem?_eq_none q] at ho
      have hk' : k' < b + ks.length := by
        rcases Nat.lt_or_ge k' h'.length with q | q
        · omega
        · simp [List.getElem?_eq_none q] at ho'
      rw [hsrc] at he
      simp only at he
      split at he
      · split at he
        · exact hne he
        · omega
      · split at he
        · omega
        · rename_i q1 q2
          have e1 : ks.getD (k - b) 0 = ks[k - b]'(by omega) := by rw [List.getD_eq_getElem?_getD, List.getElem?_eq_getElem (by omega)]; rfl
          have e2 : ks.getD (k' - b) 0 = ks[k' - b]'(by omega) := by rw [List.getD_eq_getElem?_getD, List.getElem?_eq_getElem (by omega)]; rfl
          have := (List.getElem_inj hnd).1 (show ks[k - b]'(by omega) = ks[k' - b]'(by omega) by omega)
          omega
    have hlv : ∀ i j, sigma b ks i = some j → live st.2 i = true → live h' j = true := fun i j h hl => by
      have hl1 : ((st.2.take b).map (renObj (sigma b ks))).length = b := by simp; omega
      obtain ⟨o, ho, ht⟩ : ∃ o, st.2[i]? = some o ∧ o.there = true := by
        unfold live at hl
        split at hl
        · rename_i o ho; exact ⟨o, ho, hl⟩
        · cases hl
      unfold sigma at h
      split at h
      · rename_i hlt
        cases h
        have : h'[i]? = some (renObj (sigma b ks) o) := by
          rw [hh, List.getElem?_append_left (by rw [hl1]; exact hlt), List.getElem?_map, List.getElem?_take_of_lt hlt, ho]; rfl
        simp only [live, this]
        exact renObj_there ht
      · rename_i hge
        simp only [Option.map_eq_some_iff] at h
        obtain ⟨m, h1, rfl⟩ := h
        have h2 := idxOf?_spec ks _ _ h1
        have : h'[b + m]? = some (renObj (sigma b ks) o) := by
          rw [hh, List.getElem?_append_right (by rw [hl1]; omega), hl1, show b + m - b = m by omega, List.getElem?_map, h2]
          simp only [Option.map_some]
          rw [List.getD_eq_getElem?_getD, show b + (i - b) = i by omega, ho]
          rfl
        simp only [live, this]
        exact renObj_there ht
    have hrf : ∀ i j, sigma b ks i = some j → live st.2 i = true → live h' j = true ∧ (fun k => (ρ' k).cap) j = (fun k => (ρ k).cap) i := fun i j h hl => ⟨hlv i j h hl, by simp only [hσ i j h]⟩
    refine ⟨ρ', ?_, ?_, ?_, hd, ?_⟩
    · show Inv ρ' B w0 ((st.2.take b).map (renObj (sigma b ks)) ++ ks.map fun k => renObj (sigma b ks) (st.2.getD (b + k) .dead)) w
      rw [← hh]
      refine ⟨hI.below, hI.size, fun k o ho => ?_, fun k k' o o' ho ho' h1 h2 hne => ?_, fun k k' o cs ho ho' h1 => ?_, fun k o ho => ?_⟩
      · rcases hat k o ho with ⟨o', h1, rfl⟩ | rfl
        · have := hI.obj _ _ h1
          have e : ρ' k = ρ (src k) := by rw [hρ]
          rw [e]
          exact renObj_rel hσ this
        · trivial
      · rcases hat k o ho with ⟨u, hu, rfl⟩ | rfl
        · rcases hat k' o' ho' with ⟨u', hu', rfl⟩ | rfl
          · have := hI.sep _ _ u u' hu hu' (renObj_own h1) (renObj_own h2) (hinj k k' _ _ ho ho' hne)
            rw [hρ]; exact this
          · cases h2
        · cases h1
      · rcases hat k o ho with ⟨u, hu, rfl⟩ | rfl
        · rcases hat k' _ ho' with ⟨u', hu', hr⟩ | hr
          · obtain ⟨cs', rfl⟩ := renObj_ro hr.symm
            have := hI.sepr _ _ u cs' hu hu' (renObj_own h1)
            rw [hρ]; exact this
          · cases hr
        · cases h1
      · rcases hat k o ho with ⟨u, hu, rfl⟩ | rfl
        · exact renObj_refs hrf (hI.wf _ _ hu)
        · rfl
    · refine ⟨by simp [hF.1], fun i v hv hne => ?_⟩
      simp only [List.getElem?_map, Option.map_eq_some_iff] at hv
      obtain ⟨u, hu, rfl⟩ := hv
      cases hr : u.ren (sigma b ks) with
      | none => rw [hr] at hne; exact absurd rfl hne
      | some u' =>
        simp only [Option.getD_some]
        rw [ren_real hσ _ _ hr]
        refine hF.2 i u hu fun h => ?_
        subst h
        simp only [AV.ren, Option.some.injEq] at hr
        subst hr
        simp [AV.ren] at hne
    · intro v hv
      simp only [List.mem_map] at hv
      obtain ⟨u, hu, rfl⟩ := hv
      show AV.refs (live ((st.2.take b).map (renObj (sigma b ks)) ++ ks.map fun k => renObj (sigma b ks) (st.2.getD (b + k) .dead))) (fun k => (ρ' k).cap) _ = true
      rw [← hh]
      cases hr : u.ren (sigma b ks) with
      | none => rfl
      | some u' => exact ren_refs hrf _ _ hr (hok u hu)
    · intro i hi
      have hlt : i < h0.length := by
        rcases Nat.lt_or_ge i h0.length with q | q
        · exact q
        · simp [live, List.getElem?_eq_none q] at hi
      have hs : sigma b ks i = some i := by unfold sigma; rw [if_pos (by omega)]
      obtain ⟨h1, h2⟩ := hb' i hi
      show live ((st.2.take b).map (renObj (sigma b ks)) ++ ks.map fun k => renObj (sigma b ks) (st.2.getD (b + k) .dead)) i = true ∧ _
      rw [← hh]
      exact ⟨hlv i i hs h1, by rw [hσ i i hs, h2]⟩
  · exact hR
theorem rel_tidy {B : Fr} {w0 : World} {ρ0 : Rho} {h0 : AHeap} {st : St} {a : Act} {w : World} {b : Nat} (hb : h0.length ≤ b) (t : Tidy) (hR : Rel B w0 ρ0 h0 st a w) : Rel B w0 ρ0 h0 (tidy b t st) a w := by
  unfold tidy
  split
  · exact rel_forget _ hR
  · exact rel_sweep hb _ (rel_forget _ hR)
  · exact rel_sweep hb _ (rel_forget _ hR)
section
variable (P : Program) (S : Specs)
def evg (b0 : Nat) (F : Nat → Tidy) : Nat → Code ⊕ (Code × Code) → St → Option (AExit × St)
  | 0, _, _ => none
  | n + 1, .inl c, st => match c with
    | .skip => some (.normal, st)
    | .label _ => some (.normal, st)
    | .region id ops draw => (evalRegion P S ops draw (tidy b0 (F id) st)).map (.normal, ·)
    | .seq a b => match evg b0 F n (.inl a) st with
      | some (.normal, st') => evg b0 F n (.inl b) st'
      | r => r
    | .cond c x y => match evalOperand st.1 c with
      | some (.bool b) => evg b0 F n (.inl (if b then x else y)) st
      | _ => none
    | .block id body => match evg b0 F n (.inl body) st with
      | some (.exit id', st') => if id' = id then some (.normal, st') else some (.exit id', st')
      | r => r
    | .loop body => match evg b0 F n (.inl body) st with
      | some (.normal, st') => evg b0 F n (.inl (.loop body)) st'
      | r => r
    | .exit id => some (.exit id, st)
    | .goto l => some (.goto l, st)
    | .scope body => evg b0 F n (.inr (body, body)) st
    | .ret => some (.ret, st)
    | _ => none
  | n + 1, .inr (c, rest), st => match evg b0 F n (.inl rest) st with
    | some (.goto l, st') => match findLabel c l with
      | some r' => evg b0 F n (.inr (c, r')) st'
      | none => some (.goto l, st')
    | r => r
def evalBodyg (F : Nat → Tidy) (n : Nat) (fn : Func) (args : List AV) (h : AHeap) : Option (AV × AHeap) :=
  match fn.body with
  | none => none
  | some c => match evg P S h.length F n (.inl c) (args ++ List.replicate (fn.ntmps - args.length) .any, h) with
    | some (.normal, st) => (resultsA P fn st).map (·, st.2)
    | some (.ret, st) => (resultsA P fn st).map (·, st.2)
    | _ => none
end
section
variable {P : Program} {S : Specs} {B : Fr} {w0 : World} {ρ0 : Rho} {h0 : AHeap}
theorem loop_roundsg {b0 : Nat} (F : Nat → Tidy) {body : Code} : ∀ (m : Nat), (∀ k < m, ∀ (st : St) (e : AExit) (st' : St), evg P S b0 F k (.inl body) st = some (e, st') → CodeSound P B w0 ρ0 h0 (.inl body) st e st') →
    ∀ (st : St) (e : AExit) (st' : St), evg P S b0 F m (.inl (.loop body)) st = some (e, st') → ∀ a w, Rel B w0 ρ0 h0 st a w →
      Code.rounds P body (fun ex a' w' => ex = e.real ∧ Rel B w0 ρ0 h0 st' a' w') m a w
  | 0, _, _, _, _, he => by simp [evg] at he
  | m + 1, hb, st, e, st', he => by
    intro a w hR
    simp only [evg] at he
    cases h1 : evg P S b0 F m (.inl body) st with
    | none => rw [h1] at he; cases he
    | some r =>
      obtain ⟨e1, st1⟩ := r
      have hx := hb m (Nat.lt_succ_self m) _ _ _ h1 a w hR
      rw [h1] at he
      rw [rounds_succ]
      refine wp_mono hx fun ex a' w' ⟨hex, hR'⟩ => ?_
      subst hex
      cases e1 with
      | normal => exact loop_roundsg F m (fun k hk => hb k (by omega)) st1 e st' he a' w' hR'
      | _ => simp only [Option.some.injEq, Prod.mk.injEq] at he; obtain ⟨rfl, rfl⟩ := he; exact ⟨rfl, hR'⟩
theorem evg_sound {b0 : Nat} (hb : h0.length ≤ b0) (hm : P.follows .mixedOrders = true) (hS : S.OK P) (F : Nat → Tidy) : ∀ (n : Nat) (x : Code ⊕ (Code × Code)) (st : St) (e : AExit) (st' : St), evg P S b0 F n x st = some (e, st') → CodeSound P B w0 ρ0 h0 x st e st' := by
  intro n
  induction n using Nat.strongRecOn with
  | _ n IHs =>
  intro x st e st' he
  match n, x, he, IHs with
  | 0, _, he, _ => simp [evg] at he
  | n + 1, .inl c, he, IHs =>
    have IH := IHs n (Nat.lt_succ_self n)
    cases c with
    | skip => simp only [evg, Option.some.injEq, Prod.mk.injEq] at he; obtain ⟨rfl, rfl⟩ := he; exact fun a w hR => wp_skip ⟨rfl, hR⟩
    | label l => simp only [evg, Option.some.injEq, Prod.mk.injEq] at he; obtain ⟨rfl, rfl⟩ := he; exact fun a w hR => wp_label ⟨rfl, hR⟩
    | region id ops draw =>
      simp only [evg, Option.map_eq_some_iff, Prod.mk.injEq] at he
      obtain ⟨st1, h1, rfl, rfl⟩ := he
      exact fun a w hR => region_sound hm hS h1 (rel_tidy hb _ hR) (fun a' w' hR' => ⟨rfl, hR'⟩)
    | seq x y =>
      intro a w hR
      simp only [evg] at he
      refine wp_seq ?_
      cases h1 : evg P S b0 F n (.inl x) st with
      | none => rw [h1] at he; cases he
      | some r =>
        obtain ⟨e1, st1⟩ := r
        have hx := IH _ _ _ _ h1 a w hR
        rw [h1] at he
        refine wp_mono hx fun ex a' w' ⟨hex, hR'⟩ => ?_
        subst hex
        cases e1 with
        | normal => exact IH _ _ _ _ he a' w' hR'
        | _ => simp only [Option.some.injEq, Prod.mk.injEq] at he; obtain ⟨rfl, rfl⟩ := he; exact ⟨rfl, hR'⟩
    | cond c x y =>
      intro a w hR
      simp only [evg] at he
      split at he
      · rename_i b hb
        obtain ⟨ρ, hI, hF, _⟩ := id hR
        have hc := operand_sound hF hb
        exact wp_cond (t := b) hc (IH _ _ _ _ he a w hR)
      · cases he
    | block id body =>
      intro a w hR
      simp only [evg] at he
      refine wp_block ?_
      cases h1 : evg P S b0 F n (.inl body) st with
      | none => rw [h1] at he; cases he
      | some r =>
        obtain ⟨e1, st1⟩ := r
        have hx := IH _ _ _ _ h1 a w hR
        rw [h1] at he
        refine wp_mono hx fun ex a' w' ⟨hex, hR'⟩ => ?_
        subst hex
        cases e1 with
        | exit id' =>
          simp only [AExit.real, Exit.inBlock]
          simp only at he
          split at he
          · rename_i hid
            simp only [Option.some.injEq, Prod.mk.injEq] at he
            obtain ⟨rfl, rfl⟩ := he
            rw [if_pos hid]; exact ⟨rfl, hR'⟩
          · rename_i hid
            simp only [Option.some.injEq, Prod.mk.injEq] at he
            obtain ⟨rfl, rfl⟩ := he
            rw [if_neg hid]; exact ⟨rfl, hR'⟩
        | _ => simp only [Option.some.injEq, Prod.mk.injEq] at he; obtain ⟨rfl, rfl⟩ := he; exact ⟨rfl, hR'⟩
    | loop body =>
      intro a w hR
      exact wp_loop_rounds (n + 1) (loop_roundsg F (n + 1) (fun k hk st e st' h => IHs k hk _ st e st' h) st e st' he a w hR)
    | exit id => simp only [evg, Option.some.injEq, Prod.mk.injEq] at he; obtain ⟨rfl, rfl⟩ := he; exact fun a w hR => wp_exit ⟨rfl, hR⟩
    | goto l => simp only [evg, Option.some.injEq, Prod.mk.injEq] at he; obtain ⟨rfl, rfl⟩ := he; exact fun a w hR => wp_goto ⟨rfl, hR⟩
    | scope body =>
      intro a w hR b k cs
      simp only [evg] at he
      obtain ⟨a', w', hR', harr⟩ := IH _ _ _ _ he a w hR b k cs
      exact ⟨_, a', w', ⟨rfl, hR'⟩, .of_steps (.one step_scope) harr⟩
    | ret => simp only [evg, Option.some.injEq, Prod.mk.injEq] at he; obtain ⟨rfl, rfl⟩ := he; exact fun a w hR => wp_ret ⟨rfl, hR⟩
    | rangeFunc f ps as body => simp [evg] at he
    | refuse why => simp [evg] at he
  | n + 1, .inr (c, rest), he, IHs =>
    have IH := IHs n (Nat.lt_succ_self n)
    intro a w hR b k cs
    simp only [evg] at he
    cases h1 : evg P S b0 F n (.inl rest) st with
    | none => rw [h1] at he; cases he
    | some r =>
      obtain ⟨e1, st1⟩ := r
      have hx := IH _ _ _ _ h1 a w hR
      rw [h1] at he
      obtain ⟨ex, a1, w1, ⟨hex, hR1⟩, harr⟩ := hx b (.inScope c :: k) cs
      subst hex
      cases e1 with
      | normal =>
        simp only [Option.some.injEq, Prod.mk.injEq] at he; obtain ⟨rfl, rfl⟩ := he
        exact ⟨a1, w1, hR1, Steps.trans harr (.one step_inScope)⟩
      | exit id =>
        simp only [Option.some.injEq, Prod.mk.injEq] at he; obtain ⟨rfl, rfl⟩ := he
        exact ⟨a1, w1, hR1, fun k' hk => harr k' (by simp [exitTo, hk])⟩
      | goto l =>
        simp only at he
        cases hf : findLabel c l with
        | none =>
          rw [hf] at he
          simp only [Option.some.injEq, Prod.mk.injEq] at he; obtain ⟨rfl, rfl⟩ := he
          exact ⟨a1, w1, hR1, fun k' hk => harr k' (by simp [gotoIn, hf, hk])⟩
        | some r' =>
          rw [hf] at he
          obtain ⟨a2, w2, hR2, harr2⟩ := IH _ _ _ _ he a1 w1 hR1 b k cs
          exact ⟨a2, w2, hR2, .of_steps (harr _ (by simp [gotoIn, hf])) harr2⟩
      | ret =>
        simp only [Option.some.injEq, Prod.mk.injEq] at he; obtain ⟨rfl, rfl⟩ := he
        exact ⟨a1, w1, hR1, harr⟩
theorem body_soundg (hm : P.follows .mixedOrders = true) (hS : S.OK P) {F : Nat → Tidy} {n : Nat} {f : FuncId} {fn : Func} (hf : P.funcs[f]? = some fn) {args : List AV} {h h' : AHeap} {v : AV}
    (he : evalBodyg P S F n fn args h = some (v, h')) {ρ : Rho} {w : World} (hI : Inv ρ B w0 h w) (hok : ∀ x ∈ args, AV.ok h ρ x) :
    Calls P f (args.map (AV.real ρ)).toArray w fun e w' => ∃ ρ', e = .returned (v.real ρ') ∧ Inv ρ' B w0 h' w' ∧ (∀ i, live h i = true → live h' i = true ∧ ρ' i = ρ i) ∧ v.ok h' ρ' := by
  unfold evalBodyg at he
  cases hb : fn.body with
  | none => simp [hb] at he
  | some c =>
    rw [hb] at he
    simp only at he
    refine calls_of_wp hf hb ?_
    have hR : Rel B w0 ρ h (args ++ List.replicate (fn.ntmps - args.length) .any, h) { tmps := (args.map (AV.real ρ)).toArray ++ Array.replicate (fn.ntmps - (args.map (AV.real ρ)).toArray.size) undef, defers := [] } w := by
      refine ⟨ρ, hI, ⟨by simp, fun i u hi hu => ?_⟩, fun u hu => ?_, rfl, fun i hi => ⟨hi, rfl⟩⟩
      · rcases Nat.lt_or_ge i args.length with q | q
        · simp only [List.getElem?_append_left q] at hi
          rw [Array.getElem?_append_left (by simpa using q)]
          simp [hi]
        · simp only [List.getElem?_append_right q] at hi
          exact absurd (List.eq_of_mem_replicate (List.mem_of_getElem? hi)) hu
      · rcases List.mem_append.1 hu with hu | hu
        · exact hok u hu
        · rw [List.eq_of_mem_replicate hu]; rfl
    cases h1 : evg P S h.length F n (.inl c) (args ++ List.replicate (fn.ntmps - args.length) .any, h) with
    | none => rw [h1] at he; cases he
    | some r =>
      obtain ⟨e, st⟩ := r
      rw [h1] at he
      have h2 := evg_sound (B := B) (w0 := w0) (ρ0 := ρ) (h0 := h) (Nat.le_refl _) hm hS F n _ _ _ _ h1 _ w hR
      refine wp_mono h2 fun ex a' w' ⟨hex, hR'⟩ => ?_
      subst hex
      obtain ⟨ρ', hI', hF', hok', hd', hb'⟩ := hR'
      have fin : resultsA P fn st = some v → h' = st.2 → a'.defers = [] ∧ ∃ u, (results fn a'.tmps).run P w' = .ok u w' ∧ ∃ ρ'', Ending.returned u = .returned (v.real ρ'') ∧ Inv ρ'' B w0 h' w' ∧ (∀ i, live h i = true → live h' i = true ∧ ρ'' i = ρ i) ∧ v.ok h' ρ'' := by
        intro h3 h4
        subst h4
        obtain ⟨h5, h6⟩ := results_sound (P := P) hI' hF' hok' h3
        exact ⟨hd', _, h5, ρ', rfl, hI', hb', h6⟩
      cases e with
      | normal => simp only [Option.map_eq_some_iff, Prod.mk.injEq] at he; obtain ⟨u, h3, rfl, h4⟩ := he; exact fin h3 h4.symm
      | ret => simp only [Option.map_eq_some_iff, Prod.mk.injEq] at he; obtain ⟨u, h3, rfl, h4⟩ := he; exact fin h3 h4.symm
      | exit id => cases he
      | goto l => cases he
theorem full_of_bodyg (hm : P.follows .mixedOrders = true) (hS : S.OK P) {f : FuncId} {fn : Func} (hf : HasText P f fn) {s : List AV → AHeap → Option (AV × AHeap)}
    (hs : ∀ args h v h', s args h = some (v, h') → ∃ F n, evalBodyg P S F n fn args h = some (v, h')) : FullOK P f s := by
  refine ⟨fun args h v h' hv ρ B w0 w hI hok => ?_, fn, hf.1, hf.2.1, hf.2.2⟩
  obtain ⟨F, n, he⟩ := hs args h v h' hv
  exact body_soundg hm hS hf.1 he hI hok
end
section
variable (P : Program) (S : Specs)
def evG (b0 : Nat) (F : Nat → Tidy) : Nat → PC ⊕ (PC × PC) → St → Option (AExit × St)
  | 0, _, _ => none
  | n + 1, .inl c, st => match c with
    | .skip => some (.normal, st)
    | .label _ => some (.normal, st)
    | .ops id na l => (evalOpsR P S (tidy b0 (F id) st).2.length l (withHoles na (tidy b0 (F id) st))).map (.normal, ·)
    | .ops2 id na ls l r => ((evalHeadR P S ls 0 (tidy b0 (F id) st).2.length l (withHoles na (tidy b0 (F id) st), List.replicate (l.length + r.length) none)).bind fun x => evalOpsR P S ((tidy b0 (F id) st).2.length + (l.filter (·.ri.isAlloc)).length) r x.1).map (.normal, ·)
    | .seq a b => match evG b0 F n (.inl a) st with
      | some (.normal, st') => evG b0 F n (.inl b) st'
      | r => r
    | .cond c x y => match evalOperand st.1 c with
      | some (.bool b) => evG b0 F n (.inl (if b then x else y)) st
      | _ => none
    | .block id body => match evG b0 F n (.inl body) st with
      | some (.exit id', st') => if id' = id then some (.normal, st') else some (.exit id', st')
      | r => r
    | .loop body => match evG b0 F n (.inl body) st with
      | some (.normal, st') => evG b0 F n (.inl (.loop body)) st'
      | r => r
    | .exit id => some (.exit id, st)
    | .goto l => some (.goto l, st)
    | .scope body => evG b0 F n (.inr (body, body)) st
    | .ret => some (.ret, st)
  | n + 1, .inr (c, rest), st => match evG b0 F n (.inl rest) st with
    | some (.goto l, st') => match findP c l with
      | some r' => evG b0 F n (.inr (c, r')) st'
      | none => some (.goto l, st')
    | r => r
end
section
variable {P : Program} {S : Specs} {Q : FuncId → Bool}
theorem code_resolvedg {b0 : Nat} (hQ : ∀ g, (S.q g).isSome = Q g) (F : Nat → Tidy) : ∀ (n : Nat),
    (∀ (c : Code) (pc : PC) (st : St) (r : AExit × St), comp P Q c = some pc → evG P S b0 F n (.inl pc) st = some r → evg P S b0 F n (.inl c) st = some r) ∧
    (∀ (c rest : Code) (pc pr : PC) (st : St) (r : AExit × St), comp P Q c = some pc → comp P Q rest = some pr → evG P S b0 F n (.inr (pc, pr)) st = some r → evg P S b0 F n (.inr (c, rest)) st = some r)
  | 0 => ⟨fun _ _ _ _ _ he => by simp [evG] at he, fun _ _ _ _ _ _ _ _ he => by simp [evG] at he⟩
  | n + 1 => by
    obtain ⟨IH, IH2⟩ := code_resolvedg hQ F n
    refine ⟨fun c pc st r hc he => ?_, fun c rest pc pr st r hc hr he => ?_⟩
    · cases c with
      | skip => simp only [comp, Option.some.injEq] at hc; subst hc; exact he
      | label l => simp only [comp, Option.some.injEq] at hc; subst hc; exact he
      | exit l => simp only [comp, Option.some.injEq] at hc; subst hc; exact he
      | goto l => simp only [comp, Option.some.injEq] at hc; subst hc; exact he
      | ret => simp only [comp, Option.some.injEq] at hc; subst hc; exact he
      | region id ops draw =>
        simp only [comp] at hc
        split at hc
        · rename_i hdr
          simp only [Bool.and_eq_true] at hdr
          obtain ⟨rfl, -⟩ := hdr
          split at hc
          · rename_i hd
            simp only [Option.map_eq_some_iff] at hc
            obtain ⟨pl, hpl, rfl⟩ := hc
            simp only [evG, Option.map_eq_some_iff] at he
            obtain ⟨st1, h1, rfl⟩ := he
            simp only [evg, Option.map_eq_some_iff]
            exact ⟨st1, region2_resolved hQ hd hpl rfl h1, rfl⟩
          · cases hc
        · rename_i hdr
          split at hc
          · rename_i hd
            simp only [Option.map_eq_some_iff] at hc
            obtain ⟨pl, hpl, rfl⟩ := hc
            simp only [evG, Option.map_eq_some_iff] at he
            obtain ⟨st1, h1, rfl⟩ := he
            simp only [evg, Option.map_eq_some_iff]
            refine ⟨st1, region_resolved hQ (fun hdw => ?_) hd hpl ?_, rfl⟩
            · simp only [hdw, Bool.true_and, Bool.or_eq_true, decide_eq_true_eq, not_or, Bool.not_eq_true', Bool.not_eq_false, List.isEmpty_iff] at hdr; exact ⟨by omega, hdr.2⟩
            · exact h1
          · cases hc
      | seq a b =>
        simp only [comp, Option.bind_eq_some_iff, Option.map_eq_some_iff] at hc
        obtain ⟨pa, ha, pb, hb, rfl⟩ := hc
        simp only [evG] at he
        simp only [evg]
        cases h1 : evG P S b0 F n (.inl pa) st with
        | none => rw [h1] at he; cases he
        | some q =>
          obtain ⟨e1, st1⟩ := q
          rw [IH a pa st _ ha h1]
          rw [h1] at he
          cases e1 with
          | normal => exact IH b pb st1 r hb he
          | _ => exact he
      | cond q a b =>
        simp only [comp, Option.bind_eq_some_iff, Option.map_eq_some_iff] at hc
        obtain ⟨pa, ha, pb, hb, rfl⟩ := hc
        simp only [evG] at he
        simp only [evg]
        split at he
        · rename_i t ht
          try rw [ht]
          cases t with
          | true => exact IH a pa st r ha he
          | false => exact IH b pb st r hb he
        · cases he
      | block id a =>
        simp only [comp, Option.map_eq_some_iff] at hc
        obtain ⟨pa, ha, rfl⟩ := hc
        simp only [evG] at he
        simp only [evg]
        cases h1 : evG P S b0 F n (.inl pa) st with
        | none => rw [h1] at he; cases he
        | some q =>
          obtain ⟨e1, st1⟩ := q
          rw [IH a pa st _ ha h1]
          rw [h1] at he
          exact he
      | loop a =>
        simp only [comp, Option.map_eq_some_iff] at hc
        obtain ⟨pa, ha, rfl⟩ := hc
        simp only [evG] at he
        simp only [evg]
        cases h1 : evG P S b0 F n (.inl pa) st with
        | none => rw [h1] at he; cases he
        | some q =>
          obtain ⟨e1, st1⟩ := q
          rw [IH a pa st _ ha h1]
          rw [h1] at he
          cases e1 with
          | normal => exact IH (.loop a) (.loop pa) st1 r (by simp [comp, ha]) he
          | _ => exact he
      | scope a =>
        simp only [comp, Option.map_eq_some_iff] at hc
        obtain ⟨pa, ha, rfl⟩ := hc
        simp only [evG] at he
        simp only [evg]
        exact IH2 a a pa pa st r ha ha he
      | rangeFunc _ _ _ _ => simp [comp] at hc
      | refuse _ => simp [comp] at hc
    · simp only [evG] at he
      simp only [evg]
      cases h1 : evG P S b0 F n (.inl pr) st with
      | none => rw [h1] at he; cases he
      | some q =>
        obtain ⟨e1, st1⟩ := q
        rw [IH rest pr st _ hr h1]
        rw [h1] at he
        cases e1 with
        | goto l =>
          simp only at he ⊢
          have hf := find_resolved c pc hc l
          cases hl : findLabel c l with
          | some r' =>
            rw [hl] at hf
            obtain ⟨pr', e2, e3⟩ := hf
            rw [e2] at he
            exact IH2 c r' pc pr' st1 r hc e3 he
          | none =>
            rw [hl] at hf
            simp only at hf
            rw [hf] at he
            exact he
        | _ => exact he
end
def runG (P : Program) (S : Specs) (F : Nat → Tidy) (n : Nat) (pf : PF) (args : List AV) (h : AHeap) : Option (AV × AHeap) :=
  match evG P S h.length F n (.inl pf.body) (args ++ List.replicate (pf.ntmps - args.length) .any, h) with
  | some (.normal, st) => ((pf.results.mapM (resultA P st)).map fun vs => match vs with | [v] => v | vs => .tup vs).map (·, st.2)
  | some (.ret, st) => ((pf.results.mapM (resultA P st)).map fun vs => match vs with | [v] => v | vs => .tup vs).map (·, st.2)
  | _ => none
theorem runG_sound {P : Program} {S : Specs} {Q : FuncId → Bool} (hQ : ∀ g, (S.q g).isSome = Q g) {F : Nat → Tidy} {n : Nat} {fn : Func} {pf : PF} (hc : compF P Q fn = some pf) {args : List AV} {h : AHeap} {r : AV × AHeap}
    (he : runG P S F n pf args h = some r) : evalBodyg P S F n fn args h = some r := by
  simp only [compF, Option.bind_eq_some_iff, Option.map_eq_some_iff] at hc
  obtain ⟨c, hb, pc, hpc, rfl⟩ := hc
  unfold evalBodyg
  rw [hb]
  simp only
  unfold runG at he
  simp only at he
  cases h1 : evG P S h.length F n (.inl pc) (args ++ List.replicate (fn.ntmps - args.length) .any, h) with
  | none => rw [h1] at he; cases he
  | some q =>
    rw [(code_resolvedg hQ F n).1 c pc _ q hpc h1]
    rw [h1] at he
    obtain ⟨e, st⟩ := q
    cases e <;> exact he
section
variable {P : Program} {S : Specs} {b0 : Nat} {F : Nat → Tidy}
theorem evG_seq {a b : PC} {n : Nat} {st : St} : evG P S b0 F (n + 1) (.inl (.seq a b)) st = match evG P S b0 F n (.inl a) st with
    | some (.normal, st') => evG P S b0 F n (.inl b) st'
    | r => r := rfl
theorem evG_loop {b : PC} {n : Nat} {st : St} : evG P S b0 F (n + 1) (.inl (.loop b)) st = match evG P S b0 F n (.inl b) st with
    | some (.normal, st') => evG P S b0 F n (.inl (.loop b)) st'
    | r => r := rfl
theorem evG_block {b : PC} {id n : Nat} {st : St} : evG P S b0 F (n + 1) (.inl (.block id b)) st = match evG P S b0 F n (.inl b) st with
    | some (.exit id', st') => if id' = id then some (.normal, st') else some (.exit id', st')
    | r => r := rfl
theorem evG_cond {c : Operand} {a b : PC} {n : Nat} {st : St} : evG P S b0 F (n + 1) (.inl (.cond c a b)) st = match evalOperand st.1 c with
    | some (.bool t) => evG P S b0 F n (.inl (if t then a else b)) st
    | _ => none := rfl
theorem evG_scope {b : PC} {n : Nat} {st : St} : evG P S b0 F (n + 1) (.inl (.scope b)) st = evG P S b0 F n (.inr (b, b)) st := rfl
theorem evG_rest {c rest : PC} {n : Nat} {st : St} : evG P S b0 F (n + 1) (.inr (c, rest)) st = match evG P S b0 F n (.inl rest) st with
    | some (.goto l, st') => match findP c l with
      | some r' => evG P S b0 F n (.inr (c, r')) st'
      | none => some (.goto l, st')
    | r => r := rfl
theorem evG_mono : ∀ (n : Nat) (x : PC ⊕ (PC × PC)) (st : St) (r : AExit × St), evG P S b0 F n x st = some r → evG P S b0 F (n + 1) x st = some r
  | 0, _, _, _, h => by simp [evG] at h
  | n + 1, .inl c, st, r, h => by
    have IH := evG_mono n
    cases c with
    | skip => exact h
    | label l => exact h
    | exit l => exact h
    | goto l => exact h
    | ret => exact h
    | ops id na l => exact h
    | ops2 id na ls l q => exact h
    | seq a b =>
      rw [evG_seq] at h
      rw [evG_seq]
      cases h1 : evG P S b0 F n (.inl a) st with
      | none => rw [h1] at h; cases h
      | some q =>
        obtain ⟨e, st1⟩ := q
        rw [IH _ _ _ h1]
        rw [h1] at h
        cases e with
        | normal => exact IH _ _ _ h
        | _ => exact h
    | cond c a b =>
      rw [evG_cond] at h
      rw [evG_cond]
      split at h
      · rename_i t ht; exact IH _ _ _ h
      · cases h
    | block id a =>
      rw [evG_block] at h
      rw [evG_block]
      cases h1 : evG P S b0 F n (.inl a) st with
      | none => rw [h1] at h; cases h
      | some q => rw [IH _ _ _ h1]; rw [h1] at h; exact h
    | loop a =>
      rw [evG_loop] at h
      rw [evG_loop]
      cases h1 : evG P S b0 F n (.inl a) st with
      | none => rw [h1] at h; cases h
      | some q =>
        obtain ⟨e, st1⟩ := q
        rw [IH _ _ _ h1]
        rw [h1] at h
        cases e with
        | normal => exact IH _ _ _ h
        | _ => exact h
    | scope a =>
      rw [evG_scope] at h
      rw [evG_scope]
      exact IH _ _ _ h
  | n + 1, .inr (c, rest), st, r, h => by
    have IH := evG_mono n
    rw [evG_rest] at h
    rw [evG_rest]
    cases h1 : evG P S b0 F n (.inl rest) st with
    | none => rw [h1] at h; cases h
    | some q =>
      obtain ⟨e, st1⟩ := q
      rw [IH _ _ _ h1]
      rw [h1] at h
      cases e with
      | goto l =>
        simp only at h ⊢
        split at h
        · rename_i r' hr'; exact IH _ _ _ h
        · rename_i hr'; exact h
      | _ => exact h
theorem evG_more {n : Nat} {x : PC ⊕ (PC × PC)} {st : St} {r : AExit × St} (h : evG P S b0 F n x st = some r) : ∀ k, evG P S b0 F (n + k) x st = some r
  | 0 => h
  | k + 1 => evG_mono _ _ _ _ (evG_more h k)
theorem evG_le {n m : Nat} {x : PC ⊕ (PC × PC)} {st : St} {r : AExit × St} (h : evG P S b0 F n x st = some r) (hm : n ≤ m) : evG P S b0 F m x st = some r := by
  obtain ⟨k, rfl⟩ := Nat.exists_eq_add_of_le hm
  exact evG_more h k
end
theorem region_rung {P : Program} {S : Specs} {b0 : Nat} {F : Nat → Tidy} {id na n : Nat} {l : List PO} {st st1 : St} (h : evalOpsR P S (tidy b0 (F id) st).2.length l (withHoles na (tidy b0 (F id) st)) = some st1) : evG P S b0 F (n + 1) (.inl (.ops id na l)) st = some (.normal, st1) := by
  show (evalOpsR P S (tidy b0 (F id) st).2.length l (withHoles na (tidy b0 (F id) st))).map (AExit.normal, ·) = _
  rw [h]; rfl
theorem runG_more {P : Program} {S : Specs} {F : Nat → Tidy} {n m : Nat} {pf : PF} {args : List AV} {h : AHeap} {r : AV × AHeap} (hr : runG P S F n pf args h = some r) (hm : n ≤ m) : runG P S F m pf args h = some r := by
  unfold runG at hr ⊢
  cases h1 : evG P S h.length F n (.inl pf.body) (args ++ List.replicate (pf.ntmps - args.length) .any, h) with
  | none => rw [h1] at hr; cases hr
  | some q => rw [h1] at hr; rw [evG_le h1 hm]; exact hr
open Classical in
/-- What a function's runs come to, be they as long as they may. -/
noncomputable def limG (P : Program) (S : Specs) (F : Nat → Tidy) (pf : PF) : List AV → AHeap → Option (AV × AHeap) := fun args h =>
  if hx : ∃ r n, runG P S F n pf args h = some r then some (Classical.choose hx) else none
theorem limG_of {P : Program} {S : Specs} {F : Nat → Tidy} {n : Nat} {pf : PF} {args : List AV} {h : AHeap} {r : AV × AHeap} (hr : runG P S F n pf args h = some r) : limG P S F pf args h = some r := by
  unfold limG
  have hx : ∃ r n, runG P S F n pf args h = some r := ⟨r, n, hr⟩
  rw [dif_pos hx]
  obtain ⟨m, hm⟩ := Classical.choose_spec hx
  have h1 := runG_more hm (Nat.le_max_right n m)
  have h2 := runG_more hr (Nat.le_max_left n m)
  rw [h1] at h2
  exact h2
theorem limG_ok {P : Program} {S : Specs} {Q : FuncId → Bool} (hm : P.follows .mixedOrders = true) (hS : S.OK P) (hQ : ∀ g, (S.q g).isSome = Q g) {f : FuncId} {fn : Func} {pf : PF} (hf : HasText P f fn) (hc : compF P Q fn = some pf) (F : Nat → Tidy) : FullOK P f (limG P S F pf) :=
  full_of_bodyg hm hS hf fun args h v h' hv => by
    unfold limG at hv
    split at hv
    · rename_i hx
      obtain ⟨n, hn⟩ := Classical.choose_spec hx
      simp only [Option.some.injEq] at hv
      rw [hv] at hn
      exact ⟨F, n, runG_sound hQ hc hn⟩
    · cases hv
/-- A row as it is swept along a path: of those that are told to be numbers nothing is looked at. -/
def renObjV (sy : Sy) (σ : Nat → Option Nat) (i : Nat) (o : AObj) : AObj × List Bool := match sy i with
  | some kd => (match o with
    | .row t s cs => (.row t s cs, [cs.all (isInt kd)])
    | .ro cs => (.ro cs, [cs.all (isInt kd)])
    | o => (renObj σ o, []))
  | none => (renObj σ o, [])
theorem renObjV_ok {sy : Sy} {σ : Nat → Option Nat} {i : Nat} {o : AObj} (h : (renObjV sy σ i o).2.all id = true) : renObj σ o = (renObjV sy σ i o).1 := by
  unfold renObjV at h ⊢
  split
  · rename_i kd hk
    rw [hk] at h
    simp only at h
    split
    · simp only [List.all_cons, List.all_nil, id, Bool.and_true] at h
      simp only [renObj, renL_ints _ h]
    · simp only [List.all_cons, List.all_nil, id, Bool.and_true] at h
      simp only [renObj, renL_ints _ h]
    · rfl
  · rfl
def sweepV (sy : Sy) (b : Nat) (ks : List Nat) (st : St) : St × List Bool :=
  if decide (b ≤ st.2.length) && decide ks.Nodup then
    ((st.1.map (fun v => (v.ren (sigma b ks)).getD .any), ((List.range b).map fun i => (renObjV sy (sigma b ks) i (st.2.getD i .dead)).1) ++ ks.map fun k => (renObjV sy (sigma b ks) (b + k) (st.2.getD (b + k) .dead)).1),
      ((List.range b).flatMap fun i => (renObjV sy (sigma b ks) i (st.2.getD i .dead)).2) ++ ks.flatMap fun k => (renObjV sy (sigma b ks) (b + k) (st.2.getD (b + k) .dead)).2)
  else (st, [])
theorem sweepV_ok {sy : Sy} {b : Nat} {ks : List Nat} {st : St} (h : (sweepV sy b ks st).2.all id = true) : sweep b ks st = (sweepV sy b ks st).1 := by
  unfold sweepV at h ⊢
  unfold sweep
  split
  · rename_i hc
    rw [if_pos hc] at h
    simp only [Bool.and_eq_true, decide_eq_true_eq] at hc
    simp only at h
    obtain ⟨h1, h2⟩ := allb h
    rw [List.all_flatMap, List.all_eq_true] at h1 h2
    refine Prod.ext rfl ?_
    show _ ++ _ = _ ++ _
    congr 1
    · apply List.ext_getElem
      · simp; omega
      · intro i hi hi'
        have hlt : i < b := by simpa using hi'
        have hl : i < st.2.length := by omega
        simp only [List.getElem_map, List.getElem_take, List.getElem_range]
        have := renObjV_ok (h1 i (List.mem_range.2 hlt))
        rw [List.getD_eq_getElem?_getD, List.getElem?_eq_getElem hl] at this
        rw [List.getD_eq_getElem?_getD, List.getElem?_eq_getElem hl]
        exact this
    · exact List.map_congr_left fun k hk => renObjV_ok (h2 k hk)
  · rfl
def namesV (sy : Sy) (i : Nat) (o : AObj) : List Nat × List Bool := match sy i with
  | some kd => (match o with
    | .row t s cs => ([], [cs.all (isInt kd)])
    | .ro cs => ([], [cs.all (isInt kd)])
    | o => (o.names, []))
  | none => (o.names, [])
theorem namesV_ok {sy : Sy} {i : Nat} {o : AObj} (h : (namesV sy i o).2.all id = true) : o.names = (namesV sy i o).1 := by
  unfold namesV at h ⊢
  split
  · rename_i kd hk
    rw [hk] at h
    simp only at h
    split
    · simp only [List.all_cons, List.all_nil, id, Bool.and_true] at h
      simp only [AObj.names, namesL_ints _ h]
    · simp only [List.all_cons, List.all_nil, id, Bool.and_true] at h
      simp only [AObj.names, namesL_ints _ h]
    · rfl
  · rfl
def autoV (sy : Sy) (b : Nat) (st : St) : List Nat × List Bool :=
  ((List.range (st.2.length - b)).filter fun i => st.1.any (fun v => v.names.contains (b + i)) || (List.range st.2.length).any (fun j => (namesV sy j (st.2.getD j .dead)).1.contains (b + i)),
    (List.range st.2.length).flatMap fun j => (namesV sy j (st.2.getD j .dead)).2)
theorem autoV_ok {sy : Sy} {b : Nat} {st : St} (h : (autoV sy b st).2.all id = true) : autoK b st = (autoV sy b st).1 := by
  unfold autoV at h ⊢
  simp only at h ⊢
  rw [List.all_flatMap, List.all_eq_true] at h
  unfold autoK
  refine List.filter_congr fun i _ => ?_
  congr 1
  have : ∀ l : List Nat, (∀ j ∈ l, (namesV sy j (st.2.getD j .dead)).2.all id = true) → (l.any fun j => (st.2.getD j AObj.dead).names.contains (b + i)) = l.any fun j => (namesV sy j (st.2.getD j .dead)).1.contains (b + i) := fun l => by
    induction l with
    | nil => exact fun _ => rfl
    | cons x l ih =>
      intro hl
      simp only [List.any_cons]
      rw [namesV_ok (hl x (by simp)), ih fun j hj => hl j (by simp [hj])]
  exact this _ h
def tidyV (sy : Sy) (b : Nat) (t : Tidy) (st : St) : St × List Bool := match t.keep with
  | .all => (forget t.drop st, [])
  | .rows ks => sweepV sy b ks (forget t.drop st)
  | .auto => ((sweepV sy b (autoV sy b (forget t.drop st)).1 (forget t.drop st)).1, (autoV sy b (forget t.drop st)).2 ++ (sweepV sy b (autoV sy b (forget t.drop st)).1 (forget t.drop st)).2)
theorem tidyV_ok {sy : Sy} {b : Nat} {t : Tidy} {st : St} (h : (tidyV sy b t st).2.all id = true) : tidy b t st = (tidyV sy b t st).1 := by
  unfold tidyV at h ⊢
  unfold tidy
  split
  · rfl
  · rename_i ks hk
    rw [hk] at h
    exact sweepV_ok h
  · rename_i hk
    rw [hk] at h
    obtain ⟨h1, h2⟩ := allb h
    simp only
    rw [autoV_ok h1]
    exact sweepV_ok h2
section
variable (P : Program) (S : Specs) (sy : Sy) (cv : CV)
/-- Code along a path. -/
def evVg (b0 : Nat) (F : Nat → Tidy) : Nat → PC ⊕ (PC × PC) → St → List Hint → Option ((AExit × St) × List Hint × List Bool)
  | 0, _, _, _ => none
  | n + 1, .inl c, st, hs => match c with
    | .skip => some ((.normal, st), hs, [])
    | .label _ => some ((.normal, st), hs, [])
    | .ops id na l => match evalOpsV P S sy cv (tidyV sy b0 (F id) st).1.2.length l (withHoles na (tidyV sy b0 (F id) st).1) hs with
      | some r => some ((.normal, r.1), r.2.1, (tidyV sy b0 (F id) st).2 ++ r.2.2)
      | none => none
    | .ops2 id na ls l r => match evalHeadV P S sy cv ls 0 (tidyV sy b0 (F id) st).1.2.length l (withHoles na (tidyV sy b0 (F id) st).1, List.replicate (l.length + r.length) none) hs with
      | some x => match evalOpsV P S sy cv ((tidyV sy b0 (F id) st).1.2.length + (l.filter (·.ri.isAlloc)).length) r x.1.1 x.2.1 with
        | some q => some ((.normal, q.1), q.2.1, (tidyV sy b0 (F id) st).2 ++ (x.2.2 ++ q.2.2))
        | none => none
      | none => none
    | .seq a b => match evVg b0 F n (.inl a) st hs with
      | some ((.normal, st'), hs', cs) => match evVg b0 F n (.inl b) st' hs' with
        | some r => some (r.1, r.2.1, cs ++ r.2.2)
        | none => none
      | r => r
    | .cond c x y => match evalOperand st.1 c with
      | some (.bool b) => evVg b0 F n (.inl (if b then x else y)) st hs
      | _ => none
    | .block id body => match evVg b0 F n (.inl body) st hs with
      | some ((.exit id', st'), hs', cs) => if id' = id then some ((.normal, st'), hs', cs) else some ((.exit id', st'), hs', cs)
      | r => r
    | .loop body => match evVg b0 F n (.inl body) st hs with
      | some ((.normal, st'), hs', cs) => match evVg b0 F n (.inl (.loop body)) st' hs' with
        | some r => some (r.1, r.2.1, cs ++ r.2.2)
        | none => none
      | r => r
    | .exit id => some ((.exit id, st), hs, [])
    | .goto l => some ((.goto l, st), hs, [])
    | .scope body => evVg b0 F n (.inr (body, body)) st hs
    | .ret => some ((.ret, st), hs, [])
  | n + 1, .inr (c, rest), st, hs => match evVg b0 F n (.inl rest) st hs with
    | some ((.goto l, st'), hs', cs) => match findP c l with
      | some r' => match evVg b0 F n (.inr (c, r')) st' hs' with
        | some r => some (r.1, r.2.1, cs ++ r.2.2)
        | none => none
      | none => some ((.goto l, st'), hs', cs)
    | r => r
theorem evVg_ok {b0 : Nat} (hcv : cv.OK S) (F : Nat → Tidy) : ∀ (n : Nat) {x : PC ⊕ (PC × PC)} {st : St} {hs hs' : List Hint} {r : AExit × St} {cs : List Bool}, evVg P S sy cv b0 F n x st hs = some (r, hs', cs) → cs.all id = true → evG P S b0 F n x st = some r
  | 0, x, st, hs, hs', r, cs, h, _ => by cases h
  | n + 1, .inl c, st, hs, hs', r, cs, h, hc => by
    have IH := fun {x st hs hs' r cs} => @evVg_ok b0 hcv F n x st hs hs' r cs
    cases c with
    | skip => simp only [evVg] at h; cases h; rfl
    | label _ => simp only [evVg] at h; cases h; rfl
    | exit _ => simp only [evVg] at h; cases h; rfl
    | goto _ => simp only [evVg] at h; cases h; rfl
    | ret => simp only [evVg] at h; cases h; rfl
    | ops id na l =>
      simp only [evVg] at h
      split at h
      · rename_i q hq
        cases h
        obtain ⟨g1, g2⟩ := allb hc
        refine region_rung ?_
        rw [tidyV_ok g1]
        exact evalOpsV_ok P S sy cv hcv l hq g2
      · cases h
    | ops2 id na ls l r' =>
      simp only [evVg] at h
      split at h
      · rename_i x hx
        split at h
        · rename_i q hq
          cases h
          obtain ⟨g0, g⟩ := allb hc
          obtain ⟨g1, g2⟩ := allb g
          simp only [evG]
          rw [tidyV_ok g0]
          simp only [evalHeadV_ok P S sy cv hcv l hx g1, Option.bind_some, evalOpsV_ok P S sy cv hcv r' hq g2, Option.map_some]
        · cases h
      · cases h
    | seq a b =>
      simp only [evVg] at h
      rw [evG_seq]
      split at h
      · rename_i st1 hs1 cs1 h1
        split at h
        · rename_i q hq
          cases h
          obtain ⟨g1, g2⟩ := allb hc
          rw [IH h1 g1]
          exact IH hq g2
        · cases h
      · rename_i hne
        rw [IH h hc]
        obtain ⟨e, st1⟩ := r
        cases e with
        | normal => exact absurd h (hne _ _ _)
        | _ => rfl
    | cond c a b =>
      simp only [evVg] at h
      rw [evG_cond]
      split at h
      · rename_i t ht
        try rw [ht]
        exact IH h hc
      · cases h
    | block id a =>
      simp only [evVg] at h
      rw [evG_block]
      split at h
      · rename_i id' st1 hs1 cs1 h1
        split at h
        · rename_i he
          cases h
          rw [IH h1 hc]
          simp only [he, if_true]
        · rename_i he
          cases h
          rw [IH h1 hc]
          simp only [he, if_false]
      · rename_i hne
        rw [IH h hc]
        obtain ⟨e, st1⟩ := r
        cases e with
        | exit i => exact absurd h (hne _ _ _ _)
        | _ => rfl
    | loop a =>
      simp only [evVg] at h
      rw [evG_loop]
      split at h
      · rename_i st1 hs1 cs1 h1
        split at h
        · rename_i q hq
          cases h
          obtain ⟨g1, g2⟩ := allb hc
          rw [IH h1 g1]
          exact IH hq g2
        · cases h
      · rename_i hne
        rw [IH h hc]
        obtain ⟨e, st1⟩ := r
        cases e with
        | normal => exact absurd h (hne _ _ _)
        | _ => rfl
    | scope a =>
      simp only [evVg] at h
      rw [evG_scope]
      exact IH h hc
  | n + 1, .inr (c, rest), st, hs, hs', r, cs, h, hc => by
    have IH := fun {x st hs hs' r cs} => @evVg_ok b0 hcv F n x st hs hs' r cs
    simp only [evVg] at h
    rw [evG_rest]
    split at h
    · rename_i l st1 hs1 cs1 h1
      split at h
      · rename_i r' hr'
        split at h
        · rename_i q hq
          cases h
          obtain ⟨g1, g2⟩ := allb hc
          rw [IH h1 g1]
          simp only [hr']
          exact IH hq g2
        · cases h
      · rename_i hr'
        cases h
        rw [IH h1 hc]
        simp only [hr']
    · rename_i hne
      rw [IH h hc]
      obtain ⟨e, st1⟩ := r
      cases e with
      | goto i => exact absurd h (hne _ _ _ _)
      | _ => rfl
/-- A function along a path. -/
def runVg (F : Nat → Tidy) (n : Nat) (pf : PF) (args : List AV) (h : AHeap) (hs : List Hint) : Option ((AV × AHeap) × List Bool) :=
  match evVg P S sy cv h.length F n (.inl pf.body) (args ++ List.replicate (pf.ntmps - args.length) .any, h) hs with
  | some ((.normal, st), _, cs) => ((pf.results.mapM (resultA P st)).map fun vs => match vs with | [v] => v | vs => .tup vs).map fun v => ((v, st.2), cs)
  | some ((.ret, st), _, cs) => ((pf.results.mapM (resultA P st)).map fun vs => match vs with | [v] => v | vs => .tup vs).map fun v => ((v, st.2), cs)
  | _ => none
theorem runVg_ok (hcv : cv.OK S) {F : Nat → Tidy} {n : Nat} {pf : PF} {args : List AV} {h : AHeap} {hs : List Hint} {r : AV × AHeap} {cs : List Bool} (hv : runVg P S sy cv F n pf args h hs = some (r, cs)) (hc : cs.all id = true) : runG P S F n pf args h = some r := by
  unfold runVg at hv
  unfold runG
  split at hv
  · rename_i st _ cs' h1
    simp only [Option.map_eq_some_iff] at hv
    obtain ⟨v, ⟨vs, h2, h3⟩, h4⟩ := hv
    cases h4
    rw [evVg_ok P S sy cv hcv F n h1 hc]
    simp only [h2, Option.map_some]
    exact congrArg (fun v => some (v, st.2)) h3
  · rename_i st _ cs' h1
    simp only [Option.map_eq_some_iff] at hv
    obtain ⟨v, ⟨vs, h2, h3⟩, h4⟩ := hv
    cases h4
    rw [evVg_ok P S sy cv hcv F n h1 hc]
    simp only [h2, Option.map_some]
    exact congrArg (fun v => some (v, st.2)) h3
  · cases hv
end
theorem ev_tidy {P : Program} {S : Specs} {b0 : Nat} {F : Nat → Tidy} {id : Nat} : ∀ (n : Nat) {pc : PC} {st st2 : St}, headId pc = some id → tidy b0 (F id) st = tidy b0 (F id) st2 → evG P S b0 F n (.inl pc) st = evG P S b0 F n (.inl pc) st2
  | 0, pc, st, st2, _, _ => rfl
  | n + 1, pc, st, st2, h, hf => by
    cases pc with
    | ops id' na l =>
      cases h
      simp only [evG]
      rw [hf]
    | ops2 id' na ls l r =>
      cases h
      simp only [evG]
      rw [hf]
    | seq a b => rw [evG_seq]; rw [ev_tidy n (pc := a) h hf]; rfl
    | block i a => rw [evG_block]; rw [ev_tidy n (pc := a) h hf]; rfl
    | loop a => rw [evG_loop]; rw [ev_tidy n (pc := a) h hf]; rfl
    | _ => cases h
theorem loop_nextg {P : Program} {S : Specs} {b0 : Nat} {F : Nat → Tidy} {id n : Nat} {body : PC} {st st1 st2 : St} {r : AExit × St} (hid : headId body = some id) (h1 : evG P S b0 F n (.inl body) st = some (.normal, st1)) (hf : tidy b0 (F id) st1 = tidy b0 (F id) st2)
    (h2 : evG P S b0 F n (.inl (.loop body)) st2 = some r) : evG P S b0 F (n + 1) (.inl (.loop body)) st = some r := by
  rw [evG_loop, h1]
  simp only
  rw [ev_tidy n (pc := .loop body) (id := id) hid hf]
  exact h2
theorem loop_stopg {P : Program} {S : Specs} {b0 : Nat} {F : Nat → Tidy} {n : Nat} {body : PC} {st st1 : St} {e : AExit} (h1 : evG P S b0 F n (.inl body) st = some (e, st1)) (he : e ≠ .normal) : evG P S b0 F (n + 1) (.inl (.loop body)) st = some (e, st1) := by
  rw [evG_loop, h1]
  cases e <;> first | rfl | exact absurd rfl he
theorem block_stopg {P : Program} {S : Specs} {b0 : Nat} {F : Nat → Tidy} {n id : Nat} {body : PC} {st st1 : St} (h1 : evG P S b0 F n (.inl body) st = some (.exit id, st1)) : evG P S b0 F (n + 1) (.inl (.block id body)) st = some (.normal, st1) := by
  rw [evG_block, h1]
  simp only [if_true]
theorem block_passg {P : Program} {S : Specs} {b0 : Nat} {F : Nat → Tidy} {n id : Nat} {body : PC} {st st1 : St} (h1 : evG P S b0 F n (.inl body) st = some (.ret, st1)) : evG P S b0 F (n + 1) (.inl (.block id body)) st = some (.ret, st1) := by
  rw [evG_block, h1]
section
variable {P : Program} {S : Specs} {b0 : Nat} {F : Nat → Tidy}
end
end Go.Am
