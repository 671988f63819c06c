/- More operations that leave memory alone: slices, lengths, numbers, texts, sameness, conversions. -/
import Derived.Test.YtfnlokknpldkgaaAmC
set_option linter.unusedVariables false
set_option linter.unusedSimpArgs false
namespace Go.Am
open Go Go.RowKit
section
variable {P : Program} {ρ : Rho} {B : Fr} {w0 w : World} {h : AHeap}
theorem run_boundA {x : AV} {y n : Nat} {d : Nat} {code : BoundsCode} (hv : boundA d y (some x) = some n) :
    (Instr.sliceBound (x.real ρ) y code).run P w = .ok n w ∧ n ≤ y := by
  unfold boundA at hv
  split at hv
  · rename_i heq; cases heq
  · rename_i k i heq
    simp only [Option.some.injEq] at heq
    subst heq
    split at hv
    · rename_i hb
      cases hv
      refine ⟨?_, by omega⟩
      simp [Instr.sliceBound, AV.real, asIntOf, hb]
    · cases hv
  · cases hv
theorem boundA_le {y n d : Nat} {x : Option AV} (hv : boundA d y x = some n) (hd : d ≤ y) : n ≤ y := by
  unfold boundA at hv
  split at hv
  · cases hv; exact hd
  · split at hv
    · cases hv; omega
    · cases hv
  · cases hv
theorem boundA_wider {y z n d : Nat} {x : AV} (hyz : y ≤ z) (hv : boundA d y (some x) = some n) : boundA d z (some x) = some n := by
  cases x <;> simp only [boundA, reduceCtorEq] at hv ⊢
  split at hv
  · rename_i hb; rw [if_pos ⟨hb.1, by omega⟩]; exact hv
  · cases hv
/-- The bounds of a slice expression without a third one. -/
theorem run_bounds {isS : Bool} {len cap : Nat} {lo hi : Option AV} {l u : Nat} (hlc : len ≤ cap) (hu : boundA len len hi = some u) (hl : boundA 0 u lo = some l) :
    (Instr.sliceBounds isS len cap (lo.map (AV.real ρ)) (hi.map (AV.real ρ)) none).run P w = .ok (l, u, cap) w ∧ l ≤ u ∧ u ≤ len := by
  refine ⟨?_, boundA_le hl (Nat.zero_le _), boundA_le hu (Nat.le_refl _)⟩
  unfold Instr.sliceBounds
  cases hi with
  | none =>
    simp only [boundA, Option.some.injEq] at hu
    subst hu
    cases lo with
    | none => simp only [boundA, Option.some.injEq] at hl; subst hl; simp
    | some x =>
      have hb := fun code => (run_boundA (ρ := ρ) (P := P) (w := w) (code := code) hl).1
      simp [hb]
  | some y =>
    have hc := fun code => (run_boundA (ρ := ρ) (P := P) (w := w) (code := code) (boundA_wider hlc hu)).1
    cases lo with
    | none => simp only [boundA, Option.some.injEq] at hl; subst hl; simp [hc]
    | some x =>
      have hb := fun code => (run_boundA (ρ := ρ) (P := P) (w := w) (code := code) hl).1
      simp [hb, hc]
theorem size_str (s : List UInt8) : (⟨s.toArray⟩ : ByteArray).size = s.length := by simp [ByteArray.size]
theorem extract_str (s : List UInt8) (l u : Nat) (hu : u ≤ s.length) : (⟨s.toArray⟩ : ByteArray).extract l u = ⟨((s.take u).drop l).toArray⟩ := by
  apply ByteArray.ext
  rw [ByteArray.data_extract]
  simp [List.drop_take]
theorem slice_sound {t : TypeId} {x v : AV} {lo hi mx : Option AV} (hx : x.ok h ρ) (hv : sliceA P t x lo hi mx = some v) :
    (Instr.sliceAt t (x.real ρ) (lo.map (AV.real ρ)) (hi.map (AV.real ρ)) (mx.map (AV.real ρ))).run P w = .ok (v.real ρ) w ∧ v.ok h ρ := by
  unfold sliceA at hv
  split at hv
  · rename_i s hu
    simp only [Option.bind_eq_some_iff, Option.map_eq_some_iff] at hv
    obtain ⟨u, hu1, l, hl1, rfl⟩ := hv
    obtain ⟨hr, hlu, hul⟩ := run_bounds (P := P) (w := w) (ρ := ρ) (isS := false) (Nat.le_refl _) hu1 hl1
    refine ⟨?_, rfl⟩
    simp only [Instr.sliceAt, Sem.run_bind, run_underlying hu w, Result.andThen_ok, Instr.slice, AV.real, Option.map_none, Option.isSome_none, Bool.false_eq_true, if_false, size_str]
    simp [hr, extract_str s l u hul]
  · rename_i e k o len c hu
    simp only [Option.bind_eq_some_iff] at hv
    obtain ⟨u, hu1, l, hl1, s, hs, hv⟩ := hv
    have hcap : len ≤ c.real (ρ k) := by
      cases c with
      | fix n => simp only [AV.ok, AV.refs, Bool.and_eq_true, decide_eq_true_eq] at hx; exact hx.2
      | rel i => simp only [AV.ok, AV.refs, Bool.and_eq_true, decide_eq_true_eq] at hx; simp only [ACap.real]; omega
    obtain ⟨hr, hlu, hul⟩ := run_bounds (P := P) (w := w) (ρ := ρ) (isS := true) hcap hu1 hl1
    have key : ∀ v', (c.real (ρ k) = l → v' = Value.slice (some (adr ρ k o)) (u - l) (c.real (ρ k) - l)) →
        (c.real (ρ k) ≠ l → v' = .slice (some (adr ρ k (o + l * s))) (u - l) (c.real (ρ k) - l)) →
        (Instr.sliceAt t ((AV.sl (some (k, o)) len c).real ρ) (lo.map (AV.real ρ)) (hi.map (AV.real ρ)) (Option.map (AV.real ρ) none)).run P w = .ok v' w := by
      intro v' h1 h2
      simp only [Instr.sliceAt, Sem.run_bind, run_underlying hu w, Result.andThen_ok, Instr.slice, real_sl, Option.map_none, hr, run_sizeOf' hs, Sem.run_pure]
      split
      · rename_i he; rw [h1 he]
      · rename_i he; rw [h2 he]; simp [adr_add]
    split at hv
    · rename_i n
      cases hv
      simp only [ACap.real] at key hcap
      refine ⟨key _ (fun e => ?_) (fun e => ?_), ?_⟩
      · rw [if_pos e.symm]; rfl
      · rw [if_neg (fun h => e h.symm)]; rfl
      · simp only [AV.ok, AV.refs, Bool.and_eq_true, decide_eq_true_eq] at hx ⊢
        exact ⟨hx.1, by omega⟩
    · rename_i i
      simp only [ACap.real] at key hcap
      simp only [AV.ok, AV.refs, Bool.and_eq_true, decide_eq_true_eq] at hx
      split at hv
      · rename_i hl0
        subst hl0
        cases hv
        refine ⟨key _ (fun _ => by simp [real_sl, ACap.real]) (fun _ => by simp [real_sl, ACap.real]), ?_⟩
        simp only [AV.ok, AV.refs, Bool.and_eq_true, decide_eq_true_eq]
        exact ⟨hx.1, by omega⟩
      · split at hv
        · rename_i hl0 hll
          cases hv
          refine ⟨key _ (fun e => by omega) (fun _ => by simp only [real_sl, ACap.real]; congr 1; omega), ?_⟩
          simp only [AV.ok, AV.refs, Bool.and_eq_true, decide_eq_true_eq]
          exact ⟨hx.1, by omega⟩
        · rename_i hl0 hll
          cases hv
          have hul0 : u - l = 0 := by omega
          refine ⟨key _ (fun e => ?_) (fun e => ?_), ?_⟩
          · rw [hul0]; simp only [AV.real, slEAdr]; rw [if_pos e]; rfl
          · rw [hul0]; simp only [AV.real, slEAdr]; rw [if_neg e]; rfl
          · simp only [AV.ok, AV.refs, Bool.and_eq_true, decide_eq_true_eq]
            exact ⟨hx.1, by omega⟩
  · rename_i e c hu
    simp only [Option.bind_eq_some_iff, Option.map_eq_some_iff] at hv
    obtain ⟨u, hu1, l, hl1, s, hs, rfl⟩ := hv
    simp only [AV.ok, AV.refs, decide_eq_true_eq] at hx
    obtain ⟨-, rfl⟩ := hx
    obtain ⟨hr, hlu, hul⟩ := run_bounds (P := P) (w := w) (ρ := ρ) (isS := true) (Nat.le_refl _) hu1 hl1
    have hu0 : u = 0 := by omega
    have hl0 : l = 0 := by omega
    subst hu0 hl0
    refine ⟨?_, rfl⟩
    simp only [Instr.sliceAt, Sem.run_bind, run_underlying hu w, Result.andThen_ok, Instr.slice, AV.real, ACap.real, Option.map_none, hr, run_sizeOf' hs, Sem.run_pure]
    rfl
  · rename_i n e k o hu
    simp only [Option.bind_eq_some_iff] at hv
    obtain ⟨u, hu1, l, hl1, s, hs, hv⟩ := hv
    cases hv
    obtain ⟨hr, hlu, hul⟩ := run_bounds (P := P) (w := w) (ρ := ρ) (isS := false) (Nat.le_refl _) hu1 hl1
    refine ⟨?_, ?_⟩
    · simp only [Instr.sliceAt, Sem.run_bind, run_underlying hu w, Result.andThen_ok, real_ptr, Instr.sureAddr, Sem.run_pure, Option.map_none, hr, run_sizeOf' hs]
      by_cases hln : l = n
      · rw [if_pos hln.symm, if_pos hln]; simp [real_sl, ACap.real]
      · rw [if_neg (show ¬ n = l from fun e => hln e.symm), if_neg hln]
        simp [real_sl, adr_add, ACap.real]
    · simp only [AV.ok, AV.refs, Bool.and_eq_true, decide_eq_true_eq] at hx ⊢
      exact ⟨hx, by omega⟩
  · cases hv
theorem len_sound (hI : Inv ρ B w0 h w) {t ty : TypeId} {x v : AV} (hv : lenA P t h x = some v) :
    (Builtin.len_ #[t] ty #[x.real ρ]).run P w = .ok (v.real ρ) w ∧ v.ok h ρ := by
  unfold lenA at hv
  split at hv
  · rename_i s hu; cases hv; exact ⟨by simp [Builtin.len_, run_underlying hu w, AV.real, size_str, goInt], rfl⟩
  · rename_i n e x hu; cases hv
    refine ⟨?_, rfl⟩
    simp only [Builtin.len_, List.getElem?_toArray, List.getElem?_cons_zero, Sem.run_bind, run_underlying hu w, Result.andThen_ok]
    rfl
  · rename_i e a n c hu; cases hv
    refine ⟨?_, rfl⟩
    cases a <;> simp [Builtin.len_, run_underlying hu w, AV.real, goInt]
  · rename_i hu; cases hv
    exact ⟨by simp [Builtin.len_, run_underlying hu w, AV.real, goInt], rfl⟩
  · rename_i kt et hu; cases hv; exact ⟨by simp [Builtin.len_, run_underlying hu w, AV.real, goInt], rfl⟩
  · rename_i kt et k hu
    split at hv
    · rename_i es hes
      cases hv
      refine ⟨?_, rfl⟩
      obtain ⟨hB, ents, clock, hb, hee⟩ := hI.obj k _ hes
      have hl : ents.size = es.length := by have := congrArg List.length hee; simpa using this
      have hg : (getObj (ρ k).blk).run P w = .ok (.map ents clock) w := by simp [getObj, Sem.run, hb]
      simp [Builtin.len_, run_underlying hu w, AV.real, goInt, hg, hl]
    · cases hv
  · cases hv
theorem unary_sound {op : UnOp} {x v : AV} (hv : unA op x = some v) : (Op.unary op (x.real ρ)).run P w = .ok (v.real ρ) w ∧ v.ok h ρ := by
  unfold unA at hv
  split at hv <;> cases hv <;> exact ⟨rfl, rfl⟩
theorem toList_mk (s : List UInt8) : (⟨s.toArray⟩ : ByteArray).toList = s := by
  rw [ByteArray.toList_eq]
theorem shift_sound {op : BinOp} {k yk : IntKind} {a b : Int} {v : AV} (hv : shiftA op k a b = some v) : (Op.shift op k a yk b).run P w = .ok (v.real ρ) w ∧ v.ok h ρ := by
  unfold shiftA at hv
  unfold Op.shift
  split at hv
  · cases hv
  · rename_i hb
    rw [if_neg hb]
    cases op <;> simp only [reduceCtorEq, Option.some.injEq] at hv <;> subst hv <;> exact ⟨rfl, rfl⟩
end
end Go.Am
