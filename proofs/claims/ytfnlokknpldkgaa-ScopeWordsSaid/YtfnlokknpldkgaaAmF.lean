/- Conversions, what is built, look-ups; all operations that leave memory alone. -/
import Derived.Test.YtfnlokknpldkgaaAmE
import Derived.MapKept
set_option linter.unusedVariables false
set_option linter.unusedSimpArgs false
namespace Go.Am
open Go Go.RowKit
section
variable {P : Program} {ρ : Rho} {B : Fr} {w0 w : World} {h : AHeap}
theorem mapM_bytes : ∀ (cs : List AV) (l : List UInt8), cs.mapM byteOfA = some l →
    ∃ ns : List Int, cs = ns.map (AV.int .u8) ∧ l = ns.map fun n => UInt8.ofNat n.toNat
  | [], l, hl => by simp at hl; subst hl; exact ⟨[], rfl, rfl⟩
  | c :: cs, l, hl => by
    simp only [List.mapM_cons, Option.pure_def, Option.bind_eq_bind, Option.bind_eq_some_iff] at hl
    obtain ⟨b, hb, l', hl', he⟩ := hl
    cases he
    obtain ⟨ns, rfl, rfl⟩ := mapM_bytes cs l' hl'
    cases c <;> simp only [byteOfA, reduceCtorEq] at hb
    rename_i k n
    cases k <;> simp only [byteOfA, reduceCtorEq, Option.some.injEq] at hb
    subst hb
    exact ⟨n :: ns, rfl, rfl⟩
theorem convert_sound (hI : Inv ρ B w0 h w) {s d : TypeId} {x v : AV} (hv : convertA P h s d x = some v) :
    (convert s d (x.real ρ)).run P w = .ok (v.real ρ) w ∧ v.ok h ρ := by
  unfold convertA at hv
  split at hv
  · rename_i ds k kk n hs hd
    cases hv
    refine ⟨?_, rfl⟩
    simp only [convert, Sem.run_bind, run_underlying hs w, run_underlying hd w, Result.andThen_ok, AV.real]
    rfl
  · rename_i ds b hs hd
    cases hv
    refine ⟨?_, rfl⟩
    simp only [convert, Sem.run_bind, run_underlying hs w, run_underlying hd w, Result.andThen_ok, AV.real]
    rfl
  · rename_i e a len c hs hd
    split at hv
    · rename_i he
      cases hv
      refine ⟨?_, rfl⟩
      simp [convert, Sem.run_bind, run_underlying hs w, run_underlying hd w, Result.andThen_ok, AV.real, run_underlying he w, Conv.bytesToString]
      rfl
    · rename_i k o he
      simp only [Option.bind_eq_some_iff] at hv
      obtain ⟨cs, hcs, hv⟩ := hv
      split at hv
      · rename_i hle
        simp only [Option.map_eq_some_iff] at hv
        obtain ⟨l, hl, rfl⟩ := hv
        obtain ⟨ns, hns, rfl⟩ := mapM_bytes _ _ hl
        have h1 := run_loadCells (P := P) hI hcs o len hle
        rw [hns] at h1
        simp only [List.map_map] at h1
        have h2 : (List.map (AV.real ρ ∘ AV.int .u8) ns) = ns.map (Value.int .u8) := by apply List.map_congr_left; intro a _; rfl
        rw [h2] at h1
        refine ⟨?_, rfl⟩
        simp only [convert, Sem.run_bind, run_underlying hs w, run_underlying hd w, Result.andThen_ok, real_sl, run_underlying he w]
        rw [run_bytesToString w _ _ _ ns h1, foldl_push_bytes]
        simp [AV.real]
      · cases hv
    · cases hv
  · cases hv
theorem splice_fold : ∀ (vs : List Value) (k off : Nat) (cs : Array Value), off + k + vs.length ≤ cs.size →
    ((vs.zipIdx k).foldl (fun cs (c, j) => cs.setIfInBounds (off + j) c) cs).toList = cs.toList.take (off + k) ++ vs ++ cs.toList.drop (off + k + vs.length)
  | [], k, off, cs, hle => by simp
  | v :: vs, k, off, cs, hle => by
    simp only [List.length_cons] at hle
    simp only [List.zipIdx_cons, List.foldl_cons]
    rw [splice_fold vs (k + 1) off _ (by simp; omega)]
    have h1 : (cs.setIfInBounds (off + k) v).toList = cs.toList.set (off + k) v := by simp
    rw [h1]
    have h2 : off + k < cs.toList.length := by simp; omega
    have h3 : (cs.toList.set (off + k) v).take (off + (k + 1)) = cs.toList.take (off + k) ++ [v] := by
      rw [← Nat.add_assoc, List.take_succ_eq_append_getElem (by simpa using h2), List.take_set_of_le (Nat.le_refl _)]
      simp
    have h4 : (cs.toList.set (off + k) v).drop (off + (k + 1) + vs.length) = cs.toList.drop (off + k + (vs.length + 1)) := by
      rw [List.drop_set_of_lt (by omega)]
      congr 1
      omega
    rw [h3, h4]
    simp
theorem cells_sized {v : AV} (hv : v.plain = true) : (v.real ρ).cells = (v.cells.map (AV.real ρ)).toArray := by
  apply AV.cells_real
  cases v <;> simp_all [AV.one, AV.plain]
theorem fill_sound (place : Nat → Option (Nat × Nat)) : ∀ (parts : List (Nat × AV)) (cells out : List AV), fillA place cells parts = some out →
    Instr.fill place (cells.map (AV.real ρ)).toArray (parts.map fun p => (p.1, p.2.real ρ)) = some (out.map (AV.real ρ)).toArray
  | [], cells, out, ho => by simp only [fillA, Option.some.injEq] at ho; subst ho; rfl
  | (i, v) :: rest, cells, out, ho => by
    simp only [fillA] at ho
    simp only [List.map_cons, Instr.fill]
    cases hp : place i with
    | none => simp [hp] at ho
    | some os =>
      obtain ⟨off, size⟩ := os
      rw [hp] at ho
      dsimp only at ho ⊢
      by_cases hc : (v.plain && v.cells.length == size && decide (off + size ≤ cells.length)) = true
      · rw [if_pos hc] at ho
        simp only [Bool.and_eq_true, beq_iff_eq, decide_eq_true_eq] at hc
        obtain ⟨⟨h1, h2⟩, h3⟩ := hc
        have hcs := cells_sized (ρ := ρ) h1
        rw [hcs]
        have hsz : (v.cells.map (AV.real ρ)).toArray.size = size := by simp [h2]
        rw [if_neg (by rw [hsz]; simp; omega)]
        have ih := fill_sound place rest _ out ho
        rw [← ih]
        congr 1
        have h4 := splice_fold (v.cells.map (AV.real ρ)) 0 off (cells.map (AV.real ρ)).toArray (by simp; omega)
        apply Array.ext'
        rw [← Array.foldl_toList]
        simp only [Array.toList_zipIdx, Nat.add_zero, List.length_map] at h4 ⊢
        rw [h4]
        simp [h2, List.map_take, List.map_drop]
      · rw [if_neg hc] at ho; cases ho
theorem fill_ok (place : Nat → Option (Nat × Nat)) : ∀ (parts : List (Nat × AV)) (cells out : List AV), fillA place cells parts = some out →
    (∀ c ∈ cells, AV.ok h ρ c) → (∀ p ∈ parts, AV.ok h ρ p.2) → ∀ c ∈ out, AV.ok h ρ c
  | [], cells, out, ho, hc, _ => by simp only [fillA, Option.some.injEq] at ho; subst ho; exact hc
  | (i, v) :: rest, cells, out, ho, hc, hp => by
    simp only [fillA] at ho
    cases hpl : place i with
    | none => simp [hpl] at ho
    | some os =>
      obtain ⟨off, size⟩ := os
      rw [hpl] at ho
      dsimp only at ho
      by_cases hc' : (v.plain && v.cells.length == size && decide (off + size ≤ cells.length)) = true
      · rw [if_pos hc'] at ho
        refine fill_ok place rest _ out ho (fun c hcm => ?_) (fun p hpm => hp p (List.mem_cons_of_mem _ hpm))
        have hv : AV.ok h ρ v := hp (i, v) List.mem_cons_self
        simp only [List.mem_append] at hcm
        rcases hcm with (hcm | hcm) | hcm
        · exact hc c (List.mem_of_mem_take hcm)
        · cases v <;> simp only [AV.cells, List.mem_singleton] at hcm <;> first
            | (subst hcm; exact hv)
            | (simp only [AV.ok, AV.refs, refsL_eq, List.all_eq_true] at hv; exact hv c hcm)
        · exact hc c (List.mem_of_mem_drop hcm)
      · rw [if_neg hc'] at ho; cases ho
theorem run_zero {t : TypeId} {z : AV} (hz : zeroA P t = some z) : (zeroValue t).run P w = .ok (z.real ρ) w := by
  simp only [zeroA, Option.bind_eq_some_iff] at hz
  obtain ⟨v, ⟨i, hi, hv⟩, hz⟩ := hz
  simp [zeroValue, typeInfo, hi, hv, real_ofValue ρ v z hz]
theorem zero_ok {t : TypeId} {z : AV} (hz : zeroA P t = some z) : z.ok h ρ := by
  simp only [zeroA, Option.bind_eq_some_iff] at hz
  obtain ⟨v, ⟨i, hi, hv⟩, hz⟩ := hz
  exact refs_ofValue _ _ v z hz
theorem cells_all_ok {z : AV} (hz : z.ok h ρ) : ∀ c ∈ z.cells, AV.ok h ρ c := by
  intro c hc
  cases z <;> simp only [AV.cells, List.mem_singleton] at hc <;> first
    | (subst hc; exact hz)
    | (simp only [AV.ok, AV.refs, refsL_eq, List.all_eq_true] at hz; exact hz c hc)
theorem run_places : ∀ (fs : List Field) (pl : List (Nat × Nat)), fs.mapM (fun f => (szOf P f.type).map fun s => (f.offset, s)) = some pl →
    (fs.mapM (fun f => do pure (f.offset, ← sizeOf f.type) : Field → Sem (Nat × Nat))).run P w = .ok pl w
  | [], pl, hp => by simp at hp; subst hp; rfl
  | f :: fs, pl, hp => by
    simp only [List.mapM_cons, Option.pure_def, Option.bind_eq_bind, Option.bind_eq_some_iff, Option.map_eq_some_iff] at hp
    obtain ⟨a, ⟨s, hs, rfl⟩, pl', hpl', he⟩ := hp
    cases he
    have ih := run_places fs pl' hpl'
    simp only [List.mapM_cons, Sem.run_bind, run_sizeOf' hs, Result.andThen_ok, Sem.run_pure, ih]
theorem build_sound {t : TypeId} {parts : List (Nat × AV)} {v : AV} (hp : ∀ p ∈ parts, AV.ok h ρ p.2) (hv : buildA P t parts = some v) :
    (Instr.build t (parts.map fun p => (p.1, p.2.real ρ)).toArray).run P w = .ok (v.real ρ) w ∧ v.ok h ρ := by
  unfold buildA at hv
  split at hv
  · rename_i z fs hz hu
    split at hv
    · cases hv
    rename_i hzp
    have hzp : z.plain = true := by simpa using hzp
    simp only [Option.bind_eq_some_iff, Option.map_eq_some_iff] at hv
    obtain ⟨pl, hpl, out, ho, rfl⟩ := hv
    have h1 := run_places (P := P) (w := w) _ _ hpl
    have h2 := fill_sound (ρ := ρ) _ _ _ _ ho
    have hc := cells_sized (ρ := ρ) hzp
    refine ⟨?_, ?_⟩
    · simp only [Instr.build, Sem.run_bind, run_zero (ρ := ρ) hz, Result.andThen_ok, Sem.run_pure, run_underlying hu w, Array.mapM_eq_mapM_toList, Sem.run_map, h1]
      rw [hc]
      simp only [List.getElem?_toArray, h2]
      simp [AV.real]
    · simp only [AV.ok, AV.refs, refsL_eq, List.all_eq_true]
      exact fill_ok _ _ _ _ ho (cells_all_ok (zero_ok hz)) hp
  · rename_i z n e hz hu
    split at hv
    · cases hv
    rename_i hzp
    have hzp : z.plain = true := by simpa using hzp
    simp only [Option.bind_eq_some_iff, Option.map_eq_some_iff] at hv
    obtain ⟨s, hs, out, ho, rfl⟩ := hv
    have h2 := fill_sound (ρ := ρ) _ _ _ _ ho
    have hc := cells_sized (ρ := ρ) hzp
    refine ⟨?_, ?_⟩
    · simp only [Instr.build, Sem.run_bind, run_zero (ρ := ρ) hz, Result.andThen_ok, Sem.run_pure, run_underlying hu w, run_sizeOf' hs]
      rw [hc]
      simp only [h2]
      simp [AV.real]
    · simp only [AV.ok, AV.refs, refsL_eq, List.all_eq_true]
      exact fill_ok _ _ _ _ ho (cells_all_ok (zero_ok hz)) hp
  · cases hv
end
end Go.Am
