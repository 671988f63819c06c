/- From a law's call to a run of the abstract machine. -/
import Derived.Test.YtfnlokknpldkgaaAmX
set_option linter.unusedVariables false
set_option linter.unusedSimpArgs false
namespace Go.Am
open Go Go.RowKit
/-- The memory that a call finds: rows that it may only read. -/
theorem inv_start {w : World} {ρ : Rho} {hs : AHeap} (h : ∀ j o, hs[j]? = some o → o = .dead ∨ ∃ cs, o = .ro cs ∧ cs.all AV.closed = true ∧ (ρ j).blk < w.heap.size ∧ ∀ i v, cs[i]? = some v → w.cell? ⟨(ρ j).blk, (ρ j).off + i, none⟩ = some (v.real ρ)) :
    Inv ρ (allOf w) w hs w := by
  refine ⟨Kept.refl _ _, fun _ hk => hk, fun k o ho => ?_, fun k k' o o' ho _ h1 => ?_, fun k k' o cs ho _ h1 => ?_, fun k o ho => ?_⟩
  · rcases h k o ho with rfl | ⟨cs, rfl, _, h2, h3⟩
    · trivial
    · exact ⟨h2, h3⟩
  · rcases h k o ho with rfl | ⟨cs, rfl, _⟩ <;> cases h1
  · rcases h k o ho with rfl | ⟨cs, rfl, _⟩ <;> cases h1
  · rcases h k o ho with rfl | ⟨cs, rfl, h2, _⟩
    · rfl
    · simp only [AObj.refs, List.all_eq_true] at h2 ⊢
      exact fun v hv => closed_ok (h2 v hv) [] ρ |> fun h => refs_mono (fun k hk => by simp [live] at hk) v h
theorem okWide_row {P : Program} {w : World} {r : Reach} {base : Nat} {t e : TypeId} {x : Addr} {len cap : Nat} (ht : P.underlying t = some (.slice e)) (h : Value.okWide P w r base t (.slice (some x) len cap)) : x.spot = none ∧ x.block < w.heap.size := by
  simp only [Value.okWide, ht, Cell.okWide, Cell.ok] at h
  obtain ⟨-, -, -, h1, row, cells, h2, -⟩ := h
  refine ⟨h1, ?_⟩
  rcases Nat.lt_or_ge x.block w.heap.size with q | q
  · exact q
  · simp [World.shape?, Array.getElem?_eq_none q] at h2
end Go.Am
