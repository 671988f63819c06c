/- Contracts of functions that leave memory as it was, over memory itself. -/
import Derived.Test.YtfnlokknpldkgaaAmHf
set_option linter.unusedVariables false
namespace Go.Am
open Go Go.RowKit
/-- Numbers that name nothing may name anything. -/
theorem inv_agree {ρ ρ' : Rho} {B : Fr} {w0 w : World} {h : AHeap} (hI : Inv ρ' B w0 h w) (ha : ∀ i, live h i = true → ρ' i = ρ i) : Inv ρ B w0 h w := by
  have hl : ∀ {k : Nat} {o : AObj}, h[k]? = some o → o ≠ .hole → ρ' k = ρ k := fun hk ho => ha _ (by
    unfold live; rw [hk]; cases ‹AObj› <;> first | rfl | exact absurd rfl ho)
  have hown : ∀ {o : AObj}, o.own = true → o ≠ .hole := fun ho e => by subst e; cases ho
  refine ⟨hI.below, hI.size, fun k o hk => ?_, fun k k' o o' hk hk' ho ho' hn => ?_, fun k k' o cs hk hk' ho => ?_, fun k o hk => refs_obj_mono (fun i hi => ⟨hi, by rw [ha i hi]⟩) (hI.wf k o hk)⟩
  · by_cases ho : o = .hole
    · subst ho; trivial
    · have := hI.obj k o hk
      rw [hl hk ho] at this
      exact objRel_congr (fun i hi => (ha i hi).symm) (hI.wf k o hk) this
  · rw [← hl hk (hown ho), ← hl hk' (hown ho')]
    exact hI.sep k k' o o' hk hk' ho ho' hn
  · rw [← hl hk (hown ho), ← hl hk' (by rintro ⟨⟩)]
    exact hI.sepr k k' o cs hk hk' ho
/-- **A contract of a function that leaves memory as it was, over memory itself.** -/
theorem quiet_here {P : Program} {f : FuncId} {fn : Func} (hf : HasText P f fn) {s : List AV → AHeap → Option AV}
    (hs : ∀ args h v, s args h = some v → v.closed = true ∧ CallSem P f args h v h)
    (hi : ∀ args h k o, h[k]? = some .hole → (∃ ρ : Rho, (∀ x ∈ args, AV.ok h ρ x) ∧ ∀ (j : Nat) (u : AObj), h[j]? = some u → u.refs (live h) (fun k => (ρ k).cap) = true) → s args (h.set k o) = s args h) : QuietOK P f s := by
  refine ⟨fun args h v hv ρ B w0 w hI hok => ?_, hi, fn, hf.1, hf.2.1, hf.2.2⟩
  obtain ⟨hc, hsem⟩ := hs args h v hv
  refine ⟨closed_ok hc _ _, (hsem ρ B w0 w hI hok).mono fun e w' ⟨ρ', h1, h2, h3, h4⟩ => ⟨by rw [h1, closed_real hc ρ' ρ], inv_agree h2 fun i hi => (h3 i hi).2⟩⟩
/-- A row that is named is made. -/
theorem named_row {h : AHeap} {c : Nat → Nat} {k k' o : Nat} {x : AObj} (hk : h[k]? = some .hole) (hv : (AV.ptr (some (k', o))).refs (live h) c = true) : (h.set k x)[k']? = h[k']? := by
  have h1 : live h k' = true := hv
  have h2 : k ≠ k' := fun e => by subst e; unfold live at h1; rw [hk] at h1; cases h1
  exact List.getElem?_set_ne h2
/-- Rows stay as they were. -/
def Grow (h h' : AHeap) : Prop := ∀ (j : Nat) (o : AObj), h[j]? = some o → h'[j]? = some o
theorem Grow.refl (h : AHeap) : Grow h h := fun _ _ h => h
theorem Grow.trans {a b c : AHeap} (h : Grow a b) (h' : Grow b c) : Grow a c := fun j o hj => h' j o (h j o hj)
theorem lt_of_row {h : AHeap} {j : Nat} {o : AObj} (hj : h[j]? = some o) : j < h.length := by
  rcases Nat.lt_or_ge j h.length with g | g
  · exact g
  · rw [List.getElem?_eq_none_iff.2 g] at hj; cases hj
theorem Grow.len {h h' : AHeap} (hg : Grow h h') : h.length ≤ h'.length := by
  rcases Nat.lt_or_ge h'.length h.length with g | g
  · have := lt_of_row (hg h'.length _ (List.getElem?_eq_getElem g)); omega
  · exact g
theorem Grow.set {h h' : AHeap} (hg : Grow h h') {k : Nat} (hk : h.length ≤ k) (o : AObj) : Grow h (h'.set k o) := fun j o' hj => by
  have := lt_of_row hj
  rw [List.getElem?_set_ne (by omega)]; exact hg j o' hj
end Go.Am
