/-
  PROVED: for every input the law SeqtreeDoes returns true, and its arguments read behind the call as they read before.
  CONDITIONS: none but those of the given statement.
-/
import Derived.Test.YtncmgbbbekabdaaMk
import Derived.Test.YtncmgbbbekabdaaMo
import Derived.Test.YtncmgbbbekabdaaRows
import Derived.WalkKit
import Derived.ProofKit
import Derived.OpenShut
import Derived.WideShapes
import Derived.ShutString
import Derived.ChangeOld
import Derived.Below
namespace Go.Proofs.Ytncmgbbbekabdaa.seqtreeDoes
open Go.Am Go.ChangeShapes Go.WideShapes Go.ChangeAt Go.RowKit
set_option linter.unusedVariables false
theorem own : ownKnob Try.prog.godebug = none := by kernel_rfl
theorem laidOut : laidOutB Try.prog = true := by kernel_rfl
theorem walk {w : World} {v : Value} {L : List O3} {r : RL} (hs : ScrIn w v L r) : Calls Try.prog 5 #[v] w fun e w' => e = .returned (.bool true) ∧ Below w.heap.size w w' := by
  rcases hs with ⟨rfl, rfl⟩ | ⟨c, hc, hm, rfl, hb, hcell⟩
  · obtain ⟨v, h', rfl, hsem⟩ := sem5 (h := []) (q := none) (n := 0) (cc := .fix 0) (by decide) (.inl ⟨rfl, rfl, rfl, rfl⟩)
    have hI : Inv (fun _ => r) (allOf w) w [] w := inv_start fun j o ho => by simp at ho
    have := hsem (fun _ => r) (allOf w) w w hI (fun z hz => by
      simp only [List.mem_cons, List.not_mem_nil, or_false] at hz
      subst hz; rfl)
    exact Calls.mono this fun e w' ⟨ρ', h1, h2, _⟩ => ⟨h1, h2.below.below⟩
  · obtain ⟨v, h', rfl, hsem⟩ := sem5 (h := [.ro (cellsO L)]) (q := some (0, 0)) (n := L.length) (cc := .fix c) (by omega) (.inr ⟨_, rfl, rfl, ops3_of L⟩)
    have hI : Inv (fun _ => r) (allOf w) w [.ro (cellsO L)] w := inv_start fun j o ho => by
      match j with
      | 0 =>
        simp only [List.getElem?_cons_zero, Option.some.injEq] at ho
        subst ho
        exact .inr ⟨_, rfl, cellsO_closed L, hb, fun i u hu => hcell _ i u hu⟩
      | n + 1 => simp at ho
    have := hsem (fun _ => r) (allOf w) w w hI (fun z hz => by
      simp only [List.mem_cons, List.not_mem_nil, or_false] at hz
      subst hz
      simp [AV.ok, AV.refs, live, AObj.there]; exact hc)
    exact Calls.mono this fun e w' ⟨ρ', h1, h2, _⟩ => ⟨h1, h2.below.below⟩
set_option maxRecDepth 100000 in
theorem lifted (os : Os) (started : os.Started) (H : Type) (enc : TypeId × Value → H) :
    ReturnsInHanded {} Try.checked os 5 .any (Rows.seqtreeDoesSpec.pre6 enc Try.prog Try.f5 Rows.seqtreeDoesRow.domain false) (Rows.seqtreeDoesSpec.post enc Try.prog Try.f5 false true false false) := by
  refine returnsInHanded_of_change (C := Try.checked) own started (by kernel_rfl) Try.func5
    (ChangeSpec.witness6 (enc := enc) (C := Try.checked) false ⟨#[], #[.slice none 0 0], []⟩ 8 (by kernel_rfl) (by kernel_rfl) (by kernel_rfl) (by kernel_rfl)) ?_
  intro W base args ds gs before hval0 hW hcnd _
  have hval : ∀ (j : Nat) t v, Try.f5.params[j]? = some t → args[j]? = some v → Value.okWide Try.prog W .any base t v := hval0
  have hW' := hW
  obtain ⟨p, q, hA0, hV, rfl, hfz, hnd⟩ := hW
  have hA : DataW.TrodAll enc Try.prog W 0 (fun _ => true) true Try.f5.params.toList args.toList ds p := hA0
  rw [Try.params5] at hA hval
  obtain ⟨v0, vs0, d0, ds0, p0, q0, hargs, rfl, rfl, h0, r0⟩ := trodAll_cons hA
  obtain ⟨rfl, rfl, rfl⟩ := trodAll_nil r0
  obtain rfl : args = #[v0] := by cases args; simp_all
  obtain ⟨rfl, rfl⟩ := trodVars_none hV
  have k0 := h0
  have lt0 : ∀ x ∈ p0, x.block < W.heap.size := by obtain ⟨m, hm⟩ := k0; exact DataW.trod_lt m _ _ _ hm
  obtain ⟨f0, t0⟩ := h0
  obtain ⟨L, r, hs⟩ := open_script (hval 0 36 v0 rfl rfl) t0
  clear hA0 hval0
  refine (walk hs).mono fun e W' ⟨he, bel⟩ => ?_
  subst he
  exact ⟨_, rfl, _, _, _, [], _, [], hW', trodAll_mk1 (shut_bool Try.underlying4 _), (trodAll_cons_mk (Below.trod laidOut (by kernel_rfl) (of_decide_eq_true (by kernel_rfl)) k0 bel lt0) trodAll_mk0), rfl, bel.frame _, fun h => by cases h⟩
theorem over : Rows.seqtreeDoesRow.holds Try.pinned (OpenSpec.ofChange Rows.seqtreeDoesSpec) :=
  OpenClaim.holds_of_wide 5 Try.f5 rfl rfl rfl rfl rfl rfl rfl ⟨rfl, rfl, rfl, rfl, rfl⟩ rfl rfl rfl rfl rfl (by kernel_rfl) Try.func5 (by kernel_rfl)
    (of_decide_eq_true (by kernel_rfl)) (by unfold Func.isWrapper; first | (rw [if_pos (by decide +kernel)]; kernel_rfl) | (rw [if_neg (by decide +kernel)]; exact ⟨rfl, rfl⟩))
    (fun os started H enc _ => lifted os started H enc)
/-- ████ THE STATEMENT ████ -/
theorem proved : Rows.SeqtreeDoesSaid := over
end Go.Proofs.Ytncmgbbbekabdaa.seqtreeDoes
