/-
  PROVED: for every input the law SeqtreeUndoes returns true, and its arguments read behind the call as they read before.
  CONDITIONS: none but those of the given statement.
-/
import Derived.Test.YtncmgbbbekabdaaMk
import Derived.Test.YtncmgbbbekabdaaRows
import Derived.WalkKit
import Derived.ProofKit
import Derived.OpenShut
import Derived.WideShapes
import Derived.ShutString
import Derived.ChangeOld
import Derived.Below
namespace Go.Proofs.Ytncmgbbbekabdaa.seqtreeUndoes
open Go.Am Go.ChangeShapes Go.WideShapes Go.ChangeAt Go.RowKit
set_option linter.unusedVariables false
theorem own : ownKnob Try.prog.godebug = none := by kernel_rfl
theorem laidOut : laidOutB Try.prog = true := by kernel_rfl
theorem walk {w : World} {v : Value} {L : List O3} {r : RL} (hs : ScrIn w v L r) (a d o : Int) : Calls Try.prog 4 #[v, .int .i64 a, .int .i64 d, .int .i64 o] w fun e w' => e = .returned (.bool true) ∧ Below w.heap.size w w' := by
  rcases hs with ⟨rfl, rfl⟩ | ⟨c, hc, hm, rfl, hb, hcell⟩
  · obtain ⟨v, h', rfl, hsem⟩ := sem4 (h := []) (q := none) (n := 0) (cc := .fix 0) (a := a) (d := d) (o := o) (by decide) (.inl ⟨rfl, rfl, rfl, rfl⟩)
    have hI : Inv (fun _ => r) (allOf w) w [] w := inv_start fun j o ho => by simp at ho
    have := hsem (fun _ => r) (allOf w) w w hI (fun z hz => by
      simp only [List.mem_cons, List.not_mem_nil, or_false] at hz
      rcases hz with rfl | rfl | rfl | rfl <;> rfl)
    exact Calls.mono this fun e w' ⟨ρ', h1, h2, _⟩ => ⟨h1, h2.below.below⟩
  · obtain ⟨v, h', rfl, hsem⟩ := sem4 (h := [.ro (cellsO L)]) (q := some (0, 0)) (n := L.length) (cc := .fix c) (a := a) (d := d) (o := o) (by omega) (.inr ⟨_, rfl, rfl, ops3_of L⟩)
    have hI : Inv (fun _ => r) (allOf w) w [.ro (cellsO L)] w := inv_start fun j o ho => by
      match j with
      | 0 =>
        simp only [List.getElem?_cons_zero, Option.some.injEq] at ho
        subst ho
        exact .inr ⟨_, rfl, cellsO_closed L, hb, fun i u hu => hcell _ i u hu⟩
      | n + 1 => simp at ho
    have := hsem (fun _ => r) (allOf w) w w hI (fun z hz => by
      simp only [List.mem_cons, List.not_mem_nil, or_false] at hz
      rcases hz with rfl | rfl | rfl | rfl
      · simp [AV.ok, AV.refs, live, AObj.there]; exact hc
      · rfl
      · rfl
      · rfl)
    exact Calls.mono this fun e w' ⟨ρ', h1, h2, _⟩ => ⟨h1, h2.below.below⟩
set_option maxRecDepth 100000 in
theorem lifted (os : Os) (started : os.Started) (H : Type) (enc : TypeId × Value → H) :
    ReturnsInHanded {} Try.checked os 4 .any (Rows.seqtreeUndoesSpec.pre6 enc Try.prog Try.f4 Rows.seqtreeUndoesRow.domain false) (Rows.seqtreeUndoesSpec.post enc Try.prog Try.f4 false true false false) := by
  refine returnsInHanded_of_change (C := Try.checked) own started (by kernel_rfl) Try.func4
    (ChangeSpec.witness6 (enc := enc) (C := Try.checked) false ⟨#[], #[.slice none 0 0, .int .i64 0, .int .i64 0, .int .i64 0], []⟩ 8 (by kernel_rfl) (by kernel_rfl) (by kernel_rfl) (by kernel_rfl)) ?_
  intro W base args ds gs before hval0 hW hcnd _
  have hval : ∀ (j : Nat) t v, Try.f4.params[j]? = some t → args[j]? = some v → Value.okWide Try.prog W .any base t v := hval0
  have hW' := hW
  obtain ⟨p, q, hA0, hV, rfl, hfz, hnd⟩ := hW
  have hA : DataW.TrodAll enc Try.prog W 0 (fun _ => true) true Try.f4.params.toList args.toList ds p := hA0
  rw [Try.params4] at hA hval
  obtain ⟨v0, vs0, d0, ds0, p0, q0, hargs, rfl, rfl, h0, r0⟩ := trodAll_cons hA
  obtain ⟨v1, vs1, d1, ds1, p1, q1, rfl, rfl, rfl, h1, r1⟩ := trodAll_cons r0
  obtain ⟨v2, vs2, d2, ds2, p2, q2, rfl, rfl, rfl, h2, r2⟩ := trodAll_cons r1
  obtain ⟨v3, vs3, d3, ds3, p3, q3, rfl, rfl, rfl, h3, r3⟩ := trodAll_cons r2
  obtain ⟨rfl, rfl, rfl⟩ := trodAll_nil r3
  obtain rfl : args = #[v0, v1, v2, v3] := by cases args; simp_all
  obtain ⟨rfl, rfl⟩ := trodVars_none hV
  have k0 := h0
  have lt0 : ∀ x ∈ p0, x.block < W.heap.size := by obtain ⟨m, hm⟩ := k0; exact DataW.trod_lt m _ _ _ hm
  obtain ⟨f0, t0⟩ := h0
  obtain ⟨L, r, hs⟩ := open_script (hval 0 36 v0 rfl rfl) t0
  obtain ⟨a1, rfl, rfl, rfl, w1⟩ := open_int Try.underlying3 (hval 1 3 v1 rfl rfl) h1
  obtain ⟨a2, rfl, rfl, rfl, w2⟩ := open_int Try.underlying2 (hval 2 2 v2 rfl rfl) h2
  obtain ⟨a3, rfl, rfl, rfl, w3⟩ := open_int Try.underlying3 (hval 3 3 v3 rfl rfl) h3
  clear hA0 hval0
  refine (walk hs a1 a2 a3).mono fun e W' ⟨he, bel⟩ => ?_
  subst he
  exact ⟨_, rfl, _, _, _, [], _, [], hW', trodAll_mk1 (shut_bool Try.underlying4 _), (trodAll_cons_mk (Below.trod laidOut (by kernel_rfl) (of_decide_eq_true (by kernel_rfl)) k0 bel lt0) (trodAll_cons_mk (shut_int Try.underlying3 w1) (trodAll_cons_mk (shut_int Try.underlying2 w2) (trodAll_cons_mk (shut_int Try.underlying3 w3) trodAll_mk0)))), rfl, bel.frame _, fun h => by cases h⟩
theorem over : Rows.seqtreeUndoesRow.holds Try.pinned (OpenSpec.ofChange Rows.seqtreeUndoesSpec) :=
  OpenClaim.holds_of_wide 4 Try.f4 rfl rfl rfl rfl rfl rfl rfl ⟨rfl, rfl, rfl, rfl, rfl⟩ rfl rfl rfl rfl rfl (by kernel_rfl) Try.func4 (by kernel_rfl)
    (of_decide_eq_true (by kernel_rfl)) (by unfold Func.isWrapper; first | (rw [if_pos (by decide +kernel)]; kernel_rfl) | (rw [if_neg (by decide +kernel)]; exact ⟨rfl, rfl⟩))
    (fun os started H enc _ => lifted os started H enc)
/-- ████ THE STATEMENT ████ -/
theorem proved : Rows.SeqtreeUndoesSaid := over
end Go.Proofs.Ytncmgbbbekabdaa.seqtreeUndoes
