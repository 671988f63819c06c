/-
  PROVED: for every input the law ScopeWords returns true, and its arguments read behind the call as they read before.
  CONDITIONS: none but those of the given statement.
-/
import Derived.Test.YtfnlokknpldkgaaMc
import Derived.Test.YtfnlokknpldkgaaRows
import Derived.WalkKit
import Derived.ProofKit
import Derived.OpenShut
import Derived.WideShapes
import Derived.ShutString
import Derived.ChangeOld
import Derived.Below
namespace Go.Proofs.Ytfnlokknpldkgaa.scopeWords
open Go.Am Go.ChangeShapes Go.WideShapes Go.ChangeAt Go.RowKit
open Go.ChangeMaps (open_string shut_string)
set_option linter.unusedVariables false
theorem own : ownKnob Try.prog.godebug = none := by kernel_rfl
theorem laidOut : laidOutB Try.prog = true := by kernel_rfl
theorem walk {w : World} {v : Value} {d : DefA} {sl : AV} {L : List TabI} {r : RL} (hs : DefIn w v d sl L r) (s : ByteArray) : Calls Try.prog 6 #[v, .string s] w fun e w' => e = .returned (.bool true) ∧ Below w.heap.size w w' := by
  obtain ⟨hv, hs⟩ := hs
  obtain rfl := hv (fun _ => r) rfl
  rcases hs with ⟨rfl, rfl⟩ | ⟨c, rfl, hlc, hc, hb, hcell⟩
  · obtain ⟨v, h', rfl, hsem⟩ := sem6 (h := []) (a := d.a) (b := d.b) (s := s.data.toList) (m := d.m) (p1 := d.p1) (p2 := d.p2) (p3 := d.p3) (l1 := d.l1) (c1 := d.c1) (l2 := d.l2) (c2 := d.c2) (l3 := d.l3) (c3 := d.c3) (q := none) (n := 0) (c := .fix 0) (.inl ⟨rfl, rfl, rfl⟩)
    have hI : Go.Am.Inv (fun _ => r) (allOf w) w [] w := inv_start fun j o ho => by simp at ho
    have := hsem (fun _ => r) (allOf w) w w hI (fun z hz => by
      simp only [List.mem_cons, List.not_mem_nil, or_false] at hz
      rcases hz with rfl | rfl <;> rfl)
    rw [List.map_cons, List.map_cons, List.map_nil, str_back] at this
    exact Calls.mono this fun e w' ⟨ρ', h1, h2, _⟩ => ⟨h1, h2.below.below⟩
  · obtain ⟨v, h', rfl, hsem⟩ := sem6 (h := [.ro (cellsT L)]) (a := d.a) (b := d.b) (s := s.data.toList) (m := d.m) (p1 := d.p1) (p2 := d.p2) (p3 := d.p3) (l1 := d.l1) (c1 := d.c1) (l2 := d.l2) (c2 := d.c2) (l3 := d.l3) (c3 := d.c3) (q := some (0, 0)) (n := L.length) (c := .fix c) (.inr ⟨0, L.map (·.nm), cellsT L, rfl, by simp, rfl, cellsT_names L, by simpa using hc⟩)
    have hI : Go.Am.Inv (fun _ => r) (allOf w) w [.ro (cellsT L)] w := inv_start fun j o ho => by
      match j with
      | 0 =>
        simp only [List.getElem?_cons_zero, Option.some.injEq] at ho
        subst ho
        exact .inr ⟨_, rfl, cellsT_closed L, hb, fun i u hu => hcell _ i u hu⟩
      | n + 1 => simp at ho
    have := hsem (fun _ => r) (allOf w) w w hI (fun z hz => by
      simp only [List.mem_cons, List.not_mem_nil, or_false] at hz
      rcases hz with rfl | rfl
      · simp [AV.ok, AV.refs, AV.refsL, live, AObj.there]; exact hlc
      · rfl)
    rw [List.map_cons, List.map_cons, List.map_nil, str_back] at this
    exact Calls.mono this fun e w' ⟨ρ', h1, h2, _⟩ => ⟨h1, h2.below.below⟩
set_option maxRecDepth 100000 in
theorem lifted (os : Os) (started : os.Started) (H : Type) (enc : TypeId × Value → H) :
    ReturnsInHanded {} Try.checked os 6 .any (Rows.scopeWordsSpec.pre6 enc Try.prog Try.f6 Rows.scopeWordsRow.domain false) (Rows.scopeWordsSpec.post enc Try.prog Try.f6 false true false false) := by
  refine returnsInHanded_of_change (C := Try.checked) own started (by kernel_rfl) Try.func6
    (ChangeSpec.witness6 (enc := enc) (C := Try.checked) false ⟨#[], #[.agg #[.string ⟨#[]⟩, .string ⟨#[]⟩, .int .i64 0, .slice none 0 0, .slice none 0 0, .slice none 0 0, .slice none 0 0], .string ⟨#[]⟩], []⟩ 8 (by kernel_rfl) (by kernel_rfl) (by kernel_rfl) (by kernel_rfl)) ?_
  intro W base args ds gs before hval0 hW hcnd _
  have hval : ∀ (j : Nat) t v, Try.f6.params[j]? = some t → args[j]? = some v → Value.okWide Try.prog W .any base t v := hval0
  have hW' := hW
  obtain ⟨p, q, hA0, hV, rfl, hfz, hnd⟩ := hW
  have hA : DataW.TrodAll enc Try.prog W 0 (fun _ => true) true Try.f6.params.toList args.toList ds p := hA0
  rw [Try.params6] at hA hval
  obtain ⟨v0, vs0, d0, ds0, p0, q0, hargs, rfl, rfl, h0, r0⟩ := trodAll_cons hA
  obtain ⟨v1, vs1, d1, ds1, p1, q1, rfl, rfl, rfl, h1, r1⟩ := trodAll_cons r0
  obtain ⟨rfl, rfl, rfl⟩ := trodAll_nil r1
  obtain rfl : args = #[v0, v1] := by cases args; simp_all
  obtain ⟨rfl, rfl⟩ := trodVars_none hV
  have k0 := h0
  have lt0 : ∀ x ∈ p0, x.block < W.heap.size := by obtain ⟨m, hm⟩ := k0; exact DataW.trod_lt m _ _ _ hm
  obtain ⟨f0, t0⟩ := h0
  obtain ⟨d, sl, L, r, hs⟩ := open_def (hval 0 29 v0 rfl rfl) t0
  obtain ⟨s, rfl, rfl, rfl, w1⟩ := open_string Try.underlying9 (hval 1 9 v1 rfl rfl) h1
  clear hA0 hval0
  refine (walk hs s).mono fun e W' ⟨he, bel⟩ => ?_
  subst he
  exact ⟨_, rfl, _, _, _, [], _, [], hW', trodAll_mk1 (shut_bool Try.underlying4 _), (trodAll_cons_mk (Below.trod laidOut (by kernel_rfl) (of_decide_eq_true (by kernel_rfl)) k0 bel lt0) (trodAll_cons_mk (shut_string Try.underlying9 w1) trodAll_mk0)), rfl, bel.frame _, fun h => by cases h⟩
theorem over : Rows.scopeWordsRow.holds Try.pinned (OpenSpec.ofChange Rows.scopeWordsSpec) :=
  OpenClaim.holds_of_wide 6 Try.f6 rfl rfl rfl rfl rfl rfl rfl ⟨rfl, rfl, rfl, rfl, rfl⟩ rfl rfl rfl rfl rfl (by kernel_rfl) Try.func6 (by kernel_rfl)
    (of_decide_eq_true (by kernel_rfl)) (by unfold Func.isWrapper; first | (rw [if_pos (by decide +kernel)]; kernel_rfl) | (rw [if_neg (by decide +kernel)]; exact ⟨rfl, rfl⟩))
    (fun os started H enc _ => lifted os started H enc)
/-- ████ THE STATEMENT ████ -/
theorem proved : Rows.ScopeWordsSaid := over
end Go.Proofs.Ytfnlokknpldkgaa.scopeWords
