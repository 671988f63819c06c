/-
  PROVED: for every input the law ShaNone returns true, and its argument reads behind the call as it read before.
  CONDITIONS: none but those of the given statement.
-/
import Derived.Test.YtiijphmpkmmpjaaRows
import Derived.WalkKit
import Derived.ProofKit
import Derived.OpenShut
import Derived.ShutString
import Derived.ChangeOld
import Derived.Below
import Derived.Test.YtiijphmpkmmpjaaShaX
namespace Go.Proofs.Ytiijphmpkmmpjaa.shaNone
open Go.Am Go.ChangeShapes Go.WideShapes Go.ChangeAt Go.RowKit
open Go.ChangeMaps (open_string shut_string)
set_option linter.unusedVariables false

theorem own : ownKnob Try.prog.godebug = none := by kernel_rfl
theorem laidOut : laidOutB Try.prog = true := by kernel_rfl

theorem law_walkg {P : Program} {S : Specs} (hm : P.follows .mixedOrders = true) (hS : S.OK P) {F : Nat → Tidy} {n : Nat} {f : FuncId} {fn : Func} (hf : P.funcs[f]? = some fn) {args : List AV} {h h' : AHeap} {v : Bool}
    (he : evalBodyg P S F n fn args h = some (.bool v, h')) {ρ : Rho} {w : World} (hI : Inv ρ (allOf w) w h w) (hok : ∀ x ∈ args, AV.ok h ρ x) :
    Calls P f (args.map (AV.real ρ)).toArray w fun e w' => e = .returned (.bool v) ∧ Below w.heap.size w w' :=
  (body_soundg hm hS hf he hI hok).mono fun _ _ ⟨_, h1, h2, _⟩ => ⟨h1, h2.below.below⟩
theorem row_ints (zs : List Int) : (zs.map (AV.int .u8)).all (isInt .u8) = true := by
  rw [List.all_eq_true]
  intro v hv
  simp only [List.mem_map] at hv
  obtain ⟨n, _, rfl⟩ := hv
  simp [isInt]

/-! ### STEP 1: THE WALK: the Go text returns true, AND WRITES NOTHING THAT WAS THERE: 'Below w.heap.size w w'' (Derived/Below.lean: '.refl', '.alloc', '.drew', '.setCell' at a new block, '.trans'). Open each 'RowIn' by 'rcases' AHEAD of 'go_enter'; part every test ahead of the walk. -/
theorem walk (a0 : Option Addr) (len0 cap0 : Nat) (z0 : List Int) (w : World) (w0 : RowIn .u8 w a0 len0 cap0 z0) :
    Calls Try.prog 7 #[.slice a0 len0 cap0] w fun e w' => e = .returned (.bool true) ∧ Below w.heap.size w w' := by
  obtain ⟨ρ, hρ⟩ : ∃ ρ : Rho, ρ = fun _ => inR a0 := ⟨_, rfl⟩
  have r0 : ρ 0 = inR a0 := by rw [hρ]
  have hI : Inv ρ (allOf w) w [inO .u8 a0 z0] w := inv_start fun j o ho => by
    match j with
    | 0 => simp only [List.getElem?_cons_zero, Option.some.injEq] at ho; subst ho; exact inO_start w0 r0
    | n + 1 => simp at ho
  have ok0 : AV.ok [inO .u8 a0 z0] ρ (inV 0 a0 len0 cap0) := inV_ok w0 rfl
  have e0 := inV_real (ρ := ρ) w0 r0
  have hok : ∀ x ∈ [inV 0 a0 len0 cap0], AV.ok [inO .u8 a0 z0] ρ x := fun x hx => by
    simp only [List.mem_cons, List.not_mem_nil, or_false] at hx
    subst hx
    exact ok0
  have hl : [inV 0 a0 len0 cap0].map (AV.real ρ) = [.slice a0 len0 cap0] := by rw [List.map_cons, List.map_nil, e0]
  rcases w0 with ⟨rfl, rfl, rfl, rfl⟩ | ⟨x, rfl, _, _, h1, h2, h3, _, _⟩
  · have hr := none_nil
    simp only [Option.map_eq_some_iff] at hr
    obtain ⟨⟨v, h⟩, hr, hv⟩ := hr
    simp only at hv
    subst hv
    have hw := law_walkg mixed SN7_ok Try.func7 (runG_sound SN7_q c7 hr) hI hok
    have hw2 := hw
    rw [show ([AV.sl none 0 (.fix 0)] : List AV) = [inV 0 none 0 0] from rfl, hl] at hw2
    exact hw2
  · obtain ⟨n, h, hr⟩ := none_some (z0.map (AV.int .u8)) (row_ints z0) len0 cap0 h1 (by rw [List.length_map]; omega)
    have hw := law_walkg mixed SB7_ok Try.func7 (runG_sound SB7_q c7 hr) hI hok
    have hw2 := hw
    rw [show ([AV.sl (some (0, 0)) len0 (.fix cap0)] : List AV) = [inV 0 (some x) len0 cap0] from rfl, hl] at hw2
    exact hw2

/-! ### THE ROW's STEP: WRITTEN OUT: LEAVE IT -/
set_option maxRecDepth 100000 in
theorem lifted (os : Os) (started : os.Started) (H : Type) (enc : TypeId × Value → H) :
    ReturnsInHanded {} Try.checked os 7 .any (Rows.shaNoneSpec.pre6 enc Try.prog Try.f7 Rows.shaNoneRow.domain false) (Rows.shaNoneSpec.post enc Try.prog Try.f7 false true false false) := by
  refine returnsInHanded_of_change (C := Try.checked) own started (by kernel_rfl) Try.func7
    (ChangeSpec.witness6 (enc := enc) (C := Try.checked) false ⟨#[], #[.slice none 0 0], []⟩ 8 (by kernel_rfl) (by kernel_rfl) (by kernel_rfl) (by kernel_rfl)) ?_
  intro W base args ds gs before hval0 hW hcnd _
  have hval : ∀ (j : Nat) t v, Try.f7.params[j]? = some t → args[j]? = some v → Value.okWide Try.prog W .any base t v := hval0
  have hW' := hW
  obtain ⟨p, q, hA0, hV, rfl, hfz, hnd⟩ := hW
  have hA : DataW.TrodAll enc Try.prog W 0 (fun _ => true) true Try.f7.params.toList args.toList ds p := hA0
  rw [Try.params7] at hA hval
  obtain ⟨v0, vs0, d0, ds0, p0, q0, hargs, rfl, rfl, h0, r0⟩ := trodAll_cons hA
  obtain ⟨rfl, rfl, rfl⟩ := trodAll_nil r0
  obtain rfl : args = #[v0] := by cases args; simp_all
  obtain ⟨rfl, rfl⟩ := trodVars_none hV
  obtain ⟨a0, len0, cap0, rfl⟩ := okWide_slice Try.underlying23 (hval 0 23 v0 rfl rfl)
  have k0 := h0
  have lt0 : ∀ x ∈ p0, x.block < W.heap.size := by obtain ⟨m, hm⟩ := k0; exact DataW.trod_lt m _ _ _ hm
  obtain ⟨z0, w0⟩ : ∃ zs, RowIn .u8 W a0 len0 cap0 zs := by
    obtain ⟨fuel, hf⟩ := h0
    rcases open_ints Try.underlying23 Try.underlying5 (by kernel_rfl) hf with ⟨hcs, _⟩ | ⟨x, l, c, zs, hcs, _, hl, hm, hz, _, hcell, hwz⟩
    · simp [Value.cells] at hcs
      obtain ⟨rfl, rfl, rfl⟩ := hcs
      exact ⟨[], .inl ⟨rfl, rfl, rfl, rfl⟩⟩
    · simp [Value.cells] at hcs
      obtain ⟨rfl, rfl, rfl⟩ := hcs
      exact ⟨zs, .inr ⟨_, rfl, (okWide_row Try.underlying23 (hval 0 23 _ rfl rfl)).1, (okWide_row Try.underlying23 (hval 0 23 _ rfl rfl)).2, hl, hm, by simpa using hz, hcell, hwz⟩⟩
  clear hA0 hval0
  refine (walk a0 len0 cap0 z0 W w0).mono fun e W' ⟨he, bel⟩ => ?_
  subst he
  exact ⟨_, rfl, _, _, _, [], _, [], hW', trodAll_mk1 (shut_bool Try.underlying4 _), (trodAll_cons_mk (Below.trod laidOut (by kernel_rfl) (of_decide_eq_true (by kernel_rfl)) k0 bel lt0) trodAll_mk0), rfl, bel.frame _, fun h => by cases h⟩

theorem over : Rows.shaNoneRow.holds Try.pinned (OpenSpec.ofChange Rows.shaNoneSpec) :=
  OpenClaim.holds_of_wide 7 Try.f7 rfl rfl rfl rfl rfl rfl rfl ⟨rfl, rfl, rfl, rfl, rfl⟩ rfl rfl rfl rfl rfl (by kernel_rfl) Try.func7 (by kernel_rfl)
    (of_decide_eq_true (by kernel_rfl)) (by unfold Func.isWrapper; first | (rw [if_pos (by decide +kernel)]; kernel_rfl) | (rw [if_neg (by decide +kernel)]; exact ⟨rfl, rfl⟩))
    (fun os started H enc _ => lifted os started H enc)

/-- ████ THE STATEMENT ████ -/
theorem proved : Rows.ShaNoneSaid := over
end Go.Proofs.Ytiijphmpkmmpjaa.shaNone
