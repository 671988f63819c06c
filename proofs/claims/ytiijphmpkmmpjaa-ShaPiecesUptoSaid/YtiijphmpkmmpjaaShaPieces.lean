/-
  PROVED: for every input of the second form's bulk the law ShaPieces returns true, and its arguments read behind the call as they read before.
  CONDITIONS: none but those of the given statement.
-/
import Derived.Test.YtiijphmpkmmpjaaSk
import Derived.Test.YtiijphmpkmmpjaaRows
import Derived.WalkKit
import Derived.ProofKit
import Derived.OpenShut
import Derived.ShutString
import Derived.ChangeOld
import Derived.Below
import Derived.Carry
import Derived.Deep.DeepHandedRow
import Derived.JoinedCond
import Derived.LaidLaws
namespace Go.Proofs.Ytiijphmpkmmpjaa.shaPieces
open Go.Am Go.ChangeShapes Go.WideShapes Go.ChangeAt Go.RowKit
open Go.ChangeMaps (open_string shut_string)
set_option linter.unusedVariables false
theorem own : ownKnob Try.prog.godebug = none := by kernel_rfl
theorem laidOut : laidOutB Try.prog = true := by kernel_rfl
theorem row_ints (zs : List Int) : (zs.map (AV.int .u8)).all (isInt .u8) = true := by
  rw [List.all_eq_true]
  intro v hv
  simp only [List.mem_map] at hv
  obtain ⟨n, _, rfl⟩ := hv
  simp [isInt]
theorem u8_range {n : Int} (h : (Lit.int .u8 n).wf = true) : 0 ≤ n ∧ n < 256 := by
  simp only [Lit.wf, Bool.and_eq_true, decide_eq_true_eq] at h
  have e1 : IntKind.u8.min = 0 := by decide
  have e2 : IntKind.u8.max = 255 := by decide
  omega
theorem row_cut {zs : List Int} {m : Nat} (hm : m ≤ zs.length) (hw : ∀ n ∈ zs, (Lit.int .u8 n).wf = true) : ∀ i, i < m → ∃ z : Int, (zs.map (AV.int .u8))[i]? = some (.int .u8 z) ∧ 0 ≤ z ∧ z < 256 := fun i hi => by
  have hl : i < zs.length := by omega
  exact ⟨zs[i], by rw [List.getElem?_map, List.getElem?_eq_getElem hl]; rfl, u8_range (hw _ (List.getElem_mem hl))⟩
theorem run (a0 : Option Addr) (len0 cap0 : Nat) (z0 : List Int) (a1 : Option Addr) (len1 cap1 : Nat) (z1 : List Int) (a2 : Int) (w : World) (w0 : RowIn .u8 w a0 len0 cap0 z0) (w1 : RowIn .u8 w a1 len1 cap1 z1) (hb : len1 ≤ 1048576) :
    ∃ v h', v = .bool true ∧ CallSem Try.prog 6 [inV 0 a0 len0 cap0, inV 1 a1 len1 cap1, .int .u8 a2] [inO .u8 a0 z0, inO .u8 a1 z1] v h' := by
  rcases w0 with ⟨rfl, rfl, rfl, rfl⟩ | ⟨x, rfl, _, _, h1, h2, h3, _, h5⟩ <;> rcases w1 with ⟨rfl, rfl, rfl, rfl⟩ | ⟨y, rfl, _, _, g1, g2, g3, _, g5⟩
  · exact sem6e
  · exact sem6n (cs := z1.map (AV.int .u8)) (m := len1) (cc := cap1) (row_ints z1) (row_cut (by omega) g5) hb
  · exact sem6c (d := z0.map (AV.int .u8)) (len := len0) (cap := cap0) (row_ints z0) h1 (by rw [List.length_map]; omega)
  · exact sem6 (d := z0.map (AV.int .u8)) (cs := z1.map (AV.int .u8)) (len := len0) (cap := cap0) (m := len1) (cc := cap1) (row_ints z0) (row_ints z1) (row_cut (by omega) g5) h1 (by rw [List.length_map]; omega) hb
theorem walk (a0 : Option Addr) (len0 cap0 : Nat) (z0 : List Int) (a1 : Option Addr) (len1 cap1 : Nat) (z1 : List Int) (a2 : Int) (w : World) (w0 : RowIn .u8 w a0 len0 cap0 z0) (w1 : RowIn .u8 w a1 len1 cap1 z1) (hb : len1 ≤ 1048576) :
    Calls Try.prog 6 #[.slice a0 len0 cap0, .slice a1 len1 cap1, .int .u8 a2] w fun e w' => e = .returned (.bool true) ∧ Below w.heap.size w w' := by
  obtain ⟨ρ, hρ⟩ : ∃ ρ : Rho, ρ = fun j => if j = 0 then inR a0 else inR a1 := ⟨_, rfl⟩
  have r0 : ρ 0 = inR a0 := by rw [hρ]; rfl
  have r1 : ρ 1 = inR a1 := by rw [hρ]; rfl
  have hI : Inv ρ (allOf w) w [inO .u8 a0 z0, inO .u8 a1 z1] w := inv_start fun j o ho => by
    match j with
    | 0 => simp only [List.getElem?_cons_zero, Option.some.injEq] at ho; subst ho; exact inO_start w0 r0
    | 1 => simp only [List.getElem?_cons_succ, List.getElem?_cons_zero, Option.some.injEq] at ho; subst ho; exact inO_start w1 r1
    | j + 2 => simp at ho
  have ok0 : AV.ok [inO .u8 a0 z0, inO .u8 a1 z1] ρ (inV 0 a0 len0 cap0) := inV_ok w0 rfl
  have ok1 : AV.ok [inO .u8 a0 z0, inO .u8 a1 z1] ρ (inV 1 a1 len1 cap1) := inV_ok w1 rfl
  have e0 := inV_real (ρ := ρ) w0 r0
  have e1 := inV_real (ρ := ρ) w1 r1
  obtain ⟨v, h', rfl, hsem⟩ := run a0 len0 cap0 z0 a1 len1 cap1 z1 a2 w w0 w1 hb
  have hw := hsem ρ (allOf w) w w hI (fun x hx => by
    simp only [List.mem_cons, List.not_mem_nil, or_false] at hx
    rcases hx with rfl | rfl | rfl
    · exact ok0
    · exact ok1
    · rfl)
  simp only [List.map_cons, List.map_nil, e0, e1] at hw
  exact Calls.mono hw fun e w' ⟨ρ', h1, h2, _⟩ => ⟨h1, h2.below.below⟩
theorem bulk_lits {H : Type} (k : IntKind) : ∀ zs : List Int, zs.length ≤ Rows.uptoBulkAll (lits (H := H) k zs)
  | [] => Nat.zero_le _
  | z :: zs => by
    have h := bulk_lits (H := H) k zs
    have e : Rows.uptoBulkAll (lits (H := H) k (z :: zs)) = Rows.uptoBulk (DataW.lit (.int k z) : DataW H) + Rows.uptoBulkAll (lits (H := H) k zs) := rfl
    have e2 : Rows.uptoBulk (DataW.lit (.int k z) : DataW H) = 1 := rfl
    rw [e, e2, List.length_cons]
    omega
set_option maxRecDepth 100000 in
theorem contract (H : Type) (enc : TypeId × Value → H) (W : World) (base : Nat) (args : Array Value) (ds gs : List (DataW H)) (before : List MemPlace)
    (hval0 : ∀ (j : Nat) t v, Try.f6.params[j]? = some t → args[j]? = some v → Value.okWide Try.prog W .any base t v)
    (hW : DataW.Whole enc Try.prog Try.f6.params.toList Rows.shaPiecesSpec.vars false W args.toList ds gs before) (hbulk : Rows.uptoSmall H (ds ++ gs) = true) :
    Calls Try.prog 6 args W fun e W' => ∃ v, e = .returned v ∧ Rows.shaPiecesSpec.post enc Try.prog Try.f6 false true false false W args v W' := by
  have hval : ∀ (j : Nat) t v, Try.f6.params[j]? = some t → args[j]? = some v → Value.okWide Try.prog W .any base t v := hval0
  have hW' := hW
  obtain ⟨p, q, hA0, hV, rfl, hfz, hnd⟩ := hW
  have hA : DataW.TrodAll enc Try.prog W 0 (fun _ => true) true Try.f6.params.toList args.toList ds p := hA0
  rw [Try.params6] at hA hval
  obtain ⟨v0, vs0, d0, ds0, p0, q0, hargs, rfl, rfl, h0, r0⟩ := trodAll_cons hA
  obtain ⟨v1, vs1, d1, ds1, p1, q1, rfl, rfl, rfl, h1, r1⟩ := trodAll_cons r0
  obtain ⟨v2, vs2, d2, ds2, p2, q2, rfl, rfl, rfl, h2, r2⟩ := trodAll_cons r1
  obtain ⟨rfl, rfl, rfl⟩ := trodAll_nil r2
  obtain rfl : args = #[v0, v1, v2] := by cases args; simp_all
  obtain ⟨rfl, rfl⟩ := trodVars_none hV
  obtain ⟨a0, len0, cap0, rfl⟩ := okWide_slice Try.underlying23 (hval 0 23 v0 rfl rfl)
  have k0 := h0
  have lt0 : ∀ x ∈ p0, x.block < W.heap.size := by obtain ⟨m, hm⟩ := k0; exact DataW.trod_lt m _ _ _ hm
  obtain ⟨z0, w0⟩ : ∃ zs, RowIn .u8 W a0 len0 cap0 zs := by
    obtain ⟨fuel, hf⟩ := h0
    rcases open_ints Try.underlying23 Try.underlying5 (by kernel_rfl) hf with ⟨hcs, _⟩ | ⟨x, l, c, zs, hcs, _, hl, hm, hz, _, hcell, hwz⟩
    · simp [Value.cells] at hcs
      obtain ⟨rfl, rfl, rfl⟩ := hcs
      exact ⟨[], .inl ⟨rfl, rfl, rfl, rfl⟩⟩
    · simp [Value.cells] at hcs
      obtain ⟨rfl, rfl, rfl⟩ := hcs
      exact ⟨zs, .inr ⟨_, rfl, (okWide_row Try.underlying23 (hval 0 23 _ rfl rfl)).1, (okWide_row Try.underlying23 (hval 0 23 _ rfl rfl)).2, hl, hm, by simpa using hz, hcell, hwz⟩⟩
  obtain ⟨a1, len1, cap1, rfl⟩ := okWide_slice Try.underlying23 (hval 1 23 v1 rfl rfl)
  have k1 := h1
  have lt1 : ∀ x ∈ p1, x.block < W.heap.size := by obtain ⟨m, hm⟩ := k1; exact DataW.trod_lt m _ _ _ hm
  obtain ⟨z1, w1, hd1⟩ : ∃ zs, RowIn .u8 W a1 len1 cap1 zs ∧ len1 ≤ Rows.uptoBulk d1 := by
    obtain ⟨fuel, hf⟩ := h1
    rcases open_ints Try.underlying23 Try.underlying5 (by kernel_rfl) hf with ⟨hcs, _⟩ | ⟨x, l, c, zs, hcs, _, hl, hm, hz, hx, hcell, hwz⟩
    · simp [Value.cells] at hcs
      obtain ⟨rfl, rfl, rfl⟩ := hcs
      exact ⟨[], .inl ⟨rfl, rfl, rfl, rfl⟩, Nat.zero_le _⟩
    · simp [Value.cells] at hcs
      obtain ⟨rfl, rfl, rfl⟩ := hcs
      refine ⟨zs, .inr ⟨_, rfl, (okWide_row Try.underlying23 (hval 1 23 _ rfl rfl)).1, (okWide_row Try.underlying23 (hval 1 23 _ rfl rfl)).2, hl, hm, by simpa using hz, hcell, hwz⟩, ?_⟩
      obtain rfl : d1 = .slice (lits .u8 (zs.take len1)) (lits .u8 (zs.drop len1)) := (Prod.ext_iff.1 hx).1
      have hb := bulk_lits (H := H) .u8 (zs.take len1)
      have hz' : zs.length = cap1 := by simpa using hz
      rw [List.length_take, Nat.min_eq_left (by omega)] at hb
      show len1 ≤ Rows.uptoBulkAll (lits .u8 (zs.take len1)) + Rows.uptoBulkAll (lits .u8 (zs.drop len1)) + 1
      omega
  obtain ⟨a2, rfl, rfl, rfl, w2⟩ := open_int Try.underlying5 (hval 2 5 v2 rfl rfl) h2
  have hsz : len1 ≤ 1048576 := by
    have h := of_decide_eq_true hbulk
    have e : Rows.uptoBulkAll ([d0, d1, DataW.lit (.int .u8 a2)] ++ [] : List (DataW H)) = Rows.uptoBulk d0 + (Rows.uptoBulk d1 + (Rows.uptoBulk (DataW.lit (.int .u8 a2) : DataW H) + 0)) := rfl
    rw [e] at h
    omega
  clear hA0 hval0
  refine (walk a0 len0 cap0 z0 a1 len1 cap1 z1 a2 W w0 w1 hsz).mono fun e W' ⟨he, bel⟩ => ?_
  subst he
  exact ⟨_, rfl, _, _, _, [], _, [], hW', trodAll_mk1 (shut_bool Try.underlying4 _), (trodAll_cons_mk (Below.trod laidOut (by kernel_rfl) (of_decide_eq_true (by kernel_rfl)) k0 bel lt0) (trodAll_cons_mk (Below.trod laidOut (by kernel_rfl) (of_decide_eq_true (by kernel_rfl)) k1 bel lt1) (trodAll_cons_mk (shut_int Try.underlying5 w2) trodAll_mk0))), rfl, bel.frame _, fun h => by cases h⟩
/-! ### A world for the witness -/
mutual
def flatV : DataW Unit → List Value
  | .lit (.int k n) => [.int k n]
  | .agg l => flatL l
  | _ => []
def flatL : List (DataW Unit) → List Value
  | [] => []
  | d :: l => flatV d ++ flatL l
end
def layV (d : DataW Unit) : Obj → Obj
  | .cells _ t frozen => .cells (flatV d).toArray t frozen
  | o => o
noncomputable def laidWorld (os : Os) : World :=
  { World.holding Try.prog os ⟨#[], #[], []⟩ with heap := Rows.shaPiecesUptoRow.laid.foldl (fun h x => h.modify ((Try.prog.globalNamed x.1).getD 0) (layV x.2)) (World.holding Try.prog os ⟨#[], #[], []⟩).heap }
def wArgs : Array Value := #[.slice none 0 0, .slice none 0 0, .int .u8 0]
theorem laid_met (os : Os) : laidMet Try.prog Rows.shaPiecesUptoRow.laid ((laidWorld os).forCall (fun _ _ => 0) ⟨#[], wArgs, []⟩).memory :=
  laidMet_of_run' 8 (by kernel_rfl) (by kernel_rfl)
theorem reads (os : Os) {H : Type} (enc : TypeId × Value → H) : ∃ places, DataW.whole enc Try.prog ((laidWorld os).forCall (fun _ _ => 0) ⟨#[], wArgs, []⟩).memory Try.f6.params.toList Rows.shaPiecesSpec.vars false wArgs.toList 8 = some ([.nil, .nil, .lit (.int .u8 0)], [], places) :=
  ⟨[], by kernel_rfl⟩
set_option maxRecDepth 100000 in
theorem lifted (os : Os) (started : os.Started) (H : Type) (enc : TypeId × Value → H) (F : Stop.Interp) :
    ReturnsInHanded {} Try.checked os 6 .any ((Rows.OpenSpec.upto Rows.shaPiecesSpec).preRow enc Try.prog Try.f6 Rows.shaPiecesUptoRow.domain false Rows.shaPiecesUptoRow.laid) (((Rows.OpenSpec.upto Rows.shaPiecesSpec).at F).post enc Try.prog Try.f6 false true false false) := by
  obtain ⟨places, hx⟩ := reads os enc
  refine returnsInHanded_of_row (C := Try.checked) (s := Rows.OpenSpec.upto Rows.shaPiecesSpec) own started (by kernel_rfl) Try.func6
    (witness_row_at (enc := enc) (C := Try.checked) false (laidWorld os) wArgs rfl (by kernel_rfl) (by kernel_rfl) (by kernel_rfl)
      (OpenSpec.preRow_of_cond 8 hx (by kernel_rfl) (fun k hk => by cases hk; kernel_rfl) (by kernel_rfl) (laid_met os))) ?_
  intro W base args ds gs before hval hW _ hcond _ hL _ _
  exact contract H enc W base args ds gs before hval hW (hcond _ rfl)
/-- ████ THE STATEMENT ████ -/
theorem proved : Rows.ShaPiecesUptoSaid :=
  OpenClaim.holds_of_cond 6 Try.f6 rfl rfl rfl rfl rfl rfl rfl ⟨rfl, rfl, rfl, rfl, rfl⟩ rfl rfl rfl rfl rfl (by kernel_rfl) Try.func6 (by kernel_rfl)
    (of_decide_eq_true (by kernel_rfl)) (by unfold Func.isWrapper; first | (rw [if_pos (by decide +kernel)]; kernel_rfl) | (rw [if_neg (by decide +kernel)]; exact ⟨rfl, rfl⟩))
    (fun os started H enc _ F => by rw [OpenClaim.pre_eq_preRow]; exact lifted os started H enc F)
end Go.Proofs.Ytiijphmpkmmpjaa.shaPieces
