/- Operations that leave memory alone: what the evaluator says is what the machine does. -/
import Derived.Test.YtfnlokknpldkgaaAmB
set_option linter.unusedVariables false
set_option linter.unusedSimpArgs false
namespace Go.Am
open Go Go.RowKit
section
variable {P : Program} {ρ : Rho} {B : Fr} {w0 w : World} {h : AHeap}
def AV.ok (h : AHeap) (ρ : Rho) (v : AV) : Prop := v.refs (live h) (fun k => (ρ k).cap) = true
def FrameRel (ρ : Rho) (env : List AV) (tmps : Array Value) : Prop :=
  tmps.size = env.length ∧ ∀ (i : Nat) (v : AV), env[i]? = some v → v ≠ .any → tmps[i]? = some (v.real ρ)
theorem operand_sound {a : Act} {env : List AV} (hF : FrameRel ρ env a.tmps) {x : Operand} {v : AV} (hv : evalOperand env x = some v) : a.eval x = v.real ρ := by
  cases x with
  | tmp t =>
    simp only [evalOperand] at hv
    cases hu : env[t]? with
    | none => simp [hu] at hv
    | some u =>
      have hne : u ≠ .any := by intro hh; subst hh; simp [hu] at hv
      have hvu : u = v := by rw [hu] at hv; cases u <;> simp_all
      subst hvu
      have := hF.2 t u hu hne
      simp [Act.eval, this]
  | const c => simp only [evalOperand] at hv; simp [Act.eval, real_ofValue ρ c v hv]
  | global g => cases hv
  | func f => simp only [evalOperand, Option.some.injEq] at hv; subst hv; simp [Act.eval, AV.real]
theorem operand_ok {env : List AV} (hok : ∀ v ∈ env, AV.ok h ρ v) {x : Operand} {v : AV} (hv : evalOperand env x = some v) : v.ok h ρ := by
  cases x with
  | tmp t =>
    simp only [evalOperand] at hv
    cases hu : env[t]? with
    | none => simp [hu] at hv
    | some u =>
      have hvu : u = v := by rw [hu] at hv; cases u <;> simp_all
      subst hvu
      exact hok u (List.mem_of_getElem? hu)
  | const c => exact refs_ofValue _ _ c v hv
  | global g => cases hv
  | func f => simp only [evalOperand, Option.some.injEq] at hv; subst hv; simp [AV.ok, AV.refs, AV.refsL]
/-- Where an abstract cell lies. -/
def adr (ρ : Rho) (k o : Nat) : Addr := ⟨(ρ k).blk, (ρ k).off + o, none⟩
theorem adr_add (ρ : Rho) (k o n : Nat) : (adr ρ k o).add n = adr ρ k (o + n) := by
  unfold Addr.add adr
  split
  · subst_vars; rfl
  · simp [Nat.add_assoc]
theorem real_ptr (ρ : Rho) (k o : Nat) : (AV.ptr (some (k, o))).real ρ = .pointer (some (adr ρ k o)) := rfl
theorem real_sl (ρ : Rho) (k o l : Nat) (c : ACap) : (AV.sl (some (k, o)) l c).real ρ = .slice (some (adr ρ k o)) l (c.real (ρ k)) := rfl
theorem run_isAgg {t : TypeId} {g : Bool} (hg : isAggA P t = some g) : (isAgg t).run P w = .ok g w := by
  unfold isAggA at hg
  cases hu : P.underlying t with
  | none => simp [hu] at hg
  | some d =>
    unfold isAgg
    rw [Sem.run_bind, run_underlying hu w]
    cases d <;> simp_all
theorem run_sizeOf' {t : TypeId} {s : Nat} (hs : szOf P t = some s) : (sizeOf t).run P w = .ok s w := by
  unfold szOf at hs
  simp only [Option.map_eq_some_iff] at hs
  obtain ⟨i, hi, rfl⟩ := hs
  simp [sizeOf, typeInfo, hi]
theorem run_part {t : TypeId} {cs : List AV} {off : Nat} {v : AV} (hv : partA P t cs off = some v) :
    (part t (cs.map (AV.real ρ)).toArray off).run P w = .ok (v.real ρ) w := by
  unfold partA at hv
  unfold part
  cases hg : isAggA P t with
  | none => simp [hg] at hv
  | some g =>
    rw [Sem.run_bind, run_isAgg hg, Result.andThen_ok]
    rw [hg] at hv
    cases g with
    | true =>
      simp only [if_true, Option.bind_eq_some_iff] at hv ⊢
      obtain ⟨s, hs, hv⟩ := hv
      split at hv
      · cases hv
        simp [run_sizeOf' hs, AV.real, List.extract_eq_take_drop, List.map_take, List.map_drop]
      · cases hv
    | false => simp only [Bool.false_eq_true, if_false] at hv ⊢; simp [hv]
theorem part_ok {t : TypeId} {cs : List AV} {off : Nat} {v : AV} (hcs : ∀ c ∈ cs, AV.ok h ρ c) (hv : partA P t cs off = some v) : v.ok h ρ := by
  unfold partA at hv
  split at hv
  · simp only [Option.bind_eq_some_iff] at hv
    obtain ⟨s, hs, hv⟩ := hv
    split at hv
    · cases hv
      simp only [AV.ok, AV.refs, refsL_eq, List.all_eq_true]
      intro x hx
      exact hcs x (List.mem_of_mem_drop (List.mem_of_mem_take hx))
    · cases hv
  · exact hcs v (List.mem_of_getElem? hv)
  · cases hv
/-- The cells of a block as the world has them. -/
theorem cell_at (hI : Inv ρ B w0 h w) {k : Nat} {cs : List AV} (hk : cellsAt h k = some cs) {j : Nat} {v : AV} (hj : cs[j]? = some v) :
    w.cell? (adr ρ k j) = some (v.real ρ) := by
  simp only [cellsAt, Option.bind_eq_some_iff] at hk
  obtain ⟨o, ho, hoc⟩ := hk
  have hr := hI.obj k o ho
  cases o with
  | ro cs' => cases hoc; exact hr.2 j v hj
  | row t sz cs' =>
    cases hoc
    obtain ⟨hB, h0, arr, harr, htk, hsz, hcap, h1⟩ := hr
    have : arr[j]? = some (v.real ρ) := by
      have e := congrArg (·[j]?) htk
      have hlt : j < cs.length := by
        rcases Nat.lt_or_ge j cs.length with hh | hh
        · exact hh
        · simp [List.getElem?_eq_none hh] at hj
      simp only [List.getElem?_take, hlt, if_true, List.getElem?_map, hj, Option.map_some] at e
      simpa using e
    unfold adr World.cell?
    simp [harr, h0, this]
  | hole => cases hoc
  | dead => cases hoc
  | map es => cases hoc
theorem cells_ok (hI : Inv ρ B w0 h w) {k : Nat} {cs : List AV} (hk : cellsAt h k = some cs) : ∀ c ∈ cs, AV.ok h ρ c := by
  simp only [cellsAt, Option.bind_eq_some_iff] at hk
  obtain ⟨o, ho, hoc⟩ := hk
  have hr := hI.wf k o ho
  cases o <;> simp only [objCells, Option.some.injEq, reduceCtorEq] at hoc <;> subst hoc <;> simpa [AObj.refs, AV.ok] using hr
theorem run_loadCells (hI : Inv ρ B w0 h w) {k : Nat} {cs : List AV} (hk : cellsAt h k = some cs) (o s : Nat) (hle : o + s ≤ cs.length) :
    (loadCells (adr ρ k o) s).run P w = .ok (((cs.drop o).take s).map (AV.real ρ)).toArray w := by
  have hl : (((cs.drop o).take s).map (AV.real ρ)).length = s := by simp; omega
  have := run_loadCells_list (P := P) w (adr ρ k o) (((cs.drop o).take s).map (AV.real ρ)) (fun j v hv => by
    rw [adr_add]
    simp only [List.getElem?_map, Option.map_eq_some_iff, List.getElem?_take, List.getElem?_drop] at hv
    obtain ⟨x, hx, rfl⟩ := hv
    split at hx
    · exact cell_at hI hk hx
    · cases hx)
  rwa [hl] at this
theorem run_load_cell {a : Addr} {v : Value} (hc : w.cell? a = some v) : (load a).run P w = .ok v w := by simp [hc]
theorem load_sound (hI : Inv ρ B w0 h w) {t : TypeId} {x v : AV} (hv : loadA P h t x = some v) :
    (Instr.loadAt t (x.real ρ)).run P w = .ok (v.real ρ) w ∧ v.ok h ρ := by
  unfold loadA at hv
  split at hv
  · rename_i k o
    simp only [Option.bind_eq_some_iff] at hv
    obtain ⟨cs, hcs, hv⟩ := hv
    refine ⟨?_, part_ok (cells_ok hI hcs) hv⟩
    unfold partA at hv
    cases hg : isAggA P t with
    | none => simp [hg] at hv
    | some g =>
      rw [hg] at hv
      simp only [real_ptr, Instr.loadAt, Instr.sureAddr, Sem.run_bind, Sem.run_pure, Result.andThen_ok, loadVar, run_isAgg hg]
      cases g with
      | true =>
        simp only [if_true, Option.bind_eq_some_iff] at hv ⊢
        obtain ⟨s, hs, hv⟩ := hv
        split at hv
        · rename_i hle
          cases hv
          simp only [Sem.run_bind, run_sizeOf' hs, Result.andThen_ok, run_loadCells hI hcs o s hle, Sem.run_pure, AV.real, reals_eq]
        · cases hv
      | false =>
        simp only [Bool.false_eq_true, if_false] at hv ⊢
        exact run_load_cell (cell_at hI hcs hv)
  · cases hv
theorem run_typeSome {t : TypeId} {s : Nat} (hs : szOf P t = some s) : ∃ i, P.info? t = some i ∧ i.size = s := by
  unfold szOf at hs
  simpa [Option.map_eq_some_iff] using hs
theorem fieldAddr_sound {s : TypeId} {x v : AV} {f : Nat} (hx : x.ok h ρ) (hv : fieldAddrA P s x f = some v) :
    (Instr.fieldAt s (x.real ρ) f).run P w = .ok (v.real ρ) w ∧ v.ok h ρ := by
  unfold fieldAddrA at hv
  split at hv
  · rename_i k o fd hfd
    split at hv
    · cases hv
    · rename_i n hn hs
      cases hv
      refine ⟨?_, hx⟩
      unfold fieldsA at hfd
      split at hfd
      · rename_i fs hfs
        simp only [Option.bind_some, Array.getElem?_toList] at hfd
        simp only [Instr.fieldAt, Sem.run_bind, run_underlying hfs w, Result.andThen_ok, hfd, real_ptr, Instr.sureAddr, Sem.run_pure, fieldPlace, run_sizeOf' hs]
        rw [if_neg hn]
        simp only [adr_add, Sem.run_pure, Result.andThen_ok]
      · cases hfd
    · cases hv
  · cases hv
theorem field_sound {t : TypeId} {x v : AV} {f : Nat} (hx : x.ok h ρ) (hv : fieldA P t x f = some v) :
    (Instr.field t (x.real ρ) f).run P w = .ok (v.real ρ) w ∧ v.ok h ρ := by
  unfold fieldA at hv
  split at hv
  · rename_i cs fd hfd
    have hok : ∀ c ∈ cs, AV.ok h ρ c := by
      simp only [AV.ok, AV.refs, refsL_eq, List.all_eq_true] at hx
      exact hx
    refine ⟨?_, part_ok hok hv⟩
    unfold fieldsA at hfd
    split at hfd
    · rename_i fs hfs
      simp only [Option.bind_some, Array.getElem?_toList] at hfd
      simp only [Instr.field, Sem.run_bind, run_underlying hfs w, Result.andThen_ok, hfd, AV.real, asAgg, Sem.run_pure, reals_eq]
      exact run_part hv
    · cases hfd
  · cases hv
theorem run_asIntOf (k : IntKind) (i : Int) : (asIntOf (.int k i)).run P w = .ok (k, i) w := rfl
theorem indexAddr_sound {t : TypeId} {x i v : AV} (hx : x.ok h ρ) (hv : indexAddrA P t x i = some v) :
    (Instr.indexAt t (x.real ρ) (i.real ρ)).run P w = .ok (v.real ρ) w ∧ v.ok h ρ := by
  unfold indexAddrA at hv
  split at hv
  · rename_i len e k o kk i hu
    split at hv
    · rename_i hb
      simp only [Option.map_eq_some_iff] at hv
      obtain ⟨s, hs, rfl⟩ := hv
      refine ⟨?_, hx⟩
      simp [Instr.indexAt, AV.real, asIntOf, run_underlying hu w, Instr.sureAddr, hb, run_sizeOf' hs]
      unfold Addr.add
      split <;> simp_all [Nat.add_assoc]
    · cases hv
  · rename_i e k o len c kk i hu
    split at hv
    · rename_i hb
      simp only [Option.map_eq_some_iff] at hv
      obtain ⟨s, hs, rfl⟩ := hv
      refine ⟨?_, ?_⟩
      · simp [Instr.indexAt, AV.real, asIntOf, run_underlying hu w, Instr.sureAddr, hb, run_sizeOf' hs]
        unfold Addr.add
        split <;> simp_all [Nat.add_assoc]
      · cases c <;> simp only [AV.ok, AV.refs, Bool.and_eq_true] at hx ⊢ <;> exact hx.1
    · cases hv
  · cases hv
theorem index_sound {t : TypeId} {x i v : AV} (hx : x.ok h ρ) (hv : indexA P t x i = some v) :
    (Instr.index t (x.real ρ) (i.real ρ)).run P w = .ok (v.real ρ) w ∧ v.ok h ρ := by
  unfold indexA at hv
  split at hv
  · rename_i len e cs kk i hu
    split at hv
    · rename_i hb
      simp only [Option.bind_eq_some_iff] at hv
      obtain ⟨s, hs, hv⟩ := hv
      have hok : ∀ c ∈ cs, AV.ok h ρ c := by
        simp only [AV.ok, AV.refs, refsL_eq, List.all_eq_true] at hx
        exact hx
      refine ⟨?_, part_ok hok hv⟩
      simp only [Instr.index, AV.real, reals_eq, Sem.run_bind, run_asIntOf, Result.andThen_ok, run_underlying hu w, hb, and_self, if_true, run_sizeOf' hs]
      exact run_part hv
    · cases hv
  · rename_i s kk i hu
    split at hv
    · rename_i hb
      simp only [Option.map_eq_some_iff] at hv
      obtain ⟨b, hb', rfl⟩ := hv
      refine ⟨?_, rfl⟩
      have : (⟨s.toArray⟩ : ByteArray)[i.toNat]? = some b := by
        rw [← hb']
        show (if hh : i.toNat < (⟨s.toArray⟩ : ByteArray).size then some ((⟨s.toArray⟩ : ByteArray)[i.toNat]) else none) = _
        by_cases hl : i.toNat < s.length
        · have hl' : i.toNat < (⟨s.toArray⟩ : ByteArray).size := by simpa [ByteArray.size] using hl
          rw [dif_pos hl', List.getElem?_eq_getElem hl]; rfl
        · have hl' : ¬ i.toNat < (⟨s.toArray⟩ : ByteArray).size := by simpa [ByteArray.size] using hl
          rw [dif_neg hl', List.getElem?_eq_none (by omega)]
      simp [Instr.index, AV.real, asIntOf, run_underlying hu w, hb, this]
    · cases hv
  · cases hv
end
end Go.Am
