/- From a law's call to a run of the abstract machine. -/
import Derived.Test.YtiijphmpkmmpjaaAmX
set_option linter.unusedVariables false
set_option linter.unusedSimpArgs false
namespace Go.Am
open Go Go.RowKit
/-- The memory that a call finds: rows that it may only read. -/
theorem inv_start {w : World} {ρ : Rho} {hs : AHeap} (h : ∀ j o, hs[j]? = some o → o = .dead ∨ ∃ cs, o = .ro cs ∧ cs.all AV.closed = true ∧ (ρ j).blk < w.heap.size ∧ ∀ i v, cs[i]? = some v → w.cell? ⟨(ρ j).blk, (ρ j).off + i, none⟩ = some (v.real ρ)) :
    Inv ρ (allOf w) w hs w := by
  refine ⟨Kept.refl _ _, fun _ hk => hk, fun k o ho => ?_, fun k k' o o' ho _ h1 => ?_, fun k k' o cs ho _ h1 => ?_, fun k o ho => ?_⟩
  · rcases h k o ho with rfl | ⟨cs, rfl, _, h2, h3⟩
    · trivial
    · exact ⟨h2, h3⟩
  · rcases h k o ho with rfl | ⟨cs, rfl, _⟩ <;> cases h1
  · rcases h k o ho with rfl | ⟨cs, rfl, _⟩ <;> cases h1
  · rcases h k o ho with rfl | ⟨cs, rfl, h2, _⟩
    · rfl
    · simp only [AObj.refs, List.all_eq_true] at h2 ⊢
      exact fun v hv => closed_ok (h2 v hv) [] ρ |> fun h => refs_mono (fun k hk => by simp [live] at hk) v h
/-- A slice of numbers that came in. -/
def RowIn (k : IntKind) (w : World) (a : Option Addr) (len cap : Nat) (zs : List Int) : Prop :=
  (a = none ∧ len = 0 ∧ cap = 0 ∧ zs = []) ∨
  ∃ x, a = some x ∧ x.spot = none ∧ x.block < w.heap.size ∧ len ≤ cap ∧ cap ≤ maxLen ∧ zs.length = cap ∧ (∀ i, i < zs.length → w.cell? (x.add i) = some (.int k (zs.getD i 0))) ∧ ∀ n ∈ zs, (Lit.int k n).wf = true
def inV (j : Nat) (a : Option Addr) (len cap : Nat) : AV := .sl (a.map fun _ => (j, 0)) len (.fix cap)
def inO (k : IntKind) (a : Option Addr) (zs : List Int) : AObj := match a with
  | none => .dead
  | some _ => .ro (zs.map (.int k))
def inR (a : Option Addr) : RL := match a with
  | none => ⟨0, 0, 0⟩
  | some x => ⟨x.block, x.off, 0⟩
theorem inO_start {k : IntKind} {w : World} {a : Option Addr} {len cap : Nat} {zs : List Int} {ρ : Rho} {j : Nat} (hr : RowIn k w a len cap zs) (hρ : ρ j = inR a) :
    inO k a zs = .dead ∨ ∃ cs, inO k a zs = .ro cs ∧ cs.all AV.closed = true ∧ (ρ j).blk < w.heap.size ∧ ∀ i v, cs[i]? = some v → w.cell? ⟨(ρ j).blk, (ρ j).off + i, none⟩ = some (v.real ρ) := by
  rcases hr with ⟨rfl, -, -, -⟩ | ⟨x, rfl, h1, h2, -, -, -, h3, -⟩
  · exact .inl rfl
  · refine .inr ⟨_, rfl, ?_, by rw [hρ]; exact h2, fun i v hv => ?_⟩
    · simp [List.all_eq_true, AV.closed, AV.refs]
    · simp only [List.getElem?_map, Option.map_eq_some_iff] at hv
      obtain ⟨n, hn, rfl⟩ := hv
      have hlt : i < zs.length := by
        rcases Nat.lt_or_ge i zs.length with q | q
        · exact q
        · simp [List.getElem?_eq_none q] at hn
      have := h3 i hlt
      rw [List.getD_eq_getElem?_getD, hn] at this
      rw [hρ]
      simp only [inR, AV.real, Option.getD_some] at this ⊢
      rw [← this]
      congr 1
      unfold Addr.add
      split
      · rename_i h0; subst h0; obtain ⟨b, o, s⟩ := x; simp only at h1; subst h1; rfl
      · rfl
theorem inV_ok {k : IntKind} {w : World} {a : Option Addr} {len cap : Nat} {zs : List Int} {ρ : Rho} {j : Nat} {h : AHeap} (hr : RowIn k w a len cap zs) (hj : h[j]? = some (inO k a zs)) : AV.ok h ρ (inV j a len cap) := by
  rcases hr with ⟨rfl, rfl, rfl, -⟩ | ⟨x, rfl, h1, h2, h4, -, -, h3, -⟩
  · rfl
  · simp only [inV, Option.map_some, AV.ok, AV.refs, Bool.and_eq_true, decide_eq_true_eq]
    exact ⟨by simp [live, hj, inO, AObj.there], h4⟩
theorem inV_real {k : IntKind} {w : World} {a : Option Addr} {len cap : Nat} {zs : List Int} {ρ : Rho} {j : Nat} (hr : RowIn k w a len cap zs) (hρ : ρ j = inR a) : (inV j a len cap).real ρ = .slice a len cap := by
  rcases hr with ⟨rfl, rfl, rfl, -⟩ | ⟨x, rfl, h1, h2, h4, -, -, h3, -⟩
  · rfl
  · simp only [inV, Option.map_some, AV.real, hρ, inR, ACap.real, Nat.add_zero]
    obtain ⟨b, o, s⟩ := x
    simp only at h1
    subst h1
    rfl
theorem ops_append {P : Program} {S : Specs} : ∀ (l1 l2 : List PO) (s : Nat) (st : St), evalOpsR P S s (l1 ++ l2) st = (evalOpsR P S s l1 st).bind (evalOpsR P S (s + (l1.filter (·.ri.isAlloc)).length) l2)
  | [], l2, s, st => by simp [evalOpsR]
  | o :: l1, l2, s, st => by
    simp only [List.cons_append, evalOpsR]
    cases h : stepR P S s o st with
    | none => rfl
    | some st1 =>
      simp only [Option.bind_some]
      rw [ops_append l1 l2]
      congr 2
      rw [List.filter_cons]
      split <;> simp <;> omega
/-- A region part by part. -/
theorem region_run {P : Program} {S : Specs} {F : Nat → List Nat} {id na n : Nat} {l : List PO} {st st1 : St} (h : evalOpsR P S st.2.length l (withHoles na (forget (F id) st)) = some st1) : evP P S F (n + 1) (.inl (.ops id na l)) st = some (.normal, st1) := by
  show (evalOpsR P S st.2.length l (withHoles na (forget (F id) st))).map (AExit.normal, ·) = _
  rw [h]; rfl
theorem ops_cons {P : Program} {S : Specs} {s : Nat} {o : PO} {l : List PO} {st st1 : St} {r : Option St} (h1 : stepR P S s o st = some st1) (h2 : evalOpsR P S (if o.ri.isAlloc then s + 1 else s) l st1 = r) : evalOpsR P S s (o :: l) st = r := by
  simp only [evalOpsR, h1, Option.bind_some]; exact h2
theorem ops_split {P : Program} {S : Specs} {s s' : Nat} {l1 l2 : List PO} {st st1 : St} {r : Option St} (h1 : evalOpsR P S s l1 st = some st1) (hs : s' = s + (l1.filter (·.ri.isAlloc)).length) (h2 : evalOpsR P S s' l2 st1 = r) : evalOpsR P S s (l1 ++ l2) st = r := by
  rw [ops_append, h1, Option.bind_some, ← hs]; exact h2
theorem step_pure {P : Program} {S : Specs} {s : Nat} {dst : Option Tmp} {ri : RI} {st : St} {v : AV} (hp : ri.isPure = true) (hv : pureR P st.2 (evalOperand st.1) ri = some v) : stepR P S s ⟨dst, ri, none⟩ st = some (put dst v st.1, st.2) := by
  simp only [stepR, wantedR, hp, if_true, hv, Option.map_some]
theorem okWide_row {P : Program} {w : World} {r : Reach} {base : Nat} {t e : TypeId} {x : Addr} {len cap : Nat} (ht : P.underlying t = some (.slice e)) (h : Value.okWide P w r base t (.slice (some x) len cap)) : x.spot = none ∧ x.block < w.heap.size := by
  simp only [Value.okWide, ht, Cell.okWide, Cell.ok] at h
  obtain ⟨-, -, -, h1, row, cells, h2, -⟩ := h
  refine ⟨h1, ?_⟩
  rcases Nat.lt_or_ge x.block w.heap.size with q | q
  · exact q
  · simp [World.shape?, Array.getElem?_eq_none q] at h2
end Go.Am
