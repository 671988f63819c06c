/- An abstract machine over the model's code: values with abstract block numbers, an abstract heap, an evaluator. -/
import Derived.Deep.Quiet
import Derived.LoopN
import Derived.Scope
import Derived.Below
import Derived.Laws.BytesString
import Derived.Laws.BytesArg
import Derived.Laws.StructEq
import Derived.Laws.Slices
import Derived.Laws.OwnMore
import Derived.Laws.MakeOwn
import Derived.KernelRfl
set_option linter.unusedVariables false
set_option linter.unusedSimpArgs false
namespace Go.Am
open Go Go.RowKit
/-- A slice's capacity: known, or what is left of its row behind so many elements. -/
inductive ACap where
  | fix (c : Nat)
  | rel (i : Nat)
  deriving DecidableEq
inductive AV where
  | int (k : IntKind) (n : Int)
  | bool (b : Bool)
  | str (s : List UInt8)
  | ptr (a : Option (Nat × Nat))
  | sl (a : Option (Nat × Nat)) (len : Nat) (cap : ACap)
  | agg (cs : List AV)
  | tup (vs : List AV)
  | fn (f : FuncId) (first cap : List AV)
  | nilFn
  | map (r : Option Nat)
  | ifc (t : TypeId) (v : AV)
  | nilIfc
  /-- an empty slice behind a row's last element, or at its first: whose room is not known -/
  | slE (k o i l s : Nat)
  /-- a slice of memory that is not looked at -/
  | ext (a : Option Addr) (len cap : Nat)
  | any
  /-- what an operation that is not wanted leaves -/
  | und
/-- Where an abstract block lies. -/
structure RL where
  blk : Nat
  off : Nat
  cap : Nat
abbrev Rho := Nat → RL
def ACap.real (c : ACap) (l : RL) : Nat :=
  match c with
  | .fix n => n
  | .rel i => l.cap - i
/-- Where an empty slice stands that may have no room left. -/
def slEAdr (r : RL) (o i l s : Nat) : Addr := if r.cap - i = l then ⟨r.blk, r.off + o, none⟩ else ⟨r.blk, r.off + (o + l * s), none⟩
mutual
def AV.real (ρ : Rho) : AV → Value
  | .int k n => .int k n
  | .bool b => .bool b
  | .str s => .string ⟨s.toArray⟩
  | .ptr none => .pointer none
  | .ptr (some (k, o)) => .pointer (some ⟨(ρ k).blk, (ρ k).off + o, none⟩)
  | .sl none l c => .slice none l (c.real ⟨0, 0, 0⟩)
  | .sl (some (k, o)) l c => .slice (some ⟨(ρ k).blk, (ρ k).off + o, none⟩) l (c.real (ρ k))
  | .agg cs => .agg (AV.reals ρ cs).toArray
  | .tup vs => .tuple (AV.reals ρ vs).toArray
  | .fn f first cap => .func (.func f) (AV.reals ρ first).toArray (AV.reals ρ cap).toArray
  | .nilFn => .nilFunc
  | .map none => .map none
  | .map (some k) => .map (some (ρ k).blk)
  | .ifc t v => .iface t (AV.real ρ v)
  | .nilIfc => .nilIface
  | .slE k o i l s => .slice (some (slEAdr (ρ k) o i l s)) 0 ((ρ k).cap - i - l)
  | .ext a l c => .slice a l c
  | .any => undef
  | .und => undef
def AV.reals (ρ : Rho) : List AV → List Value
  | [] => []
  | v :: vs => AV.real ρ v :: AV.reals ρ vs
end
@[simp] theorem reals_eq (ρ : Rho) : ∀ vs, AV.reals ρ vs = vs.map (AV.real ρ)
  | [] => rfl
  | v :: vs => by simp [AV.reals, reals_eq ρ vs]
/- All abstract blocks that a value names satisfy p; each slice has room for its length. -/
mutual
def AV.refs (p : Nat → Bool) (c : Nat → Nat) : AV → Bool
  | .ptr (some (k, _)) => p k
  | .sl none l q => decide (l = 0 ∧ q = .fix 0)
  | .sl (some (k, _)) l (.fix n) => p k && decide (l ≤ n)
  | .sl (some (k, _)) l (.rel i) => p k && decide (l + i ≤ c k)
  | .agg cs => AV.refsL p c cs
  | .tup vs => AV.refsL p c vs
  | .fn _ first cap => AV.refsL p c first && AV.refsL p c cap
  | .map (some k) => p k
  | .ifc _ v => AV.refs p c v
  | .slE k _ i l _ => p k && decide (l + i ≤ c k)
  | _ => true
def AV.refsL (p : Nat → Bool) (c : Nat → Nat) : List AV → Bool
  | [] => true
  | v :: vs => AV.refs p c v && AV.refsL p c vs
end
theorem refsL_eq (p : Nat → Bool) (c : Nat → Nat) : ∀ vs, AV.refsL p c vs = vs.all (AV.refs p c)
  | [] => rfl
  | v :: vs => by simp [AV.refsL, refsL_eq p c vs]
mutual
theorem real_congr {p : Nat → Bool} {c : Nat → Nat} {ρ ρ' : Rho} (h : ∀ k, p k = true → ρ' k = ρ k) : ∀ v : AV, v.refs p c = true → v.real ρ' = v.real ρ
  | .ptr none, _ => rfl
  | .ptr (some (k, o)), hv => by simp only [AV.refs] at hv; simp [AV.real, h k hv]
  | .sl none _ _, _ => rfl
  | .sl (some (k, o)) _ (.fix _), hv => by simp only [AV.refs, Bool.and_eq_true] at hv; simp [AV.real, h k hv.1]
  | .sl (some (k, o)) _ (.rel _), hv => by simp only [AV.refs, Bool.and_eq_true] at hv; simp [AV.real, h k hv.1]
  | .agg cs, hv => by simp only [AV.refs] at hv; simp only [AV.real, reals_congr h cs hv]
  | .tup vs, hv => by simp only [AV.refs] at hv; simp only [AV.real, reals_congr h vs hv]
  | .fn f a b, hv => by
    simp only [AV.refs, Bool.and_eq_true] at hv
    simp only [AV.real, reals_congr h a hv.1, reals_congr h b hv.2]
  | .map none, _ => rfl
  | .map (some k), hv => by simp only [AV.refs] at hv; simp [AV.real, h k hv]
  | .ifc t v, hv => by simp only [AV.refs] at hv; simp only [AV.real, real_congr h v hv]
  | .int _ _, _ => rfl
  | .bool _, _ => rfl
  | .str _, _ => rfl
  | .nilFn, _ => rfl
  | .nilIfc, _ => rfl
  | .slE k o i l s, hv => by simp only [AV.refs, Bool.and_eq_true] at hv; simp [AV.real, h k hv.1]
  | .ext _ _ _, _ => rfl
  | .any, _ => rfl
  | .und, _ => rfl
theorem reals_congr {p : Nat → Bool} {c : Nat → Nat} {ρ ρ' : Rho} (h : ∀ k, p k = true → ρ' k = ρ k) : ∀ vs : List AV, AV.refsL p c vs = true → AV.reals ρ' vs = AV.reals ρ vs
  | [], _ => rfl
  | v :: vs, hv => by
    simp only [AV.refsL, Bool.and_eq_true] at hv
    simp only [AV.reals, real_congr h v hv.1, reals_congr h vs hv.2]
end
mutual
theorem refs_mono {p q : Nat → Bool} {c d : Nat → Nat} (h : ∀ k, p k = true → q k = true ∧ d k = c k) : ∀ v : AV, v.refs p c = true → v.refs q d = true
  | .ptr none, _ => rfl
  | .ptr (some (k, o)), hv => (h k hv).1
  | .sl none _ _, hv => hv
  | .sl (some (k, o)) _ (.fix _), hv => by simp only [AV.refs, Bool.and_eq_true] at hv ⊢; exact ⟨(h k hv.1).1, hv.2⟩
  | .sl (some (k, o)) _ (.rel _), hv => by simp only [AV.refs, Bool.and_eq_true] at hv ⊢; exact ⟨(h k hv.1).1, by rw [(h k hv.1).2]; exact hv.2⟩
  | .agg cs, hv => refsL_mono h cs hv
  | .tup vs, hv => refsL_mono h vs hv
  | .fn f a b, hv => by
    simp only [AV.refs, Bool.and_eq_true] at hv ⊢
    exact ⟨refsL_mono h a hv.1, refsL_mono h b hv.2⟩
  | .map none, _ => rfl
  | .map (some k), hv => (h k hv).1
  | .ifc t v, hv => refs_mono h v hv
  | .int _ _, _ => rfl
  | .bool _, _ => rfl
  | .str _, _ => rfl
  | .nilFn, _ => rfl
  | .nilIfc, _ => rfl
  | .slE k o i l s, hv => by simp only [AV.refs, Bool.and_eq_true] at hv ⊢; exact ⟨(h k hv.1).1, by rw [(h k hv.1).2]; exact hv.2⟩
  | .ext _ _ _, _ => rfl
  | .any, _ => rfl
  | .und, _ => rfl
theorem refsL_mono {p q : Nat → Bool} {c d : Nat → Nat} (h : ∀ k, p k = true → q k = true ∧ d k = c k) : ∀ vs : List AV, AV.refsL p c vs = true → AV.refsL q d vs = true
  | [], _ => rfl
  | v :: vs, hv => by
    simp only [AV.refsL, Bool.and_eq_true] at hv ⊢
    exact ⟨refs_mono h v hv.1, refsL_mono h vs hv.2⟩
end
/-- The value is one cell's. -/
def AV.one : AV → Bool
  | .agg _ | .tup _ | .any | .und => false
  | _ => true
theorem AV.one_real {v : AV} (ρ : Rho) (h : v.one = true) : (v.real ρ).oneCell' = true := by
  cases v with
  | ptr a => cases a <;> simp [AV.real, Value.oneCell']
  | sl a l c => cases a <;> simp [AV.real, Value.oneCell']
  | map a => cases a <;> simp [AV.real, Value.oneCell']
  | agg _ => cases h
  | tup _ => cases h
  | any => cases h
  | und => cases h
  | _ => simp [AV.real, Value.oneCell']
def AV.cells : AV → List AV
  | .agg cs => cs
  | v => [v]
theorem AV.cells_real (ρ : Rho) (v : AV) (h : v.one = true ∨ ∃ cs, v = .agg cs) : (v.real ρ).cells = (v.cells.map (AV.real ρ)).toArray := by
  rcases h with h | ⟨cs, rfl⟩
  · cases v with
    | ptr a => cases a <;> simp [AV.real, Value.cells, AV.cells]
    | sl a l c => cases a <;> simp [AV.real, Value.cells, AV.cells]
    | map a => cases a <;> simp [AV.real, Value.cells, AV.cells]
    | agg _ => cases h
    | tup _ => cases h
    | any => cases h
    | und => cases h
    | _ => simp [AV.real, Value.cells, AV.cells]
  · simp [AV.real, Value.cells, AV.cells]
/- A constant of the program. -/
mutual
def ofValue : Value → Option AV
  | .int k n => some (.int k n)
  | .bool b => some (.bool b)
  | .string s => some (.str s.data.toList)
  | .pointer none => some (.ptr none)
  | .slice none 0 0 => some (.sl none 0 (.fix 0))
  | .map none => some (.map none)
  | .nilFunc => some .nilFn
  | .nilIface => some .nilIfc
  | .agg ⟨cs⟩ => (ofValues cs).map .agg
  | .tuple ⟨vs⟩ => (ofValues vs).map .tup
  | _ => none
def ofValues : List Value → Option (List AV)
  | [] => some []
  | v :: vs => (ofValue v).bind fun a => (ofValues vs).map (a :: ·)
end
mutual
theorem real_ofValue (ρ : Rho) : ∀ (v : Value) (a : AV), ofValue v = some a → a.real ρ = v
  | .int k n, a, h => by simp only [ofValue, Option.some.injEq] at h; subst h; rfl
  | .bool k, a, h => by simp only [ofValue, Option.some.injEq] at h; subst h; rfl
  | .string s, a, h => by simp only [ofValue, Option.some.injEq] at h; subst h; simp [AV.real]
  | .pointer none, a, h => by simp only [ofValue, Option.some.injEq] at h; subst h; rfl
  | .pointer (some _), a, h => by simp [ofValue] at h
  | .slice none 0 0, a, h => by simp only [ofValue, Option.some.injEq] at h; subst h; rfl
  | .slice none 0 (n + 1), a, h => by simp [ofValue] at h
  | .slice none (n + 1) _, a, h => by simp [ofValue] at h
  | .slice (some _) _ _, a, h => by simp [ofValue] at h
  | .map none, a, h => by simp only [ofValue, Option.some.injEq] at h; subst h; rfl
  | .map (some _), a, h => by simp [ofValue] at h
  | .nilFunc, a, h => by simp only [ofValue, Option.some.injEq] at h; subst h; rfl
  | .nilIface, a, h => by simp only [ofValue, Option.some.injEq] at h; subst h; rfl
  | .agg ⟨cs⟩, a, h => by
    simp only [ofValue, Option.map_eq_some_iff] at h
    obtain ⟨l, hl, rfl⟩ := h
    simp only [AV.real, real_ofValues ρ cs l hl]
  | .tuple ⟨cs⟩, a, h => by
    simp only [ofValue, Option.map_eq_some_iff] at h
    obtain ⟨l, hl, rfl⟩ := h
    simp only [AV.real, real_ofValues ρ cs l hl]
  | .float _ _, a, h => by simp [ofValue] at h
  | .complex _ _ _, a, h => by simp [ofValue] at h
  | .chan _, a, h => by simp [ofValue] at h
  | .func _ _ _, a, h => by simp [ofValue] at h
  | .iface _ _, a, h => by simp [ofValue] at h
theorem real_ofValues (ρ : Rho) : ∀ (vs : List Value) (l : List AV), ofValues vs = some l → AV.reals ρ l = vs
  | [], l, h => by simp only [ofValues, Option.some.injEq] at h; subst h; rfl
  | v :: vs, l, h => by
    simp only [ofValues, Option.bind_eq_some_iff, Option.map_eq_some_iff] at h
    obtain ⟨a, ha, l', hl, rfl⟩ := h
    simp only [AV.reals, real_ofValue ρ v a ha, real_ofValues ρ vs l' hl]
end
mutual
theorem refs_ofValue (p : Nat → Bool) (c : Nat → Nat) : ∀ (v : Value) (a : AV), ofValue v = some a → a.refs p c = true
  | .int k n, a, h => by simp only [ofValue, Option.some.injEq] at h; subst h; rfl
  | .bool k, a, h => by simp only [ofValue, Option.some.injEq] at h; subst h; rfl
  | .string s, a, h => by simp only [ofValue, Option.some.injEq] at h; subst h; rfl
  | .pointer none, a, h => by simp only [ofValue, Option.some.injEq] at h; subst h; rfl
  | .pointer (some _), a, h => by simp [ofValue] at h
  | .slice none 0 0, a, h => by simp only [ofValue, Option.some.injEq] at h; subst h; rfl
  | .slice none 0 (n + 1), a, h => by simp [ofValue] at h
  | .slice none (n + 1) _, a, h => by simp [ofValue] at h
  | .slice (some _) _ _, a, h => by simp [ofValue] at h
  | .map none, a, h => by simp only [ofValue, Option.some.injEq] at h; subst h; rfl
  | .map (some _), a, h => by simp [ofValue] at h
  | .nilFunc, a, h => by simp only [ofValue, Option.some.injEq] at h; subst h; rfl
  | .nilIface, a, h => by simp only [ofValue, Option.some.injEq] at h; subst h; rfl
  | .agg ⟨cs⟩, a, h => by
    simp only [ofValue, Option.map_eq_some_iff] at h
    obtain ⟨l, hl, rfl⟩ := h
    simp only [AV.refs, refs_ofValues p c cs l hl]
  | .tuple ⟨cs⟩, a, h => by
    simp only [ofValue, Option.map_eq_some_iff] at h
    obtain ⟨l, hl, rfl⟩ := h
    simp only [AV.refs, refs_ofValues p c cs l hl]
  | .float _ _, a, h => by simp [ofValue] at h
  | .complex _ _ _, a, h => by simp [ofValue] at h
  | .chan _, a, h => by simp [ofValue] at h
  | .func _ _ _, a, h => by simp [ofValue] at h
  | .iface _ _, a, h => by simp [ofValue] at h
theorem refs_ofValues (p : Nat → Bool) (c : Nat → Nat) : ∀ (vs : List Value) (l : List AV), ofValues vs = some l → AV.refsL p c l = true
  | [], l, h => by simp only [ofValues, Option.some.injEq] at h; subst h; rfl
  | v :: vs, l, h => by
    simp only [ofValues, Option.bind_eq_some_iff, Option.map_eq_some_iff] at h
    obtain ⟨a, ha, l', hl, rfl⟩ := h
    simp only [AV.refsL, refs_ofValue p c v a ha, refs_ofValues p c vs l' hl, Bool.and_self]
end
/-- An abstract block. hole: not made yet; dead: not to be looked at any more; ro: read only; row: cells of the call's own, of an element type of so many cells; map: a map of the call's own. -/
inductive AObj where
  | hole
  | dead
  | ro (cs : List AV)
  | row (t : TypeId) (sz : Nat) (cs : List AV)
  | map (es : List (AV × AV))
abbrev AHeap := List AObj
def AObj.refs (p : Nat → Bool) (c : Nat → Nat) : AObj → Bool
  | .hole | .dead => true
  | .ro cs | .row _ _ cs => cs.all (AV.refs p c)
  | .map es => es.all fun e => e.1.refs p c && e.2.refs p c
def AObj.own : AObj → Bool
  | .row .. | .map _ => true
  | _ => false
def AObj.there : AObj → Bool
  | .hole => false
  | _ => true
/-- There is something at this number. -/
def live (h : AHeap) (k : Nat) : Bool := match h[k]? with | some o => o.there | none => false
/-- The blocks that are kept as they are. -/
abbrev Fr := Nat → Prop
structure Kept (K : Fr) (w w' : World) : Prop where
  os : w'.os = w.os
  tape : w'.tape = w.tape
  output : w'.output = w.output
  size : w.heap.size ≤ w'.heap.size
  block : ∀ k, K k → w'.heap[k]? = w.heap[k]?
theorem Kept.refl (K : Fr) (w : World) : Kept K w w := ⟨rfl, rfl, rfl, Nat.le_refl _, fun _ _ => rfl⟩
theorem Kept.trans {K : Fr} {a b c : World} (h : Kept K a b) (k : Kept K b c) : Kept K a c :=
  ⟨k.os.trans h.os, k.tape.trans h.tape, k.output.trans h.output, Nat.le_trans h.size k.size, fun i hi => (k.block i hi).trans (h.block i hi)⟩
theorem Kept.mono {K K' : Fr} {w w' : World} (h : Kept K w w') (hK : ∀ k, K' k → K k) : Kept K' w w' := ⟨h.os, h.tape, h.output, h.size, fun k hk => h.block k (hK k hk)⟩
theorem Kept.drew {K : Fr} {a w : World} (h : Kept K a w) : Kept K a w.drew := ⟨h.os, h.tape, h.output, h.size, h.block⟩
theorem Kept.of_below {K : Fr} {n : Nat} {w w' : World} (h : Below n w w') (hK : ∀ k, K k → k < n) : Kept K w w' := ⟨h.os, h.tape, h.output, h.size, fun k hk => h.block k (hK k hk)⟩
theorem Kept.of_put {K : Fr} {n r : Nat} {w w' : World} (h : Below n w w') (ho : ∀ i, i ≠ r → w'.heap[i]? = w.heap[i]?) (hr : ¬ K r) : Kept K w w' :=
  ⟨h.os, h.tape, h.output, h.size, fun k hk => ho k fun e => hr (e ▸ hk)⟩
/-- All blocks of a memory. -/
def allOf (w : World) : Fr := fun k => k < w.heap.size
theorem Kept.below {w w' : World} (h : Kept (allOf w) w w') : Below w.heap.size w w' := ⟨h.os, h.tape, h.output, h.size, fun k hk => h.block k hk⟩
def ObjRel (ρ : Rho) (B : Fr) (w : World) (l : RL) : AObj → Prop
  | .hole | .dead => True
  | .ro cs => l.blk < w.heap.size ∧ ∀ j v, cs[j]? = some v → w.cell? ⟨l.blk, l.off + j, none⟩ = some (v.real ρ)
  | .row t sz cs => ¬ B l.blk ∧ l.off = 0 ∧ ∃ arr, w.heap[l.blk]? = some (.cells arr t (0, 0)) ∧ arr.toList.take cs.length = cs.map (AV.real ρ) ∧
      arr.size = l.cap * sz ∧ l.cap ≤ maxLen ∧ (∀ v ∈ cs, v.one = true)
  | .map es => ¬ B l.blk ∧ ∃ ents clock, w.heap[l.blk]? = some (.map ents clock) ∧
      ents.toList.map (fun e => (e.key, e.val)) = es.map (fun e => (e.1.real ρ, e.2.real ρ))
structure Inv (ρ : Rho) (B : Fr) (w0 : World) (h : AHeap) (w : World) : Prop where
  below : Kept B w0 w
  size : ∀ k, B k → k < w.heap.size
  obj : ∀ k o, h[k]? = some o → ObjRel ρ B w (ρ k) o
  sep : ∀ k k' o o', h[k]? = some o → h[k']? = some o' → o.own = true → o'.own = true → k ≠ k' → (ρ k).blk ≠ (ρ k').blk
  sepr : ∀ k k' o cs, h[k]? = some o → h[k']? = some (.ro cs) → o.own = true → (ρ k).blk ≠ (ρ k').blk
  wf : ∀ (k : Nat) (o : AObj), h[k]? = some o → o.refs (live h) (fun k => (ρ k).cap) = true
end Go.Am
