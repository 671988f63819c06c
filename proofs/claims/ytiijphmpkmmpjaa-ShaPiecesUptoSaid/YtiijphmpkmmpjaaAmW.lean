/- Loops run by the kernel; contracts of functions of plain values. -/
import Derived.Test.YtiijphmpkmmpjaaAmU
set_option linter.unusedVariables false
set_option linter.unusedSimpArgs false
namespace Go.Am
open Go Go.RowKit
def loopN {σ : Type} (step : Nat → σ → σ) : Nat → Nat → σ → σ
  | _, 0, x => x
  | t, j + 1, x => loopN step (t + 1) j (step t x)
def AllLt (p : Nat → Prop) (a : Nat) : Nat → Prop
  | 0 => True
  | n + 1 => AllLt p a n ∧ p (a + n)
theorem allLt_spec {p : Nat → Prop} {a : Nat} : ∀ {n : Nat}, AllLt p a n → ∀ t, a ≤ t → t < a + n → p t
  | 0, _, t, h1, h2 => by omega
  | n + 1, h, t, h1, h2 => by
    rcases Nat.lt_or_ge t (a + n) with q | q
    · exact allLt_spec h.1 t h1 q
    · have : t = a + n := by omega
      subst this; exact h.2
section
variable {P : Program} {S : Specs} {F : Nat → List Nat}
theorem evP_seq {a b : PC} {n : Nat} {st : St} : evP P S F (n + 1) (.inl (.seq a b)) st = match evP P S F n (.inl a) st with
    | some (.normal, st') => evP P S F n (.inl b) st'
    | r => r := rfl
theorem evP_loop {b : PC} {n : Nat} {st : St} : evP P S F (n + 1) (.inl (.loop b)) st = match evP P S F n (.inl b) st with
    | some (.normal, st') => evP P S F n (.inl (.loop b)) st'
    | r => r := rfl
theorem evP_block {b : PC} {id n : Nat} {st : St} : evP P S F (n + 1) (.inl (.block id b)) st = match evP P S F n (.inl b) st with
    | some (.exit id', st') => if id' = id then some (.normal, st') else some (.exit id', st')
    | r => r := rfl
theorem evP_cond {c : Operand} {a b : PC} {n : Nat} {st : St} : evP P S F (n + 1) (.inl (.cond c a b)) st = match evalOperand st.1 c with
    | some (.bool t) => evP P S F n (.inl (if t then a else b)) st
    | _ => none := rfl
theorem evP_scope {b : PC} {n : Nat} {st : St} : evP P S F (n + 1) (.inl (.scope b)) st = evP P S F n (.inr (b, b)) st := rfl
theorem evP_rest {c rest : PC} {n : Nat} {st : St} : evP P S F (n + 1) (.inr (c, rest)) st = match evP P S F n (.inl rest) st with
    | some (.goto l, st') => match findP c l with
      | some r' => evP P S F n (.inr (c, r')) st'
      | none => some (.goto l, st')
    | r => r := rfl
theorem loop_run {σ : Type} {b : PC} {id c N t0 : Nat} {C : Nat → σ → St} {E : σ → St} {step : Nat → σ → σ}
    (hs : ∀ t, t0 ≤ t → t < N → ∀ (k : Nat) (x : σ), evP P S F (k + c) (.inl b) (C t x) = some (.normal, C (t + 1) (step t x)))
    (he : ∀ (k : Nat) (x : σ), evP P S F (k + c) (.inl b) (C N x) = some (.exit id, E x)) :
    ∀ (j t k : Nat) (x : σ), t0 ≤ t → t + j = N → evP P S F (k + c + j + 1) (.inl (.loop b)) (C t x) = some (.exit id, E (loopN step t j x))
  | 0, t, k, x, h0, hN => by
    have : t = N := by omega
    subst this
    show evP P S F (k + c + 1) (.inl (.loop b)) (C t x) = _
    rw [evP_loop, he k x]; rfl
  | j + 1, t, k, x, h0, hN => by
    have h1 := hs t h0 (by omega) (k + (j + 1)) x
    rw [show k + (j + 1) + c = k + c + (j + 1) by omega] at h1
    show evP P S F (k + c + (j + 1) + 1) (.inl (.loop b)) (C t x) = _
    rw [evP_loop, h1]
    exact loop_run hs he j (t + 1) k (step t x) (by omega) (by omega)
theorem block_exit {b : PC} {id n : Nat} {st st1 : St} (h : evP P S F n (.inl b) st = some (.exit id, st1)) : evP P S F (n + 1) (.inl (.block id b)) st = some (.normal, st1) := by
  rw [evP_block, h]; simp
theorem block_normal {b : PC} {id n : Nat} {st st1 : St} (h : evP P S F n (.inl b) st = some (.normal, st1)) : evP P S F (n + 1) (.inl (.block id b)) st = some (.normal, st1) := by
  rw [evP_block, h]
theorem seq_run {a b : PC} {n : Nat} {st st1 : St} {r : Option (AExit × St)} (h1 : evP P S F n (.inl a) st = some (.normal, st1)) (h2 : evP P S F n (.inl b) st1 = r) : evP P S F (n + 1) (.inl (.seq a b)) st = r := by
  rw [evP_seq, h1]; exact h2
/-- More fuel does no harm. -/
theorem evP_mono : ∀ (n : Nat) (x : PC ⊕ (PC × PC)) (st : St) (r : AExit × St), evP P S F n x st = some r → evP P S F (n + 1) x st = some r
  | 0, _, _, _, h => by simp [evP] at h
  | n + 1, .inl c, st, r, h => by
    have IH := evP_mono n
    cases c with
    | skip => exact h
    | label l => exact h
    | exit l => exact h
    | goto l => exact h
    | ret => exact h
    | ops id na l => exact h
    | ops2 id na ls l q => exact h
    | seq a b =>
      rw [evP_seq] at h
      rw [evP_seq]
      cases h1 : evP P S F n (.inl a) st with
      | none => rw [h1] at h; cases h
      | some q =>
        obtain ⟨e, st1⟩ := q
        rw [IH _ _ _ h1]
        rw [h1] at h
        cases e with
        | normal => exact IH _ _ _ h
        | _ => exact h
    | cond c a b =>
      rw [evP_cond] at h
      rw [evP_cond]
      split at h
      · rename_i t ht; exact IH _ _ _ h
      · cases h
    | block id a =>
      rw [evP_block] at h
      rw [evP_block]
      cases h1 : evP P S F n (.inl a) st with
      | none => rw [h1] at h; cases h
      | some q => rw [IH _ _ _ h1]; rw [h1] at h; exact h
    | loop a =>
      rw [evP_loop] at h
      rw [evP_loop]
      cases h1 : evP P S F n (.inl a) st with
      | none => rw [h1] at h; cases h
      | some q =>
        obtain ⟨e, st1⟩ := q
        rw [IH _ _ _ h1]
        rw [h1] at h
        cases e with
        | normal => exact IH _ _ _ h
        | _ => exact h
    | scope a =>
      rw [evP_scope] at h
      rw [evP_scope]
      exact IH _ _ _ h
  | n + 1, .inr (c, rest), st, r, h => by
    have IH := evP_mono n
    rw [evP_rest] at h
    rw [evP_rest]
    cases h1 : evP P S F n (.inl rest) st with
    | none => rw [h1] at h; cases h
    | some q =>
      obtain ⟨e, st1⟩ := q
      rw [IH _ _ _ h1]
      rw [h1] at h
      cases e with
      | goto l =>
        simp only at h ⊢
        split at h
        · rename_i r' hr'; exact IH _ _ _ h
        · rename_i hr'; exact h
      | _ => exact h
theorem evP_more {n : Nat} {x : PC ⊕ (PC × PC)} {st : St} {r : AExit × St} (h : evP P S F n x st = some r) : ∀ k, evP P S F (n + k) x st = some r
  | 0 => h
  | k + 1 => evP_mono _ _ _ _ (evP_more h k)
theorem evP_le {n m : Nat} {x : PC ⊕ (PC × PC)} {st : St} {r : AExit × St} (h : evP P S F n x st = some r) (hm : n ≤ m) : evP P S F m x st = some r := by
  obtain ⟨k, rfl⟩ := Nat.exists_eq_add_of_le hm
  exact evP_more h k
end
theorem runF_ret {P : Program} {S : Specs} {F : Nat → List Nat} {n : Nat} {pf : PF} {args : List AV} {h : AHeap} {st : St} {v : AV}
    (h1 : evP P S F n (.inl pf.body) (args ++ List.replicate (pf.ntmps - args.length) .any, h) = some (.ret, st))
    (h2 : ((pf.results.mapM (resultA P st)).map fun vs => match vs with | [v] => v | vs => .tup vs) = some v) : runF P S F n pf args h = some (v, st.2) := by
  unfold runF
  rw [h1]
  exact congrArg (Option.map (·, st.2)) h2
/-- Numbers as cells. -/
def ints (k : IntKind) (n : Nat) (f : Nat → Int) : List AV := (List.range n).map fun i => .int k (f i)
def isInt (k : IntKind) : AV → Bool
  | .int k' _ => decide (k' = k)
  | _ => false
def isInts (k : IntKind) (n : Nat) (l : List AV) : Bool := l.length == n && l.all (isInt k)
def dec (l : List AV) (i : Nat) : Int := match l[i]? with
  | some (.int _ n) => n
  | _ => 0
theorem ints_dec {k : IntKind} {n : Nat} {l : List AV} (h : isInts k n l = true) : l = ints k n (dec l) := by
  simp only [isInts, Bool.and_eq_true, beq_iff_eq, List.all_eq_true] at h
  obtain ⟨rfl, h2⟩ := h
  apply List.ext_getElem
  · simp [ints]
  · intro i h1 h3
    have h4 := h2 l[i] (List.getElem_mem h1)
    simp only [ints, List.getElem_map, List.getElem_range, dec, List.getElem?_eq_getElem h1]
    cases hx : l[i] with
    | int k' m => rw [hx] at h4; simp only [isInt, decide_eq_true_eq] at h4; rw [h4]
    | _ => rw [hx] at h4; cases h4
theorem ints_length (k : IntKind) (n : Nat) (f : Nat → Int) : (ints k n f).length = n := by simp [ints]
theorem ints_isInts (k : IntKind) (n : Nat) (f : Nat → Int) : isInts k n (ints k n f) = true := by
  simp [isInts, ints, isInt]
theorem ints_closed (k : IntKind) (n : Nat) (f : Nat → Int) : (AV.agg (ints k n f)).closed = true := by
  simp only [AV.closed, AV.refs, refsL_eq, List.all_eq_true]
  intro v hv
  simp only [ints, List.mem_map] at hv
  obtain ⟨i, _, rfl⟩ := hv
  rfl
/-- A value that is no slice and names no block. -/
def AV.flat (v : AV) : Bool := v.closed && (match v with | .sl .. => false | _ => true)
theorem imp_flat {h : AHeap} : ∀ (as : List AV) (i : Nat), as.all AV.flat = true → impArgs h i as = some (as, [])
  | [], _, _ => rfl
  | a :: as, i, ha => by
    simp only [List.all_cons, Bool.and_eq_true] at ha
    obtain ⟨h1, h2⟩ := ha
    simp only [AV.flat, Bool.and_eq_true] at h1
    have : impA h i a = some (a, []) := by
      unfold impA
      split
      · simp at h1
      · simp [h1.1]
    simp only [impArgs, this, Option.bind_some, List.length_nil, Nat.add_zero, imp_flat as i h2, Option.map_some, List.nil_append]
theorem quiet_of_plain {P : Program} {S : Specs} (hm : P.follows .mixedOrders = true) (hS : S.OK P) {f : FuncId} {fn : Func} (hf : HasText P f fn) {s : List AV → Option AV}
    (hs : ∀ args v, s args = some v → args.all AV.flat = true ∧ v.closed = true ∧ ∃ F n h', evalBody P S F n fn args [] = some (v, h')) : QuietOK P f fun args _ => s args := by
  have h1 := quiet_of_body hm hS hf (g := fun args hp => match hp with | [] => s args | _ => none) (fun args hp v hv => by
    split at hv
    · exact (hs args v hv).2
    · cases hv)
  refine ⟨fun args h v hv ρ B w0 w hI hok => h1.1 args h v ?_ ρ B w0 w hI hok, fun _ _ _ _ _ _ => rfl, h1.2.2⟩
  show (impArgs h 0 args).bind _ = some v
  rw [imp_flat args 0 (hs args v hv).1]
  exact hv
end Go.Am
