/- Regions: in the text's order, and in any order. -/
import Derived.Test.YtfnlokknpldkgaaAmK
set_option linter.unusedVariables false
set_option linter.unusedSimpArgs false
namespace Go.Am
open Go Go.RowKit
section
variable {P : Program} {S : Specs}
theorem mapM_congr' {E E' : Operand → Option AV} : ∀ (xs : List Operand), (∀ x ∈ xs, E x = E' x) → xs.mapM E = xs.mapM E'
  | [], _ => rfl
  | x :: xs, h => by
    simp only [List.mapM_cons, h x List.mem_cons_self, mapM_congr' xs fun y hy => h y (List.mem_cons_of_mem _ hy)]
theorem parts_congr {E E' : Operand → Option AV} : ∀ (ps : List (Nat × Operand)), (∀ p ∈ ps, E p.2 = E' p.2) → partsA E ps = partsA E' ps
  | [], _ => rfl
  | p :: ps, h => by
    have h1 := parts_congr ps fun y hy => h y (List.mem_cons_of_mem _ hy)
    simp only [partsA] at h1
    simp only [partsA, List.mapM_cons, h p List.mem_cons_self, h1]
theorem evalPure_congr {E E' : Operand → Option AV} {h : AHeap} {o : Oper} (he : ∀ x ∈ o.op.operands, E x = E' x) : evalPure P h E o = evalPure P h E' o := by
  unfold evalPure
  cases hop : o.op with
  | build t ps =>
    simp only [hop, Op.operands, List.mem_toArray, List.mem_map] at he
    simp only [parts_congr ps.toList fun p hp => he p.2 ⟨p, hp, rfl⟩]
  | slice t x lo hi mx =>
    rw [hop] at he
    have h0 : E x = E' x := he x (by simp [Op.operands])
    have h1 : optA E lo = optA E' lo := by cases lo <;> simp [optA]; rw [he _ (by simp [Op.operands])]
    have h2 : optA E hi = optA E' hi := by cases hi <;> simp [optA]; rw [he _ (by simp [Op.operands])]
    have h3 : optA E mx = optA E' mx := by cases mx <;> simp [optA]; rw [he _ (by simp [Op.operands])]
    simp only [h0, h1, h2, h3]
  | makeFunc f a c =>
    rw [hop] at he
    have h1 : a.toList.mapM E = a.toList.mapM E' := mapM_congr' _ fun x hx => he x (by simp [Op.operands]; exact .inl (by simpa using hx))
    have h2 : c.toList.mapM E = c.toList.mapM E' := mapM_congr' _ fun x hx => he x (by simp [Op.operands]; exact .inr (by simpa using hx))
    cases f <;> simp only [h1, h2]
  | call c =>
    rw [hop] at he
    obtain ⟨callee, args, tys⟩ := c
    have h1 : args.toList.mapM E = args.toList.mapM E' := mapM_congr' _ fun x hx => he x (by simp only [Op.operands, Call.operands]; exact Array.mem_append.2 (.inr (by simpa using hx)))
    cases callee with
    | builtin b =>
      cases b <;> simp only [h1]
      split
      · rename_i x t hx ht
        have hxa : x ∈ args := by
          have h2 : x ∈ args.toList := by rw [hx]; simp
          simpa using h2
        have : E x = E' x := he x (by simp only [Op.operands, Call.operands]; exact Array.mem_append.2 (.inr hxa))
        simp only [this]
      · rfl
    | _ => rfl
  | _ =>
    simp only [hop] at he
    first
      | rfl
      | (simp [Op.operands] at he; simp only [he]; done)
      | (simp [Op.operands] at he; obtain ⟨h1, h2⟩ := he; simp only [h1, h2]; done)
      | (simp [Op.operands] at he; obtain ⟨h1, h2, h3⟩ := he; simp only [h1, h2, h3]; done)
theorem evalAlloc_congr {E E' : Operand → Option AV} {k : Nat} {o : Oper} (he : ∀ x ∈ o.op.operands, E x = E' x) : evalAlloc P E k o = evalAlloc P E' k o := by
  unfold evalAlloc
  cases hop : o.op with
  | buildSlice t n ps =>
    simp only [hop, Op.operands, List.mem_toArray, List.mem_map] at he
    simp only [parts_congr ps.toList fun p hp => he p.2 ⟨p, hp, rfl⟩]
  | makeMap t r => cases r <;> rfl
  | _ =>
    simp only [hop] at he
    first
      | rfl
      | (simp [Op.operands] at he; simp only [he]; done)
      | (simp [Op.operands] at he; obtain ⟨h1, h2⟩ := he; simp only [h1, h2]; done)
theorem callee_congr {E E' : Operand → Option AV} {o : Oper} (he : ∀ x ∈ o.op.operands, E x = E' x) : calleeA E o = calleeA E' o := by
  unfold calleeA
  cases hop : o.op with
  | call c =>
    rw [hop] at he
    obtain ⟨callee, args, tys⟩ := c
    have h1 : args.toList.mapM E = args.toList.mapM E' := mapM_congr' _ fun x hx => he x (by simp only [Op.operands, Call.operands]; exact Array.mem_append.2 (.inr (by simpa using hx)))
    cases callee with
    | value f =>
      have h2 : E f = E' f := he f (by simp [Op.operands, Call.operands])
      simp only [h1, h2]
    | _ => rfl
  | _ => rfl
/-- A value's own block, if it names one. -/
def AV.blk : AV → Option Nat
  | .ptr (some (k, _)) => some k
  | .sl (some (k, _)) _ _ => some k
  | .map (some k) => some k
  | _ => none
theorem blk_live {ρ : Rho} {h : AHeap} {v : AV} {k : Nat} (hv : v.ok h ρ) (hk : v.blk = some k) : live h k = true := by
  cases v with
  | ptr a => cases a with
    | none => cases hk
    | some a => cases hk; simpa only [AV.ok, AV.refs] using hv
  | sl a l c => cases a with
    | none => cases hk
    | some a => cases hk; cases c <;> simp only [AV.ok, AV.refs, Bool.and_eq_true] at hv <;> exact hv.1
  | map a => cases a with
    | none => cases hk
    | some a => cases hk; simpa only [AV.ok, AV.refs] using hv
  | _ => cases hk
theorem evalPure_heap {E : Operand → Option AV} {h : AHeap} {s : Nat} {x : AObj} {o : Oper} (he : ∀ y v k, E y = some v → v.blk = some k → k ≠ s) :
    evalPure P (h.set s x) E o = evalPure P h E o := by
  have hg : ∀ k, k ≠ s → (h.set s x)[k]? = h[k]? := fun k hk => List.getElem?_set_ne (fun e => hk e.symm)
  have hc : ∀ k, k ≠ s → cellsAt (h.set s x) k = cellsAt h k := fun k hk => by unfold cellsAt; rw [hg k hk]
  have key : ∀ (f g : AV → Option AV) (y : Operand), (∀ v, (∀ k, v.blk = some k → k ≠ s) → f v = g v) → (E y).bind f = (E y).bind g := by
    intro f g y hfg
    cases hy : E y with
    | none => rfl
    | some v => exact hfg v (fun k hk => he y v k hy hk)
  unfold evalPure
  cases hop : o.op with
  | load t a =>
    refine key _ _ a fun v hv => ?_
    unfold loadA
    split
    · rename_i k q; rw [hc k (hv k rfl)]
    · rfl
  | convert sT dT a =>
    refine key _ _ a fun v hv => ?_
    unfold convertA
    split
    · rfl
    · rfl
    · split
      · rfl
      · rename_i k q hu; rw [hc k (hv k rfl)]
      · rfl
    · rfl
  | binOp op t a b yt =>
    refine key _ _ a fun v hv => ?_
    refine key _ _ b fun u hu => ?_
    have ho : ∀ k, k ≠ s → ownRow (h.set s x) k = ownRow h k := fun k hk => by unfold ownRow; rw [hg k hk]
    unfold binH
    split
    · rename_i k o k' o'
      have e1 := ho k (hv k rfl)
      have e2 := ho k' (hu k' rfl)
      unfold ptrEqA; rw [e1, e2]
    · rename_i k o k' o'
      have e1 := ho k (hv k rfl)
      have e2 := ho k' (hu k' rfl)
      unfold ptrEqA; rw [e1, e2]
    · rfl
  | lookup t a b ok =>
    refine key _ _ a fun v hv => ?_
    cases hb : E b with
    | none => rfl
    | some u =>
      simp only [Option.bind_some]
      unfold lookupA
      split
      · rfl
      · rename_i kt et r hu; rw [hg r (hv r rfl)]
      · rfl
  | call c =>
    obtain ⟨callee, args, tys⟩ := c
    cases callee with
    | builtin b =>
      cases b <;> try rfl
      simp only
      split
      · rename_i y t hy ht
        refine key _ _ y fun v hv => ?_
        unfold lenA
        split
        · rfl
        · rfl
        · rfl
        · rfl
        · rfl
        · rename_i kt et k hu; rw [hg k (hv k rfl)]
        · rfl
      · rfl
    | _ => rfl
  | makeFunc f a c => cases f <;> rfl
  | _ => rfl
theorem evalOperand_put {env : List AV} {dst : Option Tmp} {v : AV} {x : Operand} (hx : ∀ d, dst = some d → x ≠ .tmp d) : evalOperand (put dst v env) x = evalOperand env x := by
  cases dst with
  | none => rfl
  | some d =>
    cases x with
    | tmp t =>
      have : t ≠ d := fun e => hx d rfl (by rw [e])
      simp only [evalOperand, put]
      rw [List.getElem?_set_ne (fun e => this e.symm)]
    | _ => rfl
theorem wantedA_put {ops : Array Oper} {env : List AV} {dst : Option Tmp} {v : AV} {o : Oper} (hd : ∀ d, dst = some d → d ∉ o.looksAt ops) : wantedA ops (put dst v env) o = wantedA ops env o := by
  cases dst with
  | none => rfl
  | some d =>
    unfold wantedA
    cases hg : o.guard with
    | none => rfl
    | some g =>
      obtain ⟨j, want⟩ := g
      simp only
      cases hj : (ops[j]?).bind (·.dst) with
      | none => rfl
      | some q =>
        have hq : q ≠ d := fun e => hd d rfl (by subst e; exact List.mem_append_right _ (by simp [hg, hj]))
        simp only [put]
        rw [List.getElem?_set_ne (fun e => hq e.symm)]
theorem operands_put {ops : Array Oper} {env : List AV} {dst : Option Tmp} {v : AV} {o : Oper} (hd : ∀ d, dst = some d → d ∉ o.looksAt ops) :
    ∀ x ∈ o.op.operands, evalOperand (put dst v env) x = evalOperand env x := fun x hx => evalOperand_put fun d hd' hxd => hd d hd' (by
  subst hxd
  exact List.mem_append_left _ (List.mem_filterMap.2 ⟨.tmp d, by simpa using hx, rfl⟩))
/-- The state is one that some memory has. -/
def Good (st : St) : Prop := ∃ ρ B w0 w, Inv ρ B w0 st.2 w ∧ ∀ v ∈ st.1, AV.ok st.2 ρ v
/-- An operation that does not look at memory. -/
def insens (o : Oper) : Bool := match o.op with
  | .move _ | .assign _ | .pick .. | .build .. | .nilCheck _ | .binOp .. | .unOp .. | .sliceToArrayPointer .. | .slice .. | .fieldAddr .. | .field .. | .indexAddr .. | .index .. | .extract .. | .makeInterface .. | .makeFunc .. => true
  | _ => false
def isLoad (o : Oper) : Bool := match o.op with
  | .load .. => true
  | _ => false
/-- One waits for the other. -/
def waits (ops : Array Oper) (i j : Nat) : Bool := match ops[j]? with
  | some o => o.after.any fun e => Region.binds .any e && e.on == i
  | none => false
/-- A load that may stand ahead of a store and behind it. -/
def loose (ops : Array Oper) (j : Nat) : Bool := (match ops[j]? with
  | some o => isLoad o
  | none => false) && (List.range ops.size).any fun i => (match ops[i]? with
  | some o => isStore o
  | none => false) && !waits ops i j && !waits ops j i
def loosePart (ops : Array Oper) : List Nat := (List.range ops.size).filter (loose ops)
/-- Neither writes what the other looks at, or both are held against one another as they are done. -/
def compat (P : Program) (ls : List Nat) (i j : Nat) (x y : Oper) : Bool :=
  (!isStore x || insens y || isStore y || isAlloc P y || (isLoad y && ls.contains j)) && (!isStore y || insens x || isStore x || isAlloc P x || (isLoad x && ls.contains i))
theorem binH_own {h h' : AHeap} (hh : ∀ k, ownRow h k = ownRow h' k) (op : BinOp) (t : TypeId) (x y : AV) : binH P h op t x y = binH P h' op t x y := by
  unfold binH ptrEqA
  simp only [hh]
theorem evalPure_insens {E : Operand → Option AV} {h h' : AHeap} {o : Oper} (ho : insens o = true) (hh : ∀ k, ownRow h k = ownRow h' k) : evalPure P h E o = evalPure P h' E o := by
  unfold insens at ho
  unfold evalPure
  cases hop : o.op <;> simp only [hop, Bool.false_eq_true] at ho ⊢
  case makeFunc f a c => cases f <;> rfl
  case binOp => simp only [binH_own hh]
theorem insens_quiet {E : Operand → Option AV} {h : AHeap} {o : Oper} (ho : insens o = true) : quietA S h E o = none := by
  unfold insens at ho
  unfold quietA calleeA
  cases hop : o.op <;> simp only [hop, Bool.false_eq_true] at ho ⊢ <;> rfl
theorem storeVal_congr {E E' : Operand → Option AV} {h : AHeap} {o : Oper} (he : ∀ x ∈ o.op.operands, E x = E' x) : storeVal P h E o = storeVal P h E' o := by
  unfold storeVal
  cases hop : o.op with
  | store t a x =>
    simp only [hop, Op.operands] at he
    simp only [he a (by simp), he x (by simp)]
  | _ => rfl
/-- Where a row stands and how long it is. -/
def rowLen (h : AHeap) (k : Nat) : Option Nat := match h[k]? with
  | some (.row _ _ cs) => some cs.length
  | _ => none
theorem storeVal_rows {E : Operand → Option AV} {h h' : AHeap} {o : Oper} (hr : ∀ x p k q, E x = some p → p = .ptr (some (k, q)) → rowLen h' k = rowLen h k) : storeVal P h' E o = storeVal P h E o := by
  unfold storeVal
  cases hop : o.op with
  | store t a x =>
    simp only
    cases ha : E a with
    | none => rfl
    | some p =>
      simp only [Option.bind_some]
      cases hx : E x with
      | none => rfl
      | some v =>
        simp only [Option.bind_some]
        split
        · rename_i k q
          have := hr a _ k q ha rfl
          unfold rowLen at this
          split
          · rename_i t' sz cs hk
            rw [hk] at this
            simp only at this
            split at this
            · rename_i t2 sz2 cs2 hk2
              simp only [Option.some.injEq] at this
              rw [hk2]; simp only [this]
            · cases this
          · rename_i hn
            split at this
            · rename_i t' sz cs hk
              exact absurd hk (hn t' sz cs)
            · split at this
              · rename_i t2 sz2 cs2 hk2; cases this
              · rename_i hn2
                split
                · rename_i t2 sz2 cs2 hk2; exact absurd hk2 (hn2 t2 sz2 cs2)
                · rfl
        · rfl
  | _ => rfl
theorem ownRow_len (h : AHeap) (k : Nat) : ownRow h k = (rowLen h k).isSome := by
  unfold ownRow rowLen
  cases h[k]? with
  | none => rfl
  | some x => cases x <;> rfl
theorem splice_len (cs : List AV) (o : Nat) (vs : List AV) (h : o + vs.length ≤ cs.length) : (spliceA cs o vs).length = cs.length := by
  simp [spliceA]; omega
/-- What a head's effect may be, as memory stands. -/
def EffFits (h : AHeap) (s : Nat) : HEff → Prop
  | .no => True
  | .fill _ => isHole h s = true
  | .st k o vs => ∃ t sz cs, h[k]? = some (.row t sz cs) ∧ o + vs.length ≤ cs.length
theorem rowLen_eff {h : AHeap} {s : Nat} {e : HEff} (hf : EffFits h s e) (k : Nat) (hk : ∀ x, e = .fill x → k ≠ s) : rowLen (applyEff h s e) k = rowLen h k := by
  cases e with
  | no => rfl
  | fill x =>
    simp only [applyEff]
    unfold rowLen
    rw [List.getElem?_set_ne (fun e => hk x rfl e.symm)]
  | st k' o vs =>
    obtain ⟨t, sz, cs, hk', hle⟩ := hf
    simp only [applyEff, hk']
    unfold rowLen
    by_cases he : k = k'
    · subst he
      have hlt : k < h.length := by
        rcases Nat.lt_or_ge k h.length with q | q
        · exact q
        · simp [List.getElem?_eq_none q] at hk'
      rw [List.getElem?_set_self hlt, hk']
      simp only [splice_len cs o vs hle]
    · rw [List.getElem?_set_ne (fun e => he e.symm)]
theorem headVal_fits {ops : Array Oper} {s : Nat} {o : Oper} {st : St} {r : AV × HEff} (hr : headVal P S ops s o st = some r) :
    EffFits st.2 s r.2 ∧ (∀ x, r.2 = .fill x → isAlloc P o = true) ∧ (∀ k q vs, r.2 = .st k q vs → isStore o = true) := by
  unfold headVal at hr
  split at hr
  · cases hr
  · cases hr; exact ⟨trivial, fun x hx => (by cases hx), fun k q vs hx => (by cases hx)⟩
  · split at hr
    · rename_i hal
      split at hr
      · rename_i hho
        simp only [Option.map_eq_some_iff] at hr
        obtain ⟨q, _, rfl⟩ := hr
        exact ⟨hho, fun x _ => hal, fun k q vs hx => (by cases hx)⟩
      · cases hr
    · split at hr
      · rename_i hst
        simp only [Option.map_eq_some_iff] at hr
        obtain ⟨⟨k, q, vs⟩, hv, rfl⟩ := hr
        refine ⟨?_, fun x hx => (by cases hx), fun k q vs _ => hst⟩
        unfold storeVal at hv
        split at hv
        · simp only [Option.bind_eq_some_iff] at hv
          obtain ⟨p, hp, v, hvv, hv⟩ := hv
          split at hv
          · split at hv
            · rename_i t' sz cs hk
              simp only [Option.bind_eq_some_iff] at hv
              obtain ⟨s', hs', hv⟩ := hv
              split at hv
              · rename_i hc
                simp only [Bool.and_eq_true, beq_iff_eq, decide_eq_true_eq] at hc
                cases hv
                exact ⟨t', sz, cs, hk, by simp only; omega⟩
              · cases hv
            · cases hv
          · cases hv
        · cases hv
      · split at hr
        · cases hr; exact ⟨trivial, fun x hx => (by cases hx), fun k q vs hx => (by cases hx)⟩
        · simp only [Option.map_eq_some_iff] at hr
          obtain ⟨v, _, rfl⟩ := hr
          exact ⟨trivial, fun x hx => (by cases hx), fun k q vs hx => (by cases hx)⟩
def loadLen (P : Program) (t : TypeId) : Option Nat := match isAggA P t with
  | some true => szOf P t
  | some false => some 1
  | none => none
/-- The cells that a load looks at. -/
def loadRange (P : Program) (ops : Array Oper) (env : List AV) (o : Oper) : Option (Bool × Nat × Nat × Nat) := match o.op with
  | .load t a => match wantedA ops env o with
    | some true => match evalOperand env a with
      | some (.ptr (some (k, q))) => (loadLen P t).map fun n => (false, k, q, n)
      | _ => none
    | _ => none
  | _ => none
def clash (r q : Bool × Nat × Nat × Nat) : Bool := (r.1 || q.1) && r.2.1 == q.2.1 && decide (r.2.2.1 < q.2.2.1 + q.2.2.2) && decide (q.2.2.1 < r.2.2.1 + r.2.2.2)
theorem clash_comm (a b : Bool × Nat × Nat × Nat) : clash a b = clash b a := by
  unfold clash
  rw [Bool.eq_iff_iff]
  simp only [Bool.and_eq_true, Bool.or_eq_true, beq_iff_eq, decide_eq_true_eq]
  constructor <;> (rintro ⟨⟨⟨h0, h⟩, h'⟩, h''⟩; exact ⟨⟨⟨h0.symm, h.symm⟩, h''⟩, h'⟩)
theorem loadRange_put {ops : Array Oper} {env : List AV} {dst : Option Tmp} {v : AV} {o : Oper} (hd : ∀ d, dst = some d → d ∉ o.looksAt ops) : loadRange P ops (put dst v env) o = loadRange P ops env o := by
  unfold loadRange
  cases hop : o.op <;> try rfl
  rename_i t a
  simp only
  rw [wantedA_put hd, operands_put hd a (by simp [hop, Op.operands])]
theorem splice_get {cs vs : List AV} {o i : Nat} (h : o + vs.length ≤ cs.length) (hi : i < o ∨ o + vs.length ≤ i) : (spliceA cs o vs)[i]? = cs[i]? := by
  unfold spliceA
  rcases hi with hi | hi
  · rw [List.append_assoc, List.getElem?_append_left (by simp; omega), List.getElem?_take_of_lt hi]
  · rw [List.getElem?_append_right (by simp; omega)]
    simp only [List.length_append, List.length_take, List.getElem?_drop]
    congr 1
    omega
theorem part_splice {t : TypeId} {cs vs : List AV} {o q n : Nat} (h : o + vs.length ≤ cs.length) (hn : loadLen P t = some n) (hd : q + n ≤ o ∨ o + vs.length ≤ q ∨ vs.length = 0 ∨ n = 0) : partA P t (spliceA cs o vs) q = partA P t cs q := by
  have hl := splice_len cs o vs h
  unfold loadLen at hn
  unfold partA
  cases hg : isAggA P t with
  | none => rfl
  | some g =>
    cases g with
    | true =>
      simp only [hg] at hn ⊢
      simp only [hn, Option.bind_some, hl]
      split
      · congr 2
        apply List.ext_getElem?
        intro i
        rcases Nat.lt_or_ge i n with hi | hi
        · rw [List.getElem?_take_of_lt hi, List.getElem?_take_of_lt hi, List.getElem?_drop, List.getElem?_drop]
          rcases hd with hd | hd | hd | hd
          · exact splice_get h (.inl (by omega))
          · exact splice_get h (.inr (by omega))
          · have : vs = [] := List.eq_nil_of_length_eq_zero hd
            subst this
            simp [spliceA]
          · omega
        · rw [List.getElem?_take_eq_none hi, List.getElem?_take_eq_none hi]
      · rfl
    | false =>
      simp only [hg, Option.some.injEq] at hn ⊢
      subst hn
      rcases hd with hd | hd | hd | hd
      · exact splice_get h (.inl (by omega))
      · exact splice_get h (.inr (by omega))
      · have : vs = [] := List.eq_nil_of_length_eq_zero hd
        subst this
        simp [spliceA]
      · omega
theorem load_store {h : AHeap} {t : TypeId} {x : AV} {s k o : Nat} {vs : List AV} (hf : EffFits h s (.st k o vs)) (hd : ∀ k' q n, x = .ptr (some (k', q)) → loadLen P t = some n → clash (true, k, o, vs.length) (false, k', q, n) = false) :
    loadA P (applyEff h s (.st k o vs)) t x = loadA P h t x := by
  obtain ⟨t', sz, cs, hk, hle⟩ := hf
  have hlt : k < h.length := by
    rcases Nat.lt_or_ge k h.length with q | q
    · exact q
    · simp [List.getElem?_eq_none q] at hk
  simp only [applyEff, hk]
  unfold loadA
  split
  · rename_i k' q
    by_cases hkk : k' = k
    · subst hkk
      simp only [cellsAt, List.getElem?_set_self hlt, hk, Option.bind_some, objCells]
      cases hn : loadLen P t with
      | none =>
        unfold partA
        unfold loadLen at hn
        cases hg : isAggA P t with
        | none => rfl
        | some g => cases g <;> simp [hg] at hn ⊢; simp [hn]
      | some n =>
        have := hd k' q n rfl hn
        simp only [clash, Bool.true_or, BEq.rfl, Bool.true_and, Bool.and_eq_false_iff, decide_eq_false_iff_not] at this
        exact part_splice hle hn (by omega)
    · simp only [cellsAt, List.getElem?_set_ne (fun e => hkk e.symm)]
  · rfl
/-- What another operation has done does not matter. -/
theorem headVal_after (hS : S.OK P) {ops : Array Oper} {s s' : Nat} {o o' : Oper} {st : St} {r : AV × HEff} (hg : Good st) (hd : ∀ d, o'.dst = some d → d ∉ o.looksAt ops)
    (hf : EffFits st.2 s' r.2) (hss : isAlloc P o = true → ∀ x, r.2 = .fill x → s' ≠ s) (hco : ∀ k q vs, r.2 = .st k q vs → (insens o || isStore o || isAlloc P o) = true ∨ (isLoad o = true ∧ ∀ g, loadRange P ops st.1 o = some g → clash (true, k, q, vs.length) g = false)) :
    headVal P S ops s o (after s' o' st r) = headVal P S ops s o st := by
  obtain ⟨ρ, B, w0, w, hI, hok⟩ := hg
  obtain ⟨rv, ro⟩ := r
  have hops := operands_put (v := rv) (env := st.1) hd
  have hE : ∀ y v k, evalOperand st.1 y = some v → v.blk = some k → live st.2 k = true := fun y v k hy hk => blk_live (operand_ok hok hy) hk
  have hne : ∀ x, ro = .fill x → ∀ y v k, evalOperand st.1 y = some v → v.blk = some k → k ≠ s' := fun x hx y v k hy hk => by
    subst hx; exact live_ne (hole_of hf) (hE y v k hy hk)
  unfold headVal
  simp only [after]
  rw [wantedA_put hd]
  cases hw : wantedA ops st.1 o with
  | none => rfl
  | some b =>
    cases b with
    | false => rfl
    | true =>
      simp only
      rw [evalAlloc_congr hops, evalPure_congr hops, storeVal_congr hops]
      have hq : ∀ h', quietA S h' (evalOperand (put o'.dst rv st.1)) o = quietA S h' (evalOperand st.1) o := fun h' => by unfold quietA; rw [callee_congr hops]
      rw [hq]
      by_cases hal : isAlloc P o = true
      · have h1 : isHole (applyEff st.2 s' ro) s = isHole st.2 s := by
          cases ro with
          | no => rfl
          | fill x => unfold isHole applyEff; rw [List.getElem?_set_ne (hss hal x rfl)]
          | st k q vs =>
            obtain ⟨t, sz, cs, hk, hle⟩ := hf
            simp only [applyEff, hk]
            unfold isHole
            have hlt : k < st.2.length := by
              rcases Nat.lt_or_ge k st.2.length with q | q
              · exact q
              · simp [List.getElem?_eq_none q] at hk
            by_cases hks : k = s
            · subst hks; rw [List.getElem?_set_self hlt, hk]
            · rw [List.getElem?_set_ne hks]
        simp only [hal, if_true, h1]
      · simp only [hal, Bool.false_eq_true, if_false]
        by_cases hst : isStore o = true
        · simp only [hst, if_true]
          rw [storeVal_rows (h := st.2) (h' := applyEff st.2 s' ro) (fun x p k q hx hp => rowLen_eff hf k (fun y hy => hne y hy x p k hx (by rw [hp]; rfl)))]
        · simp only [hst, Bool.false_eq_true, if_false]
          cases ro with
          | no => rfl
          | fill x =>
            simp only [applyEff]
            rw [evalPure_heap (hne x rfl)]
            have h2 : quietA S (st.2.set s' x) (evalOperand st.1) o = quietA S st.2 (evalOperand st.1) o := by
              unfold quietA
              cases hc : calleeA (evalOperand st.1) o with
              | none => rfl
              | some c =>
                simp only [Option.bind_some]
                cases hsp : S.q c.1 with
                | none => rfl
                | some sp =>
                  simp only [Option.bind_some]
                  have hq2 := hS.q c.1 sp hsp
                  refine hq2.2.1 c.2 st.2 s' x (hole_of hf) ⟨ρ, fun y hy => ?_, hI.wf⟩
                  exact callee_ok hok hc y hy
            rw [h2]
          | st k q vs =>
            rcases hco k q vs rfl with hin | ⟨hlo, hcl⟩
            · have hin : insens o = true := by simpa [hst, hal] using hin
              rw [evalPure_insens (h' := st.2) hin (fun k => by rw [ownRow_len, ownRow_len, rowLen_eff hf k (fun x hx => by cases hx)]), insens_quiet hin, insens_quiet hin]
            · unfold isLoad at hlo
              cases hop : o.op <;> simp only [hop, Bool.false_eq_true] at hlo
              rename_i t a
              have e1 : evalPure P (applyEff st.2 s' (.st k q vs)) (evalOperand st.1) o = evalPure P st.2 (evalOperand st.1) o := by
                unfold evalPure
                simp only [hop]
                cases hE1 : evalOperand st.1 a with
                | none => rfl
                | some p =>
                  simp only [Option.bind_some]
                  refine load_store hf fun k' q' n hp hn => hcl _ ?_
                  subst hp
                  unfold loadRange
                  simp only [hop, hw, hE1, hn, Option.map_some]
              have e2 : ∀ h', quietA S h' (evalOperand st.1) o = none := fun h' => by unfold quietA calleeA; simp only [hop]; rfl
              rw [e1, e2, e2]
/-- One operation after another. -/
def evalOps (P : Program) (S : Specs) (ops : Array Oper) : Nat → List Oper → St → Option St
  | _, [], st => some st
  | s, o :: rest, st => (stepA P S ops s o st).bind (evalOps P S ops (if isAlloc P o then s + 1 else s) rest)
variable {ds : List Deferred} {B : Fr} {w0 : World} {ρ0 : Rho} {h0 : AHeap}
theorem evalOps_sound (hS : S.OK P) {R : Option Nat} {ops : Array Oper} {Q : Exit → Act → World → Prop} : ∀ (l : List Oper) (s : Nat) (st st' : St) (a : Act) (w : World), evalOps P S ops s l st = some st' → RelD ds B w0 ρ0 h0 st a w →
    (∀ a' w', RelD ds B w0 ρ0 h0 st' a' w' → Q .normal a' w') → wpListIn (fR R) 0 P ops Q l a w
  | [], s, st, st', a, w, he, hR, hQ => by simp only [evalOps, Option.some.injEq] at he; subst he; exact hQ a w hR
  | o :: rest, s, st, st', a, w, he, hR, hQ => by
    simp only [evalOps, Option.bind_eq_some_iff] at he
    obtain ⟨st1, h1, h2⟩ := he
    exact step_in (Q := Q) hS hR h1 (K := wpListIn (fR R) 0 P ops Q rest) (fun a' w' hR' => evalOps_sound hS rest _ st1 st' a' w' h2 hR' hQ)
/-- The slot of an operation's block. -/
def slotOf (P : Program) (l : List Oper) (s i : Nat) : Nat := s + ((l.take i).filter (isAlloc P)).length
theorem good_of_rel {st : St} {a : Act} {w : World} (hR : RelD ds B w0 ρ0 h0 st a w) : Good st := by
  obtain ⟨ρ, hI, hF, hok, _⟩ := hR
  exact ⟨ρ, B, w0, w, hI, hok⟩
theorem rel_of_good {st : St} (hg : Good st) : ∃ B w0 ρ0 a w, RelD [] B w0 ρ0 [] st a w := by
  obtain ⟨ρ, B, w0, w, hI, hok⟩ := hg
  refine ⟨B, w0, ρ, ⟨(st.1.map (AV.real ρ)).toArray, []⟩, w, ρ, hI, ⟨by simp, fun i v hi _ => by simp [hi]⟩, hok, rfl, fun i hi => by simp [live] at hi⟩
theorem good_head (hS : S.OK P) {ops : Array Oper} {s : Nat} {o : Oper} {st st' : St} (hg : Good st) (hst : headStep0 P S ops s o st = some st') : Good st' := by
  obtain ⟨B, w0, ρ0, a, w, hR⟩ := rel_of_good hg
  have h1 : stepA P S ops s o st = some st' := by unfold stepA; rw [hst]
  have h2 := step_sound (K := fun _ _ => Good st') (Q := fun _ _ _ => Good st') hS hR h1 (fun a' w' hR' => good_of_rel hR')
  split at h2
  · unfold Oper.wp at h2
    generalize (execOp a.eval o).run P w = r at h2
    cases r with
    | ok x w' =>
      cases x <;> simp only [Oper.upon] at h2 <;> first | exact h2 | skip
      · obtain ⟨e, w'', fr, hR, -⟩ := h2 []
        cases e <;> simp only [LetsOut] at hR <;> first | exact hR | (obtain ⟨_, _, h⟩ := hR; exact h)
      · obtain ⟨v, w'', hR, -⟩ := h2 default []
        exact hR
    | halt x w' => cases x <;> simp only [Oper.upon] at h2 <;> exact h2
  · exact h2
theorem splice_comm (cs : List AV) (o o' : Nat) (vs vs' : List AV) (h1 : o + vs.length ≤ cs.length) (h2 : o' + vs'.length ≤ cs.length) (hd : o + vs.length ≤ o' ∨ o' + vs'.length ≤ o) :
    spliceA (spliceA cs o vs) o' vs' = spliceA (spliceA cs o' vs') o vs := by
  apply List.ext_getElem?
  intro i
  have key : ∀ (cs : List AV) (o : Nat) (vs : List AV) (i : Nat), o + vs.length ≤ cs.length → (spliceA cs o vs)[i]? = if o ≤ i ∧ i < o + vs.length then vs[i - o]? else cs[i]? := by
    intro cs o vs i h
    unfold spliceA
    by_cases ha : i < o
    · rw [if_neg (by omega), List.getElem?_append_left (by simp; omega), List.getElem?_append_left (by simp; omega)]
      simp [List.getElem?_take, ha]
    · by_cases hb : i < o + vs.length
      · rw [if_pos ⟨by omega, hb⟩, List.getElem?_append_left (by simp; omega), List.getElem?_append_right (by simp; omega)]
        congr 1
        simp; omega
      · rw [if_neg (by omega), List.getElem?_append_right (by simp; omega), List.getElem?_drop]
        congr 1
        simp; omega
  have l1 := splice_len cs o vs h1
  have l2 := splice_len cs o' vs' h2
  rw [key _ _ _ _ (by omega), key _ _ _ _ h1, key _ _ _ _ (by omega), key _ _ _ _ h2]
  by_cases ha : o ≤ i ∧ i < o + vs.length
  · have hb : ¬ (o' ≤ i ∧ i < o' + vs'.length) := by omega
    rw [if_neg hb, if_pos ha, if_pos ha]
  · rw [if_neg ha, if_neg ha]
/-- The cells that were written so far, by operations. -/
abbrev Log := List (Option (Bool × Nat × Nat × Nat))
def logOk (log : Log) (r : Bool × Nat × Nat × Nat) : Bool := log.all fun x => match x with
  | some q => !clash r q
  | none => true
/-- The cells that an operation writes, or looks at where that matters. -/
def rngOf (P : Program) (ops : Array Oper) (ls : List Nat) (i : Nat) (o : Oper) (st : St) (r : AV × HEff) : Option (Bool × Nat × Nat × Nat) := match r.2 with
  | .st k o vs => some (true, k, o, vs.length)
  | _ => if ls.contains i then loadRange P ops st.1 o else none
/-- One operation of a head, number i. -/
def headStep (P : Program) (S : Specs) (ls : List Nat) (ops : Array Oper) (i s : Nat) (o : Oper) (x : St × Log) : Option (St × Log) :=
  (headVal P S ops s o x.1).bind fun r => match rngOf P ops ls i o x.1 r with
    | some q => if logOk x.2 q then some (after s o x.1 r, x.2.set i (some q)) else none
    | none => some (after s o x.1 r, x.2)
theorem headStep_0 {ls : List Nat} {ops : Array Oper} {i s : Nat} {o : Oper} {x x' : St × Log} (h : headStep P S ls ops i s o x = some x') : headStep0 P S ops s o x.1 = some x'.1 := by
  unfold headStep at h
  simp only [Option.bind_eq_some_iff] at h
  obtain ⟨r, hr, h⟩ := h
  unfold headStep0
  rw [hr]
  split at h
  · split at h
    · cases h; rfl
    · cases h
  · cases h; rfl
def LogInv (ops : Array Oper) (listed : Array Bool) (log : Log) : Prop := log.length = ops.size ∧ ∀ i, i < ops.size → listed.getD i true = false → log[i]? = some none
theorem logInv_step {ls : List Nat} {ops : Array Oper} {listed : Array Bool} {i s : Nat} {o : Oper} {x x' : St × Log} (hl : LogInv ops listed x.2) (h : headStep P S ls ops i s o x = some x') : LogInv ops (listed.setIfInBounds i true) x'.2 := by
  have key : ∀ j, listed.getD j true = true → (listed.setIfInBounds i true).getD j true = true := fun j hj => by
    by_cases hij : i = j
    · subst hij
      rcases Nat.lt_or_ge i listed.size with q | q <;> simp [q]
    · rw [getD_set_ne true hij]; exact hj
  have hne : ∀ j, (listed.setIfInBounds i true).getD j true = false → j ≠ i ∧ listed.getD j true = false := fun j hj => by
    by_cases hij : i = j
    · subst hij
      rcases Nat.lt_or_ge i listed.size with q | q
      · simp [q] at hj
      · simp [Array.getElem?_eq_none q] at hj
    · rw [getD_set_ne true hij] at hj; exact ⟨fun e => hij e.symm, hj⟩
  unfold headStep at h
  simp only [Option.bind_eq_some_iff] at h
  obtain ⟨r, hr, h⟩ := h
  split at h
  · split at h
    · cases h
      refine ⟨by simp [hl.1], fun j hj hlj => ?_⟩
      obtain ⟨h1, h2⟩ := hne j hlj
      rw [List.getElem?_set_ne (fun e => h1 e.symm)]
      exact hl.2 j hj h2
    · cases h
  · cases h
    exact ⟨hl.1, fun j hj hlj => hl.2 j hj (hne j hlj).2⟩
/-- Two operations that are apart may be taken either way. -/
theorem head_swap (hS : S.OK P) {ls : List Nat} {ops : Array Oper} {i j si sj : Nat} {oi oj : Oper} {x x1 x2 : St × Log} (hij : i ≠ j) (hg : Good x.1) (hli : x.2[i]? = some none) (hap : oi.apart ops oj = true) (hco : compat P ls i j oi oj = true)
    (hss : isAlloc P oi = true → isAlloc P oj = true → si ≠ sj)
    (hi : headStep P S ls ops i si oi x = some x1) (hj : headStep P S ls ops j sj oj x1 = some x2) :
    ∃ x', headStep P S ls ops j sj oj x = some x' ∧ headStep P S ls ops i si oi x' = some x2 := by
  obtain ⟨h1, h2, h3⟩ := Oper.apart_spec hap
  have hi0 := hi
  have hj0 := hj
  unfold headStep at hi hj
  simp only [Option.bind_eq_some_iff] at hi hj
  obtain ⟨ri, hri, hi⟩ := hi
  obtain ⟨rj, hrj, hj⟩ := hj
  simp only [compat, Bool.and_eq_true] at hco
  have fi := headVal_fits hri
  have hx1 : x1.1 = after si oi x.1 ri := by
    split at hi
    · split at hi
      · cases hi; rfl
      · cases hi
    · cases hi; rfl
  rw [hx1] at hrj
  have hrg : ∀ r, rngOf P ops ls j oj x1.1 r = rngOf P ops ls j oj x.1 r := fun r => by
    rw [hx1]
    unfold rngOf after
    simp only [loadRange_put h1]
  rw [hrg] at hj
  have hlen : i < x.2.length := by
    rcases Nat.lt_or_ge i x.2.length with q | q
    · exact q
    · simp [List.getElem?_eq_none q] at hli
  -- the ranges
  have hdis : ∀ qi qj, rngOf P ops ls i oi x.1 ri = some qi → rngOf P ops ls j oj x.1 rj = some qj → clash qj qi = false := by
    intro qi qj hqi hqj
    rw [hqi] at hi
    simp only at hi
    split at hi
    · cases hi
      rw [hqj] at hj
      simp only at hj
      split at hj
      · rename_i hok
        simp only [logOk, List.all_eq_true] at hok
        have := hok (some qi) (List.mem_of_getElem? (i := i) (by rw [List.getElem?_set_self hlen]))
        simpa using this
      · cases hj
    · cases hi
  have nost : ∀ {o : Oper} {s : Nat} {st : St} {r : AV × HEff}, headVal P S ops s o st = some r → isLoad o = true → ∀ k q vs, r.2 ≠ .st k q vs := fun hv hl k q vs he => by
    have := (headVal_fits hv).2.2 k q vs he
    unfold isStore at this
    unfold isLoad at hl
    split at this
    · rename_i hop; simp [hop] at hl
    · cases this
  have rng_load : ∀ {o : Oper} {m s : Nat} {st : St} {r : AV × HEff}, headVal P S ops s o st = some r → isLoad o = true → ls.contains m = true → rngOf P ops ls m o x.1 r = loadRange P ops x.1.1 o := fun {o m s st r} hv hl hc => by
    unfold rngOf
    split
    · rename_i k q vs he; exact absurd he (nost hv hl k q vs)
    · rw [if_pos hc]
  have e1 : headVal P S ops sj oj x.1 = some rj := by
    rw [← hrj]
    refine (headVal_after hS hg h1 fi.1 (fun hal y hy => hss (fi.2.1 y hy) hal) (fun k q vs hr => ?_)).symm
    have hc := hco.1
    rw [fi.2.2 k q vs hr] at hc
    simp only [Bool.not_true, Bool.false_or, Bool.or_eq_true, Bool.and_eq_true] at hc
    rcases hc with hc | ⟨hl, hm⟩
    · exact .inl (by simpa [or_assoc] using hc)
    · refine .inr ⟨hl, fun g hg' => ?_⟩
      have a1 : rngOf P ops ls i oi x.1 ri = some (true, k, q, vs.length) := by unfold rngOf; rw [hr]
      have a2 : rngOf P ops ls j oj x.1 rj = some g := by rw [rng_load hrj hl hm]; exact hg'
      rw [clash_comm]
      exact hdis _ _ a1 a2
  have fj := headVal_fits e1
  have e2 : headVal P S ops si oi (after sj oj x.1 rj) = some ri := by
    rw [← hri]
    refine headVal_after hS hg h3 fj.1 (fun hal y hy => fun e => hss hal (fj.2.1 y hy) e.symm) (fun k q vs hr => ?_)
    have hc := hco.2
    rw [fj.2.2 k q vs hr] at hc
    simp only [Bool.not_true, Bool.false_or, Bool.or_eq_true, Bool.and_eq_true] at hc
    rcases hc with hc | ⟨hl, hm⟩
    · exact .inl (by simpa [or_assoc] using hc)
    · refine .inr ⟨hl, fun g hg' => ?_⟩
      have a1 : rngOf P ops ls j oj x.1 rj = some (true, k, q, vs.length) := by unfold rngOf; rw [hr]
      have a2 : rngOf P ops ls i oi x.1 ri = some g := by rw [rng_load hri hl hm]; exact hg'
      exact hdis _ _ a2 a1
  have hok1 : ∀ qj, rngOf P ops ls j oj x.1 rj = some qj → logOk x.2 qj = true := by
    intro qj hqj
    rw [hqj] at hj
    simp only at hj
    split at hj
    · rename_i hok
      cases hq : rngOf P ops ls i oi x.1 ri with
      | none => rw [hq] at hi; simp only at hi; cases hi; exact hok
      | some qi =>
        rw [hq] at hi
        simp only at hi
        split at hi
        · cases hi
          simp only [logOk, List.all_eq_true] at hok ⊢
          intro y hy
          obtain ⟨m, hm⟩ := List.mem_iff_getElem?.1 hy
          by_cases hmi : m = i
          · subst hmi
            rw [hli] at hm
            cases hm; rfl
          · exact hok y (List.mem_of_getElem? (i := m) (by rw [List.getElem?_set_ne (fun e => hmi e.symm)]; exact hm))
        · cases hi
    · cases hj
  have hcl := clash_comm
  have hok2 : ∀ qi, rngOf P ops ls i oi x.1 ri = some qi → logOk x.2 qi = true := by
    intro qi hqi
    rw [hqi] at hi
    simp only at hi
    split at hi
    · assumption
    · cases hi
  -- memory
  have hput : put oj.dst rj.1 (put oi.dst ri.1 x.1.1) = put oi.dst ri.1 (put oj.dst rj.1 x.1.1) := by
    cases hdi : oi.dst with
    | none => rfl
    | some d =>
      cases hdj : oj.dst with
      | none => rfl
      | some d' =>
        have : d ≠ d' := fun e => h2 d hdi (by rw [hdj, e])
        simp only [put]
        rw [List.set_comm _ _ this]
  have hmem : applyEff (applyEff x.1.2 si ri.2) sj rj.2 = applyEff (applyEff x.1.2 sj rj.2) si ri.2 := by
    obtain ⟨rvi, rei⟩ := ri
    obtain ⟨rvj, rej⟩ := rj
    have fill_st : ∀ (h : AHeap) (s k o : Nat) (y : AObj) (vs : List AV), isHole h s = true → (∃ t sz cs, h[k]? = some (.row t sz cs) ∧ o + vs.length ≤ cs.length) →
        applyEff (h.set s y) s (.st k o vs) = (applyEff h s (.st k o vs)).set s y := by
      intro h s k o y vs hho ⟨t, sz, cs, hk, _⟩
      have hks : k ≠ s := fun e => by subst e; rw [hole_of hho] at hk; cases hk
      simp only [applyEff]
      rw [List.getElem?_set_ne (fun e => hks e.symm), hk]
      simp only
      rw [List.set_comm _ _ (fun e => hks e.symm)]
    cases rei with
    | no => rfl
    | fill y =>
      cases rej with
      | no => rfl
      | fill z =>
        have := hss (fi.2.1 y rfl) (fj.2.1 z rfl)
        simp only [applyEff]
        rw [List.set_comm _ _ this]
      | st k o vs => exact fill_st x.1.2 si k o y vs fi.1 fj.1
    | st k o vs =>
      cases rej with
      | no => rfl
      | fill z => exact (fill_st x.1.2 sj k o z vs fj.1 fi.1).symm
      | st k' o' vs' =>
        obtain ⟨t, sz, cs, hk, hle⟩ := fi.1
        obtain ⟨t', sz', cs', hk', hle'⟩ := fj.1
        have hd := hdis (true, k, o, vs.length) (true, k', o', vs'.length) rfl rfl
        have hlt : ∀ m y, x.1.2[m]? = some y → m < x.1.2.length := fun m y hm => by
          rcases Nat.lt_or_ge m x.1.2.length with q | q
          · exact q
          · simp [List.getElem?_eq_none q] at hm
        by_cases hkk : k = k'
        · subst hkk
          rw [hk] at hk'
          cases hk'
          simp only [applyEff, hk]
          rw [List.getElem?_set_self (hlt k _ hk), List.getElem?_set_self (hlt k _ hk)]
          simp only [List.set_set]
          rw [splice_comm cs o o' vs vs' hle hle']
          simp only [clash, Bool.true_or, BEq.rfl, Bool.true_and, Bool.and_eq_false_iff, decide_eq_false_iff_not] at hd
          omega
        · simp only [applyEff, hk, hk']
          rw [List.getElem?_set_ne hkk, List.getElem?_set_ne (fun e => hkk e.symm), hk, hk']
          simp only
          rw [List.set_comm _ _ hkk]
  have hrg2 : ∀ y r, rngOf P ops ls i oi (after sj oj x.1 y) r = rngOf P ops ls i oi x.1 r := fun y r => by
    unfold rngOf after
    simp only [loadRange_put h3]
  have haft : after sj oj (after si oi x.1 ri) rj = after si oi (after sj oj x.1 rj) ri := by
    unfold after
    simp only
    rw [hput, hmem]
  cases hqj : rngOf P ops ls j oj x.1 rj with
  | none =>
    refine ⟨(after sj oj x.1 rj, x.2), ?_, ?_⟩
    · unfold headStep; simp only [e1, Option.bind_some, hqj]
    · rw [hqj] at hj
      simp only [Option.some.injEq] at hj
      unfold headStep
      simp only [e2, Option.bind_some, hrg2]
      cases hqi : rngOf P ops ls i oi x.1 ri with
      | none =>
        rw [hqi] at hi
        simp only [Option.some.injEq] at hi
        simp only [Option.some.injEq]
        rw [← hj, ← hi, haft]
      | some qi =>
        rw [hqi] at hi
        simp only [hok2 qi hqi, if_true, Option.some.injEq] at hi ⊢
        rw [← hj, ← hi, haft]
  | some qj =>
    refine ⟨(after sj oj x.1 rj, x.2.set j (some qj)), ?_, ?_⟩
    · unfold headStep; simp only [e1, Option.bind_some, hqj, hok1 qj hqj, if_true]
    · rw [hqj] at hj
      simp only at hj
      split at hj
      · simp only [Option.some.injEq] at hj
        unfold headStep
        simp only [e2, Option.bind_some, hrg2]
        cases hqi : rngOf P ops ls i oi x.1 ri with
        | none =>
          rw [hqi] at hi
          simp only [Option.some.injEq] at hi
          simp only [Option.some.injEq]
          rw [← hj, ← hi, haft]
        | some qi =>
          have hok3 : logOk (x.2.set j (some qj)) qi = true := by
            have h4 := hok2 qi hqi
            simp only [logOk, List.all_eq_true] at h4 ⊢
            intro y hy
            rcases List.mem_or_eq_of_mem_set hy with hy | rfl
            · exact h4 y hy
            · simp only; rw [hcl, hdis qi qj hqi hqj]; rfl
          rw [hqi] at hi
          simp only [hok2 qi hqi, if_true, Option.some.injEq] at hi
          simp only [hok3, if_true, Option.some.injEq]
          rw [← hj, ← hi, haft, List.set_comm _ _ hij]
      · cases hj
/-- Whatever order is picked, as far as the head goes. -/
def amAny (P : Program) (S : Specs) (ls : List Nat) (ops : Array Oper) (sl : Nat → Nat) (n : Nat) (L : Array Bool → St → Prop) : Nat → Array Bool → St × Log → Prop
  | 0, listed, x => L listed x.1
  | f + 1, listed, x => Region.ready .any ops listed ≠ [] ∧ ∀ i ∈ Region.ready .any ops listed, i < n ∧ ∃ o x', ops[i]? = some o ∧ headStep P S ls ops i (sl i) o x = some x' ∧
      amAny P S ls ops sl n L f (listed.setIfInBounds i true) x'
theorem amAny_first (hS : S.OK P) {ls : List Nat} {ops : Array Oper} {sl : Nat → Nat} {n i : Nat} {oi : Oper} {L : Array Bool → St → Prop} (hi : ops[i]? = some oi)
    (hsl : ∀ j oj, ops[j]? = some oj → j ≠ i → isAlloc P oi = true → isAlloc P oj = true → sl i ≠ sl j) (Hd : Array Bool → Prop)
    (hHd : ∀ listed, Hd listed → listed.getD i true = false → ∀ j ∈ Region.ready .any ops listed, j < n) (hHs : ∀ listed j, Hd listed → j ∈ Region.ready .any ops listed → j < n → Hd (listed.setIfInBounds j true)) (hin : i < n)
    (hdone : ∀ listed st, L listed st → ∀ j ∈ Region.ready .any ops listed, n ≤ j) :
    ∀ (f : Nat) (listed : Array Bool) (x x1 : St × Log), Hd listed → Good x.1 → LogInv ops listed x.2 →
      (∀ j oj, ops[j]? = some oj → j ≠ i → listed.getD j true = false → (∀ e ∈ oj.after, Region.binds .any e = true → e.on ≠ i) → oi.apart ops oj = true ∧ compat P ls i j oi oj = true) →
      i ∈ Region.ready .any ops listed → headStep P S ls ops i (sl i) oi x = some x1 →
      amAny P S ls ops sl n L f (listed.setIfInBounds i true) x1 → amAny P S ls ops sl n L (f + 1) listed x := by
  have hisz : i < ops.size := by
    rcases Nat.lt_or_ge i ops.size with q | q
    · exact q
    · simp [Array.getElem?_eq_none q] at hi
  intro f
  induction f with
  | zero =>
    intro listed x x1 inv hg hlog _ hr hy H
    have hun := (mem_ready.1 hr).1
    refine ⟨fun h => (by rw [h] at hr; cases hr), fun j hj => ?_⟩
    have hjn := hHd listed inv hun j hj
    refine ⟨hjn, ?_⟩
    by_cases hji : j = i
    · subst hji; exact ⟨oi, x1, hi, hy, H⟩
    · have := hdone _ _ H j (ready_mono hj hji)
      omega
  | succ f ih =>
    intro listed x x1 inv hg hlog hfree hr hy H
    have hun := (mem_ready.1 hr).1
    refine ⟨fun h => (by rw [h] at hr; cases hr), fun j hj => ?_⟩
    have hjn := hHd listed inv hun j hj
    refine ⟨hjn, ?_⟩
    by_cases hji : j = i
    · subst hji; exact ⟨oi, x1, hi, hy, H⟩
    · obtain ⟨-, oj', x2, hoj', hs2, H2⟩ := H.2 j (ready_mono hj hji)
      obtain ⟨hjun, oj, hoj, hall⟩ := mem_ready.1 hj
      have : oj' = oj := Option.some.inj (hoj'.symm.trans hoj)
      subst this
      have hnot : ∀ e ∈ oj'.after, Region.binds .any e = true → e.on ≠ i := fun e he hb heq => by
        have h1 := hall e he hb
        rw [heq, getD_both hun] at h1
        cases h1
      have hf := hfree j oj' hoj hji hjun hnot
      obtain ⟨x', hs', hs3⟩ := head_swap hS (fun e => hji e.symm) hg (hlog.2 i hisz hun) hf.1 hf.2 (fun h1 h2 => hsl j oj' hoj hji h1 h2) hy hs2
      refine ⟨oj', x', hoj, hs', ?_⟩
      have hfree' : ∀ k ok, ops[k]? = some ok → k ≠ i → (listed.setIfInBounds j true).getD k true = false →
          (∀ e ∈ ok.after, Region.binds .any e = true → e.on ≠ i) → oi.apart ops ok = true ∧ compat P ls i k oi ok = true := fun k ok hk hki hun' hno => by
        refine hfree k ok hk hki ?_ hno
        by_cases hjk : j = k
        · subst hjk; exact hjun
        · rw [getD_set_ne true hjk] at hun'; exact hun'
      refine ih (listed.setIfInBounds j true) x' x2 (hHs listed j inv hj hjn) (good_head hS hg (headStep_0 hs')) (logInv_step hlog hs') hfree' (ready_mono hr (Ne.symm hji)) hs3 ?_
      rw [Array.setIfInBounds_comm _ _ hji]
      exact H2
/-- The head's operations in the text's order. -/
def evalHead (P : Program) (S : Specs) (ls : List Nat) (ops : Array Oper) (sl : Nat → Nat) : Nat → List Oper → St × Log → Option (St × Log)
  | _, [], x => some x
  | k, o :: rest, x => (headStep P S ls ops k (sl k) o x).bind (evalHead P S ls ops sl (k + 1) rest)
/-- Nothing that is not listed and does not wait for it stands against operation i. -/
def freeC (P : Program) (ls : List Nat) (ops : Array Oper) (listed : Array Bool) (i : Nat) : Bool :=
  match ops[i]? with
  | none => true
  | some oi => (List.range ops.size).all fun j => j == i || listed.getD j true || (match ops[j]? with
    | some oj => (oj.after.any fun e => Region.binds .any e && e.on == i) || compat P ls i j oi oj
    | none => true)
theorem freeC_spec {ls : List Nat} {ops : Array Oper} {listed : Array Bool} {i : Nat} {oi : Oper} (hi : ops[i]? = some oi) (h : freeC P ls ops listed i = true) (j : Nat) (oj : Oper) (hj : ops[j]? = some oj) (hji : j ≠ i) (hl : listed.getD j true = false)
    (hn : ∀ e ∈ oj.after, Region.binds .any e = true → e.on ≠ i) : compat P ls i j oi oj = true := by
  unfold freeC at h
  rw [hi] at h
  simp only [List.all_eq_true, List.mem_range] at h
  have hjs : j < ops.size := by
    rcases Nat.lt_or_ge j ops.size with q | q
    · exact q
    · simp [Array.getElem?_eq_none q] at hj
  have := h j hjs
  rw [hj, hl] at this
  simp only [Bool.or_false, Bool.or_eq_true, beq_iff_eq] at this
  rcases this with h1 | h1 | h1
  · exact absurd h1 hji
  · obtain ⟨e, he, h2⟩ := Array.any_eq_true'.1 h1
    simp only [Bool.and_eq_true, beq_iff_eq] at h2
    exact absurd h2.2 (hn e he h2.1)
  · exact h1
/-- Each in its turn may be taken first; behind the head E's Bool. -/
def lexHeadB (P : Program) (ls : List Nat) (ops : Array Oper) (E : Array Bool → Bool) : Nat → Nat → Array Bool → Bool
  | 0, _, listed => E listed
  | f + 1, k, listed => (Region.ready .any ops listed).contains k && Region.free .any ops listed k && freeC P ls ops listed k && lexHeadB P ls ops E f (k + 1) (listed.setIfInBounds k true)
theorem amAny_lex (hS : S.OK P) {ls : List Nat} {ops : Array Oper} {sl : Nat → Nat} {n : Nat} {E : Array Bool → Bool} {L : St → Prop}
    (hsl : ∀ i j oi oj, ops[i]? = some oi → ops[j]? = some oj → j ≠ i → isAlloc P oi = true → isAlloc P oj = true → sl i ≠ sl j) (Hd : Array Bool → Prop)
    (hHd : ∀ i listed, i < n → Hd listed → listed.getD i true = false → ∀ j ∈ Region.ready .any ops listed, j < n) (hHs : ∀ listed j, Hd listed → j ∈ Region.ready .any ops listed → j < n → Hd (listed.setIfInBounds j true))
    (hdone : ∀ listed, E listed = true → ∀ j ∈ Region.ready .any ops listed, n ≤ j) :
    ∀ (l : List Oper) (k : Nat) (listed : Array Bool) (x x' : St × Log), (∀ j, j < l.length → l[j]? = ops[k + j]?) → k + l.length = n → Hd listed → Good x.1 → LogInv ops listed x.2 →
      lexHeadB P ls ops E l.length k listed = true → evalHead P S ls ops sl k l x = some x' → L x'.1 →
      amAny P S ls ops sl n (fun listed' st'' => E listed' = true ∧ L st'') l.length listed x
  | [], k, listed, x, x', _, _, _, _, _, hB, he, hL => by
    simp only [evalHead, Option.some.injEq] at he
    subst he
    exact ⟨hB, hL⟩
  | o :: l, k, listed, x, x', hl, hk, inv, hg, hlog, hB, he, hL => by
    have h0 : ops[k]? = some o := by simpa using (hl 0 (by simp)).symm
    simp only [List.length_cons, lexHeadB, Bool.and_eq_true] at hB
    obtain ⟨⟨⟨hr, hf⟩, hfc⟩, hB'⟩ := hB
    have hkn : k < n := by simp only [List.length_cons] at hk; omega
    have hr' : k ∈ Region.ready .any ops listed := by simpa using hr
    simp only [evalHead, Option.bind_eq_some_iff] at he
    obtain ⟨x1, h1, h2⟩ := he
    refine amAny_first hS h0 (fun j oj hj hjk => hsl k j o oj h0 hj hjk) Hd (fun listed' => hHd k listed' hkn) hHs hkn (fun listed' st'' hL' => hdone listed' hL'.1) l.length listed x x1 inv hg hlog
      (fun j oj hj hjk hl' hn => ⟨Region.free_spec h0 hf j oj hj hjk hl' hn, freeC_spec h0 hfc j oj hj hjk hl' hn⟩) hr' h1 ?_
    exact amAny_lex hS hsl Hd hHd hHs hdone l (k + 1) _ x1 x' (fun j hj => by have := hl (j + 1) (by simp; omega); simpa [Nat.add_assoc, Nat.add_comm 1 j] using this) (by simp only [List.length_cons] at hk; omega) (hHs listed k inv hr' hkn)
      (good_head hS hg (headStep_0 h1)) (logInv_step hlog h1) hB' h2 hL
theorem wpAny_of_am (hS : S.OK P) {R : Option Nat} {ls : List Nat} {ops : Array Oper} {sl : Nat → Nat} {n g : Nat} {L : Array Bool → St → Prop} {Q' : Exit → Act → World → Prop}
    (hL : ∀ listed st a w, L listed st → RelD ds B w0 ρ0 h0 st a w → wpAnyIn (fR R) 0 P .any ops Q' g listed a w) :
    ∀ (f : Nat) (listed : Array Bool) (x : St × Log) (a : Act) (w : World), amAny P S ls ops sl n L f listed x → RelD ds B w0 ρ0 h0 x.1 a w → wpAnyIn (fR R) 0 P .any ops Q' (f + g) listed a w
  | 0, listed, x, a, w, h, hR => by rw [Nat.zero_add]; exact hL _ _ _ _ h hR
  | f + 1, listed, x, a, w, h, hR => by
    rw [show f + 1 + g = (f + g) + 1 by omega]
    refine ⟨fun h0 => absurd h0 h.1, fun i hi => ?_⟩
    obtain ⟨_, o, x', ho, hs, h'⟩ := h.2 i hi
    have h1 : stepA P S ops (sl i) o x.1 = some x'.1 := by unfold stepA; rw [headStep_0 hs]
    have := step_in (R := R) (Q := Q') hS hR h1 (K := wpAnyIn (fR R) 0 P .any ops Q' (f + g) (listed.setIfInBounds i true)) (fun a' w' hR' => wpAny_of_am hS hL f _ x' a' w' h' hR')
    unfold wpOpIn
    simp only [ho]
    exact this
theorem wpAnyIn_of_seq {R : Option Nat} {ops : Array Oper} {Q' : Exit → Act → World → Prop} : ∀ (l : List Oper) (k : Nat) (listed : Array Bool) (a : Act) (w : World), (∀ j, l[j]? = ops[k + j]?) →
    Region.seqB .any ops l.length k listed = true → wpListIn (fR R) 0 P ops Q' l a w → wpAnyIn (fR R) 0 P .any ops Q' l.length listed a w
  | [], _, _, _, _, _, hB, h => ⟨by simpa [Region.seqB] using hB, h⟩
  | o :: l, k, listed, a, w, hl, hB, h => by
    have h0 : ops[k]? = some o := by simpa using (hl 0).symm
    simp only [List.length_cons, Region.seqB, Bool.and_eq_true, decide_eq_true_eq] at hB
    refine ⟨fun h1 => (by rw [hB.1] at h1; cases h1), fun i hi => ?_⟩
    rw [hB.1] at hi
    have hik : i = k := by simpa using hi
    subst hik
    have hw : wpOpIn (fR R) 0 P ops Q' i (wpListIn (fR R) 0 P ops Q' l) a w := by unfold wpOpIn; simp only [h0]; exact h
    exact wpOpIn_mono (fun a' w' h' => wpAnyIn_of_seq l (i + 1) _ a' w' (fun j => by have := hl (j + 1); simpa [Nat.add_assoc, Nat.add_comm 1 j] using this) hB.2 h') hw
end
end Go.Am
