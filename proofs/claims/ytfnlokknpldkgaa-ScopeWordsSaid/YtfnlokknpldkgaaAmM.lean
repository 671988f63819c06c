/- Code and functions. -/
import Derived.Test.YtfnlokknpldkgaaAmL
set_option linter.unusedVariables false
set_option linter.unusedSimpArgs false
namespace Go.Am
open Go Go.RowKit
section
variable (P : Program) (S : Specs)
def nAlloc (l : List Oper) : Nat := (l.filter (isAlloc P)).length
def withHoles (n : Nat) (st : St) : St := match n with
  | 0 => st
  | n + 1 => (st.1, st.2 ++ List.replicate (n + 1) .hole)
theorem withHoles_eq (n : Nat) (st : St) : withHoles n st = (st.1, st.2 ++ List.replicate n .hole) := by
  cases n with
  | zero => simp [withHoles]
  | succ n => rfl
/-- May it stand in a head? -/
def headable (o : Oper) : Bool :=
  match o.op with
  | .mapUpdate .. => false
  | .convert s d _ => s != d
  | .call { callee := .builtin .append, .. } | .call { callee := .builtin .copy, .. } | .call { callee := .builtin .delete, .. } => false
  | .call { callee := .value (.func g), .. } => (S.q g).isSome
  | .call { callee := .value _, .. } => false
  | _ => true
def headLen (l : List Oper) : Nat := (l.takeWhile (headable S)).length
/-- The first operation of a tail that is ordered behind all of the head. -/
def tailB (ops : Array Oper) (n : Nat) : Bool :=
  Region.noSelect ops && decide (n < ops.size) && Region.sinkB .any ops n && Region.chainB .any ops n && lexHeadB P (loosePart ops) ops (Region.seqB .any ops (ops.size - n) n) n 0 (Array.replicate ops.size false)
def allB (ops : Array Oper) : Bool :=
  Region.noSelect ops && lexHeadB P (loosePart ops) ops (fun listed => (Region.ready .any ops listed).isEmpty) ops.size 0 (Array.replicate ops.size false)
def evalRegion (ops : Array Oper) (draw : Bool) (st : St) : Option St :=
  let l := ops.toList
  let st1 := withHoles (nAlloc P l) st
  if draw then
    let n := headLen S l
    if n = l.length then
      if allB P ops then (evalHead P S (loosePart ops) ops (slotOf P l st.2.length) 0 l (st1, List.replicate ops.size none)).map (·.1) else none
    else if tailB P ops n then
      (evalHead P S (loosePart ops) ops (slotOf P l st.2.length) 0 (l.take n) (st1, List.replicate ops.size none)).bind fun x => evalOps P S ops (slotOf P l st.2.length n) (l.drop n) x.1
    else none
  else evalOps P S ops st.2.length l st1
inductive AExit where
  | normal
  | exit (id : Nat)
  | goto (l : Nat)
  | ret
def forget (l : List Nat) (st : St) : St := (l.foldl (fun env i => env.set i .any) st.1, st.2)
def ev (F : Nat → List Nat) : Nat → Code ⊕ (Code × Code) → St → Option (AExit × St)
  | 0, _, _ => none
  | n + 1, .inl c, st => match c with
    | .skip => some (.normal, st)
    | .label _ => some (.normal, st)
    | .region id ops draw => (evalRegion P S ops draw (forget (F id) st)).map (.normal, ·)
    | .seq a b => match ev F n (.inl a) st with
      | some (.normal, st') => ev F n (.inl b) st'
      | r => r
    | .cond c x y => match evalOperand st.1 c with
      | some (.bool b) => ev F n (.inl (if b then x else y)) st
      | _ => none
    | .block id body => match ev F n (.inl body) st with
      | some (.exit id', st') => if id' = id then some (.normal, st') else some (.exit id', st')
      | r => r
    | .loop body => match ev F n (.inl body) st with
      | some (.normal, st') => ev F n (.inl (.loop body)) st'
      | r => r
    | .exit id => some (.exit id, st)
    | .goto l => some (.goto l, st)
    | .scope body => ev F n (.inr (body, body)) st
    | .ret => some (.ret, st)
    | _ => none
  | n + 1, .inr (c, rest), st => match ev F n (.inl rest) st with
    | some (.goto l, st') => match findLabel c l with
      | some r' => ev F n (.inr (c, r')) st'
      | none => some (.goto l, st')
    | r => r
def resultA (st : St) : ResultVar → Option AV
  | .tmp t => evalOperand st.1 (.tmp t)
  | .cell a t => (evalOperand st.1 (.tmp a)).bind (loadA P st.2 t)
def resultsA (fn : Func) (st : St) : Option AV :=
  (fn.results.toList.mapM (resultA P st)).map fun vs => match vs with
    | [v] => v
    | vs => .tup vs
end
section
variable {P : Program} {S : Specs} {ds : List Deferred} {B : Fr} {w0 : World} {ρ0 : Rho} {h0 : AHeap}
theorem live_holes (h : AHeap) (n i : Nat) : live (h ++ List.replicate n .hole) i = live h i := by
  unfold live
  rcases Nat.lt_or_ge i h.length with q | q
  · rw [List.getElem?_append_left q]
  · rw [List.getElem?_append_right q, List.getElem?_eq_none q]
    rcases Nat.lt_or_ge (i - h.length) n with r | r
    · rw [List.getElem?_replicate, if_pos r]; rfl
    · rw [List.getElem?_replicate, if_neg (by omega)]
theorem rel_holes {st : St} {a : Act} {w : World} (n : Nat) (hR : RelD ds B w0 ρ0 h0 st a w) : RelD ds B w0 ρ0 h0 (withHoles n st) a w := by
  rw [withHoles_eq]
  obtain ⟨ρ, hI, hF, hok, hd, hb⟩ := hR
  have hl : live (st.2 ++ List.replicate n AObj.hole) = live st.2 := funext fun i => live_holes st.2 n i
  have get : ∀ (k : Nat) (o : AObj), (st.2 ++ List.replicate n AObj.hole)[k]? = some o → st.2[k]? = some o ∨ o = AObj.hole := fun k o ho => by
    rcases Nat.lt_or_ge k st.2.length with q | q
    · rw [List.getElem?_append_left q] at ho; exact .inl ho
    · rw [List.getElem?_append_right q] at ho
      exact .inr (List.eq_of_mem_replicate (List.mem_of_getElem? ho))
  refine ⟨ρ, ⟨hI.below, hI.size, fun k o ho => ?_, fun k k' o o' ho ho' h1 h2 => ?_, fun k k' o cs ho ho' h1 => ?_, fun k o ho => ?_⟩, hF, fun v hv => ?_, hd, fun i hi => ?_⟩
  · rcases get k o ho with h | rfl
    · exact hI.obj k o h
    · trivial
  · rcases get k o ho with h | rfl
    · rcases get k' o' ho' with h' | rfl
      · exact hI.sep k k' o o' h h' h1 h2
      · cases h2
    · cases h1
  · rcases get k o ho with h | rfl
    · rcases get k' _ ho' with h' | h'
      · exact hI.sepr k k' o cs h h' h1
      · cases h'
    · cases h1
  · rcases get k o ho with h | rfl
    · show o.refs (live (st.2 ++ List.replicate n AObj.hole)) _ = true
      rw [hl]; exact hI.wf k o h
    · rfl
  · show v.refs (live (st.2 ++ List.replicate n AObj.hole)) _ = true
    rw [hl]; exact hok v hv
  · show live (st.2 ++ List.replicate n AObj.hole) i = true ∧ _
    rw [hl]; exact hb i hi
theorem rel_drew {st : St} {a : Act} {w : World} (hR : RelD ds B w0 ρ0 h0 st a w) : RelD ds B w0 ρ0 h0 st a w.drew := by
  obtain ⟨ρ, hI, r⟩ := hR
  exact ⟨ρ, hI.drew, r⟩
theorem filter_take_lt {p : Oper → Bool} : ∀ (l : List Oper) (i j : Nat) (o : Oper), i < j → l[i]? = some o → p o = true → ((l.take i).filter p).length < ((l.take j).filter p).length
  | [], i, j, o, _, h, _ => by simp at h
  | x :: l, 0, 0, o, h, _, _ => by omega
  | x :: l, 0, j + 1, o, _, h, hp => by
    simp only [List.getElem?_cons_zero, Option.some.injEq] at h
    subst h
    simp [hp]
  | x :: l, i + 1, 0, o, h, _, _ => by omega
  | x :: l, i + 1, j + 1, o, hij, h, hp => by
    have ih := filter_take_lt l i j o (by omega) (by simpa using h) hp
    simp only [List.take_succ_cons, List.filter_cons]
    split <;> simp <;> omega
theorem slots_ne {ops : Array Oper} {s i j : Nat} {oi oj : Oper} (hi : ops[i]? = some oi) (hj : ops[j]? = some oj) (hne : j ≠ i) (ai : isAlloc P oi = true) (aj : isAlloc P oj = true) :
    slotOf P ops.toList s i ≠ slotOf P ops.toList s j := by
  unfold slotOf
  rcases Nat.lt_or_ge i j with q | q
  · have := filter_take_lt (p := isAlloc P) ops.toList i j oi q (by simpa using hi) ai; omega
  · have := filter_take_lt (p := isAlloc P) ops.toList j i oj (by omega) (by simpa using hj) aj; omega
/-- **A region.** -/
theorem region_soundD (hm : P.follows .mixedOrders = true) (hS : S.OK P) {R : Option Nat} {id : Nat} {ops : Array Oper} {draw : Bool} {st st' : St} {a : Act} {w : World} {Q : Exit → Act → World → Prop} (he : evalRegion P S ops draw st = some st')
    (hR : RelD ds B w0 ρ0 h0 st a w) (hQ : ∀ a' w', RelD ds B w0 ρ0 h0 st' a' w' → Q .normal a' w') : (Code.region id ops draw).wpIn (fR R) 0 P Q a w := by
  unfold evalRegion at he
  simp only at he
  cases draw with
  | false =>
    simp only [Bool.false_eq_true, if_false] at he
    exact wpIn_region_list (evalOps_sound hS _ _ _ _ _ _ he (rel_holes _ hR) hQ)
  | true =>
    simp only [if_true] at he
    have hR1 := rel_drew (rel_holes (nAlloc P ops.toList) hR)
    have hg := good_of_rel hR1
    have hlog0 : LogInv ops (Array.replicate ops.size false) (List.replicate ops.size none) := ⟨by simp, fun i hi _ => by simp [hi]⟩
    split at he
    · rename_i hn
      split at he
      · rename_i hB
        simp only [allB, Bool.and_eq_true] at hB
        refine wpIn_region_any hm ?_
        simp only [Option.map_eq_some_iff] at he
        obtain ⟨x', he, hx'⟩ := he
        have h1 := amAny_lex (P := P) (S := S) (ls := loosePart ops) (n := ops.size) (E := fun listed => (Region.ready .any ops listed).isEmpty) (L := fun st'' => st'' = st') hS (fun i j oi oj hi hj hne ai aj => slots_ne (s := st.2.length) hi hj hne ai aj) (fun _ => True)
          (fun i listed _ _ _ j hj => by
            obtain ⟨_, o, ho, _⟩ := mem_ready.1 hj
            rcases Nat.lt_or_ge j ops.size with q | q
            · exact q
            · simp [Array.getElem?_eq_none q] at ho) (fun _ _ _ _ _ => trivial)
          (fun listed hL j hj => by
            have : Region.ready .any ops listed = [] := by simpa using hL
            rw [this] at hj; cases hj) ops.toList 0 (Array.replicate ops.size false) (_, List.replicate ops.size none) x' (fun j _ => by simp) (by simp) trivial hg hlog0 (by simpa using hB.2) he hx'
        have h2 := wpAny_of_am (R := R) (Q' := Q) (g := 0) hS (fun listed st'' a' w' hL hR' => by
          obtain ⟨hL1, rfl⟩ := hL
          exact ⟨by simpa using hL1, hQ a' w' hR'⟩) _ _ _ a _ h1 hR1
        simpa using h2
      · cases he
    · split at he
      · rename_i hB
        obtain ⟨n, hnd⟩ : ∃ n, n = headLen S ops.toList := ⟨_, rfl⟩
        rw [← hnd] at he hB
        simp only [tailB, Bool.and_eq_true, decide_eq_true_eq] at hB
        obtain ⟨⟨⟨⟨hsel, hn⟩, hs⟩, hc⟩, hlex⟩ := hB
        simp only [Option.bind_eq_some_iff] at he
        obtain ⟨st2, h2, h3⟩ := he
        have htl : (ops.toList.take n).length = n := by simp; omega
        have hdl : (ops.toList.drop n).length = ops.size - n := by simp
        have inv0 : HeadInv .any ops n (Array.replicate ops.size false) :=
          ⟨by simp, fun j oj _ hl => (by rw [getD_replicate_false] at hl; cases hl), fun t _ ht => getD_in (by simpa using ht) (getD_replicate_false _ _)⟩
        refine wpIn_region_any hm ?_
        have h1 := amAny_lex (P := P) (S := S) (ls := loosePart ops) (n := n) (L := fun st'' => st'' = st2.1) hS (fun i j oi oj hi hj hne ai aj => slots_ne (s := st.2.length) hi hj hne ai aj) (fun listed => HeadInv .any ops n listed)
          (fun i listed hin inv hun j hj => by
            rcases Nat.lt_or_ge j n with q | q
            · exact q
            · exact absurd hj (tail_waits hs hc hn inv _ i rfl hin hun j q)) (fun listed j inv hj hjn => inv.set hj hjn)
          (fun listed hL j hj => seqB_ready hL j hj) (ops.toList.take n) 0 (Array.replicate ops.size false) (_, List.replicate ops.size none) st2 (fun j hj => by
            have hj' : j < n := by rw [htl] at hj; exact hj
            simp [hj']) (by simpa using htl) inv0 hg hlog0 (by rw [htl]; exact hlex) h2 rfl
        have h4 := wpAny_of_am (R := R) (Q' := Q) (g := ops.size - n) hS (fun listed st'' a' w' hL hR' => by
          obtain ⟨hL1, rfl⟩ := hL
          have := wpAnyIn_of_seq (P := P) (R := R) (Q' := Q) (ops.toList.drop n) n listed a' w' (fun j => by simp [List.getElem?_drop]) (by rw [hdl]; exact hL1) (evalOps_sound hS _ _ _ _ _ _ h3 hR' hQ)
          rwa [hdl] at this) _ _ _ a _ h1 hR1
        rw [htl, show n + (ops.size - n) = ops.size by omega] at h4
        exact h4
      · cases he
/-- The marks that a run has laid: blocks of their own, kept with the rest. -/
structure Ext (B : Fr) (w0 : World) (ds : List Deferred) (B' : Fr) (w1 : World) : Prop where
  kept : Kept B w0 w1
  sub : ∀ k, B k → B' k
  marks : ∀ d ∈ ds, ∃ D, d = { target := .collected D, args := #[] } ∧ B' D ∧ ¬ B D ∧ w1.heap[D]? = some (.deferred (some []))
  nodup : ds.Nodup
theorem Ext.refl (B : Fr) (w0 : World) : Ext B w0 [] B w0 := ⟨Kept.refl _ _, fun _ h => h, fun d hd => by (cases hd), List.nodup_nil⟩
theorem inv_ext {ρ : Rho} {h : AHeap} {w w1 : World} {ds : List Deferred} {B' : Fr} (hx : Ext B w0 ds B' w1) (hI : Inv ρ B' w1 h w) : Inv ρ B w0 h w := by
  refine ⟨hx.kept.trans (hI.below.mono hx.sub), fun k hk => hI.size k (hx.sub k hk), fun k o ho => ?_, hI.sep, hI.sepr, hI.wf⟩
  have := hI.obj k o ho
  cases o with
  | hole => trivial
  | dead => trivial
  | ro cs => exact this
  | row t sz cs => exact ⟨fun h => this.1 (hx.sub _ h), this.2⟩
  | map es => exact ⟨fun h => this.1 (hx.sub _ h), this.2⟩
/-- What holds between an abstract state and a real one, marks among the deferred calls. -/
def Rel (B : Fr) (w0 : World) (ρ0 : Rho) (h0 : AHeap) (st : St) (a : Act) (w : World) : Prop :=
  ∃ (B' : Fr) (w1 : World) (ds : List Deferred), Ext B w0 ds B' w1 ∧ RelD ds B' w1 ρ0 h0 st a w
theorem Rel.of_D {st : St} {a : Act} {w : World} (h : RelD [] B w0 ρ0 h0 st a w) : Rel B w0 ρ0 h0 st a w := ⟨B, w0, [], Ext.refl _ _, h⟩
theorem Rel.lift {st st' : St} {a a' : Act} {w w' : World} (f : ∀ {ds : List Deferred} {B : Fr} {w0 : World}, RelD ds B w0 ρ0 h0 st a w → RelD ds B w0 ρ0 h0 st' a' w') (h : Rel B w0 ρ0 h0 st a w) : Rel B w0 ρ0 h0 st' a' w' := by
  obtain ⟨B', w1, ds, hx, h⟩ := h
  exact ⟨B', w1, ds, hx, f h⟩
theorem region_sound (hm : P.follows .mixedOrders = true) (hS : S.OK P) {R : Option Nat} {id : Nat} {ops : Array Oper} {draw : Bool} {st st' : St} {a : Act} {w : World} {Q : Exit → Act → World → Prop} (he : evalRegion P S ops draw st = some st')
    (hR : Rel B w0 ρ0 h0 st a w) (hQ : ∀ a' w', Rel B w0 ρ0 h0 st' a' w' → Q .normal a' w') : (Code.region id ops draw).wpIn (fR R) 0 P Q a w := by
  obtain ⟨B', w1, ds, hx, hR⟩ := hR
  exact region_soundD hm hS he hR fun a' w' h => hQ a' w' ⟨B', w1, ds, hx, h⟩
def AExit.real : AExit → Exit
  | .normal => .normal
  | .exit id => .exit id
  | .goto l => .goto l
  | .ret => .ret
theorem rel_forgetD {st : St} {a : Act} {w : World} (l : List Nat) (hR : RelD ds B w0 ρ0 h0 st a w) : RelD ds B w0 ρ0 h0 (forget l st) a w := by
  obtain ⟨ρ, hI, hF, hok, hd, hb⟩ := hR
  have key : ∀ (l : List Nat) (env : List AV), FrameRel ρ env a.tmps → (∀ v ∈ env, AV.ok st.2 ρ v) → FrameRel ρ (l.foldl (fun env i => env.set i .any) env) a.tmps ∧ ∀ v ∈ l.foldl (fun env i => env.set i .any) env, AV.ok st.2 ρ v := by
    intro l
    induction l with
    | nil => intro env h1 h2; exact ⟨h1, h2⟩
    | cons i l ih =>
      intro env h1 h2
      refine ih _ ⟨by simp [h1.1], fun j v hj hv => ?_⟩ (fun v hv => ?_)
      · have hj : (env.set i AV.any)[j]? = some v := hj
        by_cases hij : i = j
        · subst hij
          rcases Nat.lt_or_ge i env.length with q | q
          · rw [List.getElem?_set_self q] at hj; cases hj; exact absurd rfl hv
          · rw [List.set_eq_of_length_le q] at hj; exact h1.2 i v hj hv
        · rw [List.getElem?_set_ne hij] at hj; exact h1.2 j v hj hv
      · rcases List.mem_or_eq_of_mem_set hv with hv | rfl
        · exact h2 v hv
        · rfl
  obtain ⟨h1, h2⟩ := key l st.1 hF hok
  exact ⟨ρ, hI, h1, h2, hd, hb⟩
theorem stepR_scope {b : Frame} {a : Act} {k : List Item} {cs : List Frame} {w : World} {c : Code} : step P (lone (b.atR a (.code (.scope c) :: k)) cs w) = .next (lone (b.atR a (.code c :: .inScope c :: k)) cs w) :=
  step_lone_go (by simp [stepG, stepG.exec, Frame.atR])
theorem stepR_inScope {b : Frame} {a : Act} {k : List Item} {cs : List Frame} {w : World} {c : Code} : step P (lone (b.atR a (.inScope c :: k)) cs w) = .next (lone (b.atR a k) cs w) :=
  step_lone_go (by simp [stepG, stepG.exec, Frame.atR])
/-- What a piece of code comes to. -/
def CodeSound (P : Program) (B : Fr) (w0 : World) (ρ0 : Rho) (h0 : AHeap) (x : Code ⊕ (Code × Code)) (st : St) (e : AExit) (st' : St) : Prop :=
  match x with
  | .inl c => ∀ R a w, Rel B w0 ρ0 h0 st a w → c.wpIn (fR R) 0 P (fun ex a' w' => ex = e.real ∧ Rel B w0 ρ0 h0 st' a' w') a w
  | .inr (c, rest) => ∀ R a w, Rel B w0 ρ0 h0 st a w → ∀ b k cs, b.roundOf = R → ∃ a' w', Rel B w0 ρ0 h0 st' a' w' ∧
      ArrivesIn (Machine.fenced P (fR R)) P (lone (b.atR a (.code rest :: .inScope c :: k)) cs w) b k cs e.real a' w'
end
end Go.Am
