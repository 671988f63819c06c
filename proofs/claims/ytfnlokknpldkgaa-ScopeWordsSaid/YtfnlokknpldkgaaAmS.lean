/- The resolved code: its runs are runs of the code. -/
import Derived.Test.YtfnlokknpldkgaaAmR
set_option linter.unusedVariables false
set_option linter.unusedSimpArgs false
namespace Go.Am
open Go Go.RowKit
inductive PC where
  | skip
  | label (l : Nat)
  | ops (id na : Nat) (l : List PO)
  | ops2 (id na : Nat) (ls : List Nat) (l r : List PO)
  | seq (a b : PC)
  | cond (c : Operand) (a b : PC)
  | block (id : Nat) (a : PC)
  | loop (a : PC)
  | exit (id : Nat)
  | goto (l : Nat)
  | scope (a : PC)
  | ret
  /-- what may be done early first, then the others: number, slot, operation; those that wait for which -/
  | ops3 (id na : Nat) (hd : List (Nat × Nat × PO)) (tl : List (Nat × Nat × PO × List Nat)) (us : List FuncId)
  | rf (g : Operand) (ps : List Tmp) (as body : PC)
section
variable (P : Program) (S : Specs)
def poOf (ops : Array Oper) (o : Oper) : Option PO :=
  (resolve P o).map fun ri => ⟨o.dst, ri, o.guard.map fun g => ((ops[g.1]?).bind (·.dst), g.2)⟩
def wantedR (env : List AV) (po : PO) : Option Bool :=
  match po.guard with
  | none => some true
  | some (none, _) => some false
  | some (some d, want) => match env[d]? with
    | some (.bool b) => some (b == want)
    | some .any => none
    | some _ => some false
    | none => some false
def callR (h : AHeap) (E : Operand → Option AV) (ri : RI) : Option (AV × AHeap) :=
  (calleeR E ri).bind fun c => match S.q c.1 with
    | some sp => (sp c.2 h).map (·, h)
    | none => (S.f c.1).bind fun sp => sp c.2 h
def stepR (s : Nat) (po : PO) (st : St) : Option St :=
  match wantedR st.1 po with
  | none => none
  | some false => some (put po.dst .und st.1, st.2)
  | some true =>
    if po.ri.isPure then (pureR P st.2 (evalOperand st.1) po.ri).map fun v => (put po.dst v st.1, st.2)
    else if po.ri.isAlloc then
      if isHole st.2 s then
        match allocR (evalOperand st.1) s po.ri with
        | some r => some (put po.dst r.1 st.1, st.2.set s r.2)
        | none => (effR P st.2 (evalOperand st.1) s po.ri).map fun r => (put po.dst (r.1.getD .any) st.1, r.2)
      else none
    else match callR S st.2 (evalOperand st.1) po.ri with
      | some r => some (put po.dst r.1 st.1, r.2)
      | none => (effR P st.2 (evalOperand st.1) s po.ri).map fun r => (put po.dst (r.1.getD .any) st.1, r.2)
def evalOpsR : Nat → List PO → St → Option St
  | _, [], st => some st
  | s, po :: rest, st => (stepR P S s po st).bind (evalOpsR (if po.ri.isAlloc then s + 1 else s) rest)
/-- The cells that a store is to write, or a load to look at where that matters. -/
def rangeR (lo : Bool) (env : List AV) (po : PO) : Option (Bool × Nat × Nat × Nat) := match po.ri with
  | .store s a _ => match wantedR env po with
    | some true => match evalOperand env a with
      | some (.ptr (some (k, q))) => some (true, k, q, s)
      | _ => none
    | _ => none
  | .load sz a => if lo then match wantedR env po with
    | some true => match evalOperand env a with
      | some (.ptr (some (k, q))) => some (false, k, q, sz.getD 1)
      | _ => none
    | _ => none else none
  | _ => none
/-- A head with its log. -/
def evalHeadR (ls : List Nat) : Nat → Nat → List PO → St × Log → Option (St × Log)
  | _, _, [], x => some x
  | k, s, po :: rest, x => match rangeR (ls.contains k) x.1.1 po with
    | some q => if logOk x.2 q then (stepR P S s po x.1).bind fun st => evalHeadR ls (k + 1) (if po.ri.isAlloc then s + 1 else s) rest (st, x.2.set k (some q)) else none
    | none => (stepR P S s po x.1).bind fun st => evalHeadR ls (k + 1) (if po.ri.isAlloc then s + 1 else s) rest (st, x.2)
def RI.isLoad : RI → Bool
  | .load .. => true
  | _ => false
def RI.isStore : RI → Bool
  | .store .. => true
  | _ => false
def headableQ (Q : FuncId → Bool) (o : Oper) : Bool :=
  match o.op with
  | .mapUpdate .. => false
  | .convert s d _ => s != d
  | .call { callee := .builtin .append, .. } | .call { callee := .builtin .copy, .. } | .call { callee := .builtin .delete, .. } => false
  | .call { callee := .value (.func g), .. } => Q g
  | .call { callee := .value _, .. } => false
  | _ => true
def storesOf (l : List Oper) : Nat := (l.filter isStore).length
def drawOk (Q : FuncId → Bool) (ops : Array Oper) : Bool :=
  let n := (ops.toList.takeWhile (headableQ Q)).length
  if n = ops.toList.length then allB P ops else tailB P ops n
def isConv (o : Oper) : Bool := match o.op with
  | .convert .. => true
  | _ => false
/-- The operations that may be done early. -/
def earlyAt (ops : Array Oper) (j : Nat) : Bool := match ops[j]? with
  | some o => freeOp P o && !isConv o
  | none => false
def mixT (ops : Array Oper) : List Nat := (List.range ops.size).foldl (fun T j => if !earlyAt P ops j || (match ops[j]? with
  | some o => o.after.any fun e => Region.binds .any e && T.contains e.on
  | none => true) then T ++ [j] else T) []
def mixH (ops : Array Oper) : List Nat := (List.range ops.size).filter fun j => !(mixT P ops).contains j
/-- It looks at no memory and makes none. -/
def flatAt (ops : Array Oper) (j : Nat) : Bool := earlyAt P ops j && (match ops[j]? with
  | some o => !isLoad o && !isAlloc P o
  | none => false)
/-- Those that keep their order. -/
def mixB (ops : Array Oper) : List Nat := (mixT P ops).filter fun j => !flatAt P ops j
def isMix (Q : FuncId → Bool) (ops : Array Oper) (draw : Bool) : Bool := draw && !drawOk P Q ops && (mixH P ops).all (earlyAt P ops) && decide ((mixH P ops).length + (mixT P ops).length = ops.size) && lexMixB P (mixH P ops) (mixB P ops) ops (mixH P ops ++ mixT P ops) (Array.replicate ops.size false)
def mixHd (ops : Array Oper) (l : List PO) : List (Nat × Nat × PO) := (mixH P ops).filterMap fun i => (l[i]?).map fun po => (i, slotOf P ops.toList 0 i, po)
def mixTl (ops : Array Oper) (l : List PO) : List (Nat × Nat × PO × List Nat) := (mixT P ops).filterMap fun i => (l[i]?).map fun po => (i, slotOf P ops.toList 0 i, po, (mixH P ops).filter fun k => waits ops k i)
def comp (Q : FuncId → Bool) : Code → Option PC
  | .skip => some .skip
  | .label l => some (.label l)
  | .region id ops draw =>
    if isMix P Q ops draw then (ops.toList.mapM (poOf P ops)).map fun l => .ops3 id (nAlloc P ops.toList) (mixHd P ops l) (mixTl P ops l) (uniOf P ops (mixH P ops) (mixB P ops)) else
    if draw && (decide (1 < storesOf (ops.toList.takeWhile (headableQ Q))) || !(loosePart ops).isEmpty) then
      if drawOk P Q ops then (ops.toList.mapM (poOf P ops)).map fun l => .ops2 id (nAlloc P ops.toList) (loosePart ops) (l.take (ops.toList.takeWhile (headableQ Q)).length) (l.drop (ops.toList.takeWhile (headableQ Q)).length) else none
    else if !draw || drawOk P Q ops then (ops.toList.mapM (poOf P ops)).map fun l => .ops id (nAlloc P ops.toList) l else none
  | .seq a b => (comp Q a).bind fun a => (comp Q b).map fun b => .seq a b
  | .cond c a b => (comp Q a).bind fun a => (comp Q b).map fun b => .cond c a b
  | .block id a => (comp Q a).map fun a => .block id a
  | .loop a => (comp Q a).map fun a => .loop a
  | .exit id => some (.exit id)
  | .goto l => some (.goto l)
  | .scope a => (comp Q a).map fun a => .scope a
  | .ret => some .ret
  | .rangeFunc f ps as body => (comp Q as).bind fun a => (comp Q body).map fun b => .rf f ps.toList a b
  | _ => none
def findP : PC → Nat → Option PC
  | .seq a b, l => match findP a l with
    | some rest => some (.seq rest b)
    | none => findP b l
  | .label l', l => if l' == l then some .skip else none
  | _, _ => none
end
section
variable {P : Program} {S : Specs} {Q : FuncId → Bool}
theorem wanted_resolved {ops : Array Oper} {o : Oper} {po : PO} (h : poOf P ops o = some po) (env : List AV) : wantedA ops env o = wantedR env po := by
  simp only [poOf, Option.map_eq_some_iff] at h
  obtain ⟨ri, hr, rfl⟩ := h
  unfold wantedA wantedR
  cases hg : o.guard with
  | none => rfl
  | some g =>
    obtain ⟨j, want⟩ := g
    simp only [Option.map_some]
    cases hd : (ops[j]?).bind (·.dst) <;> rfl
theorem callee_resolved {o : Oper} {ri : RI} (hr : resolve P o = some ri) {E : Operand → Option AV} {c : FuncId × List AV} (hc : calleeR E ri = some c) :
    calleeA E o = some c ∧ ∃ f args tys, o.op = .call { callee := .value f, args := args, argTypes := tys } ∧ ri = .call f args.toList := by
  unfold calleeR at hc
  split at hc
  · rename_i f args
    have hop : ∃ as tys, o.op = .call { callee := .value f, args := as, argTypes := tys } ∧ as.toList = args := by
      unfold resolve at hr
      cases hop : o.op <;> simp only [hop, reduceCtorEq] at hr <;> try (simp at hr; done)
      case call c' =>
        obtain ⟨callee, as, tys⟩ := c'
        cases callee with
        | value f' => simp only [Option.some.injEq, RI.call.injEq] at hr; obtain ⟨rfl, rfl⟩ := hr; exact ⟨as, tys, rfl, rfl⟩
        | invoke r m => simp at hr
        | builtin b =>
          cases b <;> try (simp only [reduceCtorEq] at hr)
          case len => split at hr <;> (try split at hr) <;> simp at hr
          case max => simp at hr
          case min => simp at hr
          case append =>
            split at hr
            · split at hr
              · simp only [Option.bind_eq_some_iff] at hr
                obtain ⟨_, _, _, _, _, _, hr⟩ := hr
                split at hr <;> cases hr
              · cases hr
            · cases hr
          case copy =>
            split at hr
            · split at hr
              · simp only [Option.map_eq_some_iff] at hr
                obtain ⟨_, _, hr⟩ := hr; cases hr
              · cases hr
            · cases hr
          case delete =>
            split at hr
            · split at hr <;> cases hr
            · cases hr
      case build t ps => split at hr <;> (try split at hr) <;> simp at hr
      case binOp op t x y yt => split at hr <;> cases hr
      case convert sT dT x => split at hr <;> (try split at hr) <;> (try split at hr) <;> simp at hr
      case sliceToArrayPointer t x => split at hr <;> simp at hr
      case slice t x lo hi mx => cases mx <;> simp only [reduceCtorEq] at hr; split at hr <;> simp at hr
      case fieldAddr sT x f =>
        simp only [Option.bind_eq_some_iff] at hr
        obtain ⟨fd, _, hr⟩ := hr
        split at hr <;> cases hr
      case field t x f => simp only [Option.bind_eq_some_iff, Option.map_eq_some_iff] at hr; obtain ⟨_, _, _, _, hr⟩ := hr; cases hr
      case indexAddr t x i => split at hr <;> simp at hr
      case index t x i =>
        split at hr
        · simp only [Option.bind_eq_some_iff, Option.map_eq_some_iff] at hr; obtain ⟨_, _, _, _, hr⟩ := hr; cases hr
        · cases hr
        · cases hr
      case makeInterface t x => split at hr <;> cases hr
      case makeFunc f a c => cases f <;> simp at hr
      case buildSlice t n ps =>
        split at hr
        · simp only [Option.bind_eq_some_iff] at hr
          obtain ⟨_, _, _, _, hr⟩ := hr
          split at hr <;> cases hr
        · cases hr
      case makeSlice t l c =>
        split at hr
        · simp only [Option.bind_eq_some_iff] at hr
          obtain ⟨_, _, _, _, _, _, hr⟩ := hr
          split at hr <;> cases hr
        · cases hr
      case makeMap t r => cases r <;> simp at hr
      case mapUpdate t m k x => split at hr <;> cases hr
    obtain ⟨as, tys, h1, h2⟩ := hop
    refine ⟨?_, f, as, tys, h1, by rw [h2]⟩
    unfold calleeA
    rw [h1]
    simp only [h2]
    exact hc
  · cases hc
theorem alloc_flag {o : Oper} {ri : RI} (hr : resolve P o = some ri) : isAlloc P o = ri.isAlloc := by
  unfold resolve at hr
  unfold isAlloc
  cases hop : o.op <;> simp only [hop, reduceCtorEq] at hr ⊢
  case move x => cases hr; rfl
  case assign x => cases hr; rfl
  case pick c a b => cases hr; rfl
  case build t ps => split at hr <;> (try split at hr) <;> simp at hr; obtain ⟨_, _, rfl⟩ := hr; rfl
  case load t a => simp only [Option.map_eq_some_iff] at hr; obtain ⟨_, _, rfl⟩ := hr; rfl
  case nilCheck x => cases hr; rfl
  case binOp op t x y yt => split at hr <;> cases hr <;> rfl
  case unOp op t x => cases hr; rfl
  case convert s d x =>
    split at hr
    · rename_i hs hd; cases hr; simp [hs, hd, RI.isAlloc]
    · rename_i hs hd; cases hr; simp [hs, hd, RI.isAlloc]
    · rename_i e hs hd; split at hr <;> cases hr; simp [hs, hd, RI.isAlloc]
    · rename_i e hs hd; split at hr <;> cases hr; simp [hs, hd, RI.isAlloc]
    · rename_i e0 e hs hd; split at hr <;> (try split at hr) <;> cases hr; simp [hs, hd, RI.isAlloc]
    · cases hr
  case sliceToArrayPointer t x => split at hr <;> cases hr; rfl
  case slice t x lo hi mx =>
    cases mx <;> simp only [reduceCtorEq] at hr
    split at hr <;> simp at hr
    · subst hr; rfl
    · obtain ⟨_, _, rfl⟩ := hr; rfl
    · obtain ⟨_, _, rfl⟩ := hr; rfl
  case fieldAddr s x f =>
    simp only [Option.bind_eq_some_iff] at hr
    obtain ⟨fd, _, hr⟩ := hr
    split at hr <;> cases hr; rfl
  case field t x f => simp only [Option.bind_eq_some_iff, Option.map_eq_some_iff] at hr; obtain ⟨_, _, _, _, rfl⟩ := hr; rfl
  case indexAddr t x i => split at hr <;> simp at hr <;> (obtain ⟨_, _, rfl⟩ := hr; rfl)
  case index t x i =>
    split at hr
    · simp only [Option.bind_eq_some_iff, Option.map_eq_some_iff] at hr
      obtain ⟨_, _, _, _, rfl⟩ := hr; rfl
    · cases hr; rfl
    · cases hr
  case lookup t x i ok => cases hr; rfl
  case extract x i => cases hr; rfl
  case makeInterface t x => split at hr <;> cases hr; rfl
  case makeFunc f a c => cases f <;> simp only [reduceCtorEq, Option.some.injEq] at hr; subst hr; rfl
  case alloc t => simp only [Option.map_eq_some_iff] at hr; obtain ⟨_, _, rfl⟩ := hr; rfl
  case box t x => cases hr; rfl
  case buildSlice t n ps =>
    split at hr
    · simp only [Option.bind_eq_some_iff] at hr
      obtain ⟨_, _, _, _, hr⟩ := hr
      split at hr <;> cases hr; rfl
    · cases hr
  case makeSlice t l c =>
    split at hr
    · simp only [Option.bind_eq_some_iff] at hr
      obtain ⟨_, _, _, _, _, _, hr⟩ := hr
      split at hr <;> cases hr; rfl
    · cases hr
  case makeMap t r => cases r <;> simp only [reduceCtorEq, Option.some.injEq] at hr; subst hr; rfl
  case store t a x => simp only [Option.map_eq_some_iff] at hr; obtain ⟨_, _, rfl⟩ := hr; rfl
  case mapUpdate t m k x => split at hr <;> cases hr; rfl
  case call c =>
    obtain ⟨callee, args, tys⟩ := c
    cases callee with
    | value f => simp only [Option.some.injEq] at hr; subst hr; rfl
    | invoke r m => simp at hr
    | builtin b =>
      cases b <;> try (simp only [reduceCtorEq] at hr)
      case len => split at hr <;> (try split at hr) <;> cases hr <;> rfl
      case max => cases hr; rfl
      case min => cases hr; rfl
      case append =>
        split at hr
        · split at hr
          · simp only [Option.bind_eq_some_iff] at hr
            obtain ⟨_, _, _, _, _, _, hr⟩ := hr
            split at hr <;> cases hr; rfl
          · cases hr
        · cases hr
      case copy =>
        split at hr
        · split at hr
          · simp only [Option.map_eq_some_iff] at hr
            obtain ⟨_, _, rfl⟩ := hr; rfl
          · cases hr
        · cases hr
      case delete =>
        split at hr
        · split at hr
          · cases hr; rfl
          · cases hr
        · cases hr
theorem store_flag {o : Oper} {ri : RI} (hr : resolve P o = some ri) : isStore o = ri.isStore := by
  unfold resolve at hr
  unfold isStore
  cases hop : o.op <;> simp only [hop, reduceCtorEq] at hr ⊢
  case move x => cases hr; rfl
  case assign x => cases hr; rfl
  case pick c a b => cases hr; rfl
  case build t ps => split at hr <;> (try split at hr) <;> simp at hr; obtain ⟨_, _, rfl⟩ := hr; rfl
  case load t a => simp only [Option.map_eq_some_iff] at hr; obtain ⟨_, _, rfl⟩ := hr; rfl
  case nilCheck x => cases hr; rfl
  case binOp op t x y yt => split at hr <;> cases hr <;> rfl
  case unOp op t x => cases hr; rfl
  case convert s d x =>
    split at hr
    · rename_i hs hd; cases hr; simp [hs, hd, RI.isStore]
    · rename_i hs hd; cases hr; simp [hs, hd, RI.isStore]
    · rename_i e hs hd; split at hr <;> cases hr; simp [hs, hd, RI.isStore]
    · rename_i e hs hd; split at hr <;> cases hr; simp [hs, hd, RI.isStore]
    · rename_i e0 e hs hd; split at hr <;> (try split at hr) <;> cases hr; simp [hs, hd, RI.isStore]
    · cases hr
  case sliceToArrayPointer t x => split at hr <;> cases hr; rfl
  case slice t x lo hi mx =>
    cases mx <;> simp only [reduceCtorEq] at hr
    split at hr <;> simp at hr
    · subst hr; rfl
    · obtain ⟨_, _, rfl⟩ := hr; rfl
    · obtain ⟨_, _, rfl⟩ := hr; rfl
  case fieldAddr s x f =>
    simp only [Option.bind_eq_some_iff] at hr
    obtain ⟨fd, _, hr⟩ := hr
    split at hr <;> cases hr; rfl
  case field t x f => simp only [Option.bind_eq_some_iff, Option.map_eq_some_iff] at hr; obtain ⟨_, _, _, _, rfl⟩ := hr; rfl
  case indexAddr t x i => split at hr <;> simp at hr <;> (obtain ⟨_, _, rfl⟩ := hr; rfl)
  case index t x i =>
    split at hr
    · simp only [Option.bind_eq_some_iff, Option.map_eq_some_iff] at hr
      obtain ⟨_, _, _, _, rfl⟩ := hr; rfl
    · cases hr; rfl
    · cases hr
  case lookup t x i ok => cases hr; rfl
  case extract x i => cases hr; rfl
  case makeInterface t x => split at hr <;> cases hr; rfl
  case makeFunc f a c => cases f <;> simp only [reduceCtorEq, Option.some.injEq] at hr; subst hr; rfl
  case alloc t => simp only [Option.map_eq_some_iff] at hr; obtain ⟨_, _, rfl⟩ := hr; rfl
  case box t x => cases hr; rfl
  case buildSlice t n ps =>
    split at hr
    · simp only [Option.bind_eq_some_iff] at hr
      obtain ⟨_, _, _, _, hr⟩ := hr
      split at hr <;> cases hr; rfl
    · cases hr
  case makeSlice t l c =>
    split at hr
    · simp only [Option.bind_eq_some_iff] at hr
      obtain ⟨_, _, _, _, _, _, hr⟩ := hr
      split at hr <;> cases hr; rfl
    · cases hr
  case makeMap t r => cases r <;> simp only [reduceCtorEq, Option.some.injEq] at hr; subst hr; rfl
  case store t a x => simp only [Option.map_eq_some_iff] at hr; obtain ⟨_, _, rfl⟩ := hr; rfl
  case mapUpdate t m k x => split at hr <;> cases hr; rfl
  case call c =>
    obtain ⟨callee, args, tys⟩ := c
    cases callee with
    | value f => simp only [Option.some.injEq] at hr; subst hr; rfl
    | invoke r m => simp at hr
    | builtin b =>
      cases b <;> try (simp only [reduceCtorEq] at hr)
      case len => split at hr <;> (try split at hr) <;> cases hr <;> rfl
      case max => cases hr; rfl
      case min => cases hr; rfl
      case append =>
        split at hr
        · split at hr
          · simp only [Option.bind_eq_some_iff] at hr
            obtain ⟨_, _, _, _, _, _, hr⟩ := hr
            split at hr <;> cases hr; rfl
          · cases hr
        · cases hr
      case copy =>
        split at hr
        · split at hr
          · simp only [Option.map_eq_some_iff] at hr
            obtain ⟨_, _, rfl⟩ := hr; rfl
          · cases hr
        · cases hr
      case delete =>
        split at hr
        · split at hr
          · cases hr; rfl
          · cases hr
        · cases hr
theorem load_flag {o : Oper} {ri : RI} (hr : resolve P o = some ri) : isLoad o = ri.isLoad := by
  unfold resolve at hr
  unfold isLoad
  cases hop : o.op <;> simp only [hop, reduceCtorEq] at hr ⊢
  case move x => cases hr; rfl
  case assign x => cases hr; rfl
  case pick c a b => cases hr; rfl
  case build t ps => split at hr <;> (try split at hr) <;> simp at hr; obtain ⟨_, _, rfl⟩ := hr; rfl
  case load t a => simp only [Option.map_eq_some_iff] at hr; obtain ⟨_, _, rfl⟩ := hr; rfl
  case nilCheck x => cases hr; rfl
  case binOp op t x y yt => split at hr <;> cases hr <;> rfl
  case unOp op t x => cases hr; rfl
  case convert s d x =>
    split at hr
    · rename_i hs hd; cases hr; simp [hs, hd, RI.isLoad]
    · rename_i hs hd; cases hr; simp [hs, hd, RI.isLoad]
    · rename_i e hs hd; split at hr <;> cases hr; simp [hs, hd, RI.isLoad]
    · rename_i e hs hd; split at hr <;> cases hr; simp [hs, hd, RI.isLoad]
    · rename_i e0 e hs hd; split at hr <;> (try split at hr) <;> cases hr; simp [hs, hd, RI.isLoad]
    · cases hr
  case sliceToArrayPointer t x => split at hr <;> cases hr; rfl
  case slice t x lo hi mx =>
    cases mx <;> simp only [reduceCtorEq] at hr
    split at hr <;> simp at hr
    · subst hr; rfl
    · obtain ⟨_, _, rfl⟩ := hr; rfl
    · obtain ⟨_, _, rfl⟩ := hr; rfl
  case fieldAddr s x f =>
    simp only [Option.bind_eq_some_iff] at hr
    obtain ⟨fd, _, hr⟩ := hr
    split at hr <;> cases hr; rfl
  case field t x f => simp only [Option.bind_eq_some_iff, Option.map_eq_some_iff] at hr; obtain ⟨_, _, _, _, rfl⟩ := hr; rfl
  case indexAddr t x i => split at hr <;> simp at hr <;> (obtain ⟨_, _, rfl⟩ := hr; rfl)
  case index t x i =>
    split at hr
    · simp only [Option.bind_eq_some_iff, Option.map_eq_some_iff] at hr
      obtain ⟨_, _, _, _, rfl⟩ := hr; rfl
    · cases hr; rfl
    · cases hr
  case lookup t x i ok => cases hr; rfl
  case extract x i => cases hr; rfl
  case makeInterface t x => split at hr <;> cases hr; rfl
  case makeFunc f a c => cases f <;> simp only [reduceCtorEq, Option.some.injEq] at hr; subst hr; rfl
  case alloc t => simp only [Option.map_eq_some_iff] at hr; obtain ⟨_, _, rfl⟩ := hr; rfl
  case box t x => cases hr; rfl
  case buildSlice t n ps =>
    split at hr
    · simp only [Option.bind_eq_some_iff] at hr
      obtain ⟨_, _, _, _, hr⟩ := hr
      split at hr <;> cases hr; rfl
    · cases hr
  case makeSlice t l c =>
    split at hr
    · simp only [Option.bind_eq_some_iff] at hr
      obtain ⟨_, _, _, _, _, _, hr⟩ := hr
      split at hr <;> cases hr; rfl
    · cases hr
  case makeMap t r => cases r <;> simp only [reduceCtorEq, Option.some.injEq] at hr; subst hr; rfl
  case store t a x => simp only [Option.map_eq_some_iff] at hr; obtain ⟨_, _, rfl⟩ := hr; rfl
  case mapUpdate t m k x => split at hr <;> cases hr; rfl
  case call c =>
    obtain ⟨callee, args, tys⟩ := c
    cases callee with
    | value f => simp only [Option.some.injEq] at hr; subst hr; rfl
    | invoke r m => simp at hr
    | builtin b =>
      cases b <;> try (simp only [reduceCtorEq] at hr)
      case len => split at hr <;> (try split at hr) <;> cases hr <;> rfl
      case max => cases hr; rfl
      case min => cases hr; rfl
      case append =>
        split at hr
        · split at hr
          · simp only [Option.bind_eq_some_iff] at hr
            obtain ⟨_, _, _, _, _, _, hr⟩ := hr
            split at hr <;> cases hr; rfl
          · cases hr
        · cases hr
      case copy =>
        split at hr
        · split at hr
          · simp only [Option.map_eq_some_iff] at hr
            obtain ⟨_, _, rfl⟩ := hr; rfl
          · cases hr
        · cases hr
      case delete =>
        split at hr
        · split at hr
          · cases hr; rfl
          · cases hr
        · cases hr
theorem freezeA_same {h : AHeap} {s d : TypeId} {v : AV} {r : AV × AHeap} (hf : freezeA P h s d v = some r) : (s == d) = true := by
  unfold freezeA at hf
  split at hf
  · split at hf
    · split at hf
      · split at hf
        · split at hf
          · assumption
          · cases hf
        · cases hf
      · cases hf
    · cases hf
  · cases hf
theorem store_head {h : AHeap} {E : Operand → Option AV} {s : Nat} {o : Oper} {r : Option AV × AHeap} (hst : isStore o = true) (he : evalEff P h E s o = some r) :
    r.1 = none ∧ ∃ q, storeVal P h E o = some q ∧ applyEff h s (.st q.1 q.2.1 q.2.2) = r.2 := by
  unfold isStore at hst
  unfold evalEff at he
  unfold storeVal
  cases hop : o.op <;> simp only [hop, Bool.false_eq_true] at hst he ⊢
  case store t a x =>
    simp only [Option.bind_eq_some_iff, Option.map_eq_some_iff] at he
    obtain ⟨p, hp, v, hv, h', hs, rfl⟩ := he
    refine ⟨rfl, ?_⟩
    unfold storeA at hs
    split at hs
    · rename_i k q
      split at hs
      · rename_i t' sz cs hk
        simp only [Option.bind_eq_some_iff] at hs
        obtain ⟨z, hz, hs⟩ := hs
        split at hs
        · rename_i hc
          cases hs
          refine ⟨(k, q, v.cells), ?_, ?_⟩
          · simp only [hp, hv, Option.bind_some, hk, hz, hc, if_true]
          · simp only [applyEff, hk]
        · cases hs
      · cases hs
    · cases hs
theorem step_store {ops : Array Oper} {s : Nat} {o : Oper} {po : PO} (hst : isStore o = true) (h : poOf P ops o = some po) {st st' : St} (hs : stepR P S s po st = some st') : headStep0 P S ops s o st = some st' := by
  have hw := wanted_resolved h st.1
  simp only [poOf, Option.map_eq_some_iff] at h
  obtain ⟨ri, hr, hpo⟩ := h
  have hri : po.ri = ri := by rw [← hpo]
  have hdst : po.dst = o.dst := by rw [← hpo]
  have hal := alloc_flag hr
  have hform : ∃ z a x, ri = .store z a x := by
    unfold isStore at hst
    unfold resolve at hr
    cases hop : o.op <;> simp only [hop, Bool.false_eq_true] at hst hr
    simp only [Option.map_eq_some_iff] at hr
    obtain ⟨z, _, rfl⟩ := hr
    exact ⟨_, _, _, rfl⟩
  obtain ⟨z, a, x, rfl⟩ := hform
  unfold stepR at hs
  rw [← hw, hri, hdst] at hs
  have ha : isAlloc P o = false := hal
  unfold headStep0 headVal
  cases hwt : wantedA ops st.1 o with
  | none => rw [hwt] at hs; cases hs
  | some b =>
    rw [hwt] at hs
    cases b with
    | false => simp only [Option.map_some, after, applyEff]; exact hs
    | true =>
      simp only [RI.isPure, RI.isAlloc, callR, calleeR, Bool.false_eq_true, if_false, Option.bind_none, Option.map_eq_some_iff] at hs
      obtain ⟨r, hv, he⟩ := hs
      obtain ⟨h1, -⟩ := eff_resolved hr hv
      obtain ⟨h2, q, h3, h4⟩ := store_head hst h1
      simp only [ha, Bool.false_eq_true, if_false, hst, if_true, h3, Option.map_some, after, h4, Option.some.injEq]
      rw [← he, h2]; rfl
theorem step_resolved {ops : Array Oper} {s : Nat} {o : Oper} {po : PO} (h : poOf P ops o = some po) {st st' : St} (hs : stepR P S s po st = some st') :
    stepA P S ops s o st = some st' ∧ ((∀ g, (S.q g).isSome = Q g) → headableQ Q o = true → headStep0 P S ops s o st = some st') := by
  by_cases hst : isStore o = true
  · have h1 := step_store hst h hs
    exact ⟨by unfold stepA; rw [h1], fun _ _ => h1⟩
  have hst' : isStore o = false := by simpa using hst
  have hw := wanted_resolved h st.1
  simp only [poOf, Option.map_eq_some_iff] at h
  obtain ⟨ri, hr, hpo⟩ := h
  have hri : po.ri = ri := by rw [← hpo]
  have hdst : po.dst = o.dst := by rw [← hpo]
  have hal := alloc_flag hr
  unfold stepR at hs
  rw [← hw, hri, hdst] at hs
  have key : headStep0 P S ops s o st = some st' → stepA P S ops s o st = some st' ∧ ((∀ g, (S.q g).isSome = Q g) → headableQ Q o = true → headStep0 P S ops s o st = some st') := fun hh => ⟨by unfold stepA; rw [hh], fun _ _ => hh⟩
  have keyE : ∀ r, effR P st.2 (evalOperand st.1) s ri = some r → wantedA ops st.1 o = some true → (ri.isAlloc = true → isHole st.2 s = true) → (put o.dst (r.1.getD .any) st.1, r.2) = st' →
      stepA P S ops s o st = some st' ∧ ((∀ g, (S.q g).isSome = Q g) → headableQ Q o = true → headStep0 P S ops s o st = some st') := by
    intro r hv hwt hho he
    obtain ⟨h1, h2, h3, h4, h5⟩ := eff_resolved hr hv
    have hh : headStep0 P S ops s o st = none := by
      unfold headStep0 headVal
      rw [hwt]
      simp only
      by_cases ha : isAlloc P o = true
      · rw [if_pos ha, h4 ha]; split <;> rfl
      · rw [if_neg ha, if_neg hst, h2]
        simp only [quietA, h5, Option.bind_none, Option.map_none]
    refine ⟨?_, fun _ hq => ?_⟩
    · unfold stepA
      rw [hh, hwt]
      simp only
      rw [if_neg (by
        simp only [Bool.and_eq_true, Bool.not_eq_true', not_and, Bool.not_eq_false]
        intro ha
        exact hho (by rw [← hal]; exact ha)), h1]
      simp only [he]
    · exfalso
      unfold effR at hv
      unfold headableQ at hq
      unfold resolve at hr
      unfold isStore at hst
      cases hop : o.op <;> simp only [hop, reduceCtorEq] at hq hst <;> unfold evalEff at h1 <;> simp only [hop, reduceCtorEq] at h1
      case store t a x => exact hst (by first | rfl | trivial)
      case convert sT dT x =>
        simp only [Option.bind_eq_some_iff, Option.map_eq_some_iff] at h1
        obtain ⟨u, _, r', hf, _⟩ := h1
        have hsd := freezeA_same hf
        unfold bne at hq
        rw [hsd] at hq
        cases hq
      case call c =>
        obtain ⟨callee, args, tys⟩ := c
        cases callee with
        | value f => cases h1
        | invoke r m => cases h1
        | builtin b => cases b <;> first | (cases h1; done) | (cases hq; done)
  cases hwt : wantedA ops st.1 o with
  | none => rw [hwt] at hs; cases hs
  | some b =>
    rw [hwt] at hs
    cases b with
    | false =>
      simp only [Option.some.injEq] at hs
      refine key ?_
      unfold headStep0 headVal
      rw [hwt]
      simp only [Option.map_some, after, applyEff, Option.some.injEq]
      exact hs
    | true =>
      simp only at hs
      by_cases hp : ri.isPure = true
      · rw [if_pos hp] at hs
        simp only [Option.map_eq_some_iff] at hs
        obtain ⟨v, hv, he⟩ := hs
        have h1 := pure_resolved hr hv
        refine key ?_
        unfold headStep0 headVal
        rw [hwt]
        have ha : isAlloc P o = false := by rw [hal]; cases ri <;> first | rfl | cases hp
        simp only [ha, hst', Bool.false_eq_true, if_false, h1, Option.map_some, after, applyEff, Option.some.injEq]
        exact he
      · rw [if_neg hp] at hs
        by_cases ha : ri.isAlloc = true
        · rw [if_pos ha] at hs
          split at hs
          · rename_i hho
            cases hx : allocR (evalOperand st.1) s ri with
            | some r =>
              rw [hx] at hs
              simp only [Option.some.injEq] at hs
              obtain ⟨h1, h2⟩ := alloc_resolved hr hx
              refine key ?_
              unfold headStep0 headVal
              rw [hwt]
              simp only [h2, if_true, hho, h1, Option.map_some, after, applyEff, Option.some.injEq]
              exact hs
            | none =>
              rw [hx] at hs
              simp only [Option.map_eq_some_iff] at hs
              obtain ⟨r, hv, he⟩ := hs
              exact keyE r hv hwt (fun _ => hho) he
          · cases hs
        · rw [if_neg ha] at hs
          cases hc : callR S st.2 (evalOperand st.1) ri with
          | some r =>
            rw [hc] at hs
            simp only [Option.some.injEq] at hs
            simp only [callR, Option.bind_eq_some_iff] at hc
            obtain ⟨c, hcc, hc⟩ := hc
            obtain ⟨h1, f, args, tys, hop, -⟩ := callee_resolved hr hcc
            have hpure : evalPure P st.2 (evalOperand st.1) o = none := by unfold evalPure; rw [hop]
            have heff : evalEff P st.2 (evalOperand st.1) s o = none := by unfold evalEff; rw [hop]
            have hna : isAlloc P o = false := by rw [hal]; simpa using ha
            cases hq : S.q c.1 with
            | some sp =>
              rw [hq] at hc
              simp only [Option.map_eq_some_iff] at hc
              obtain ⟨v, hv, rfl⟩ := hc
              refine key ?_
              unfold headStep0 headVal
              rw [hwt]
              simp only [hna, hst', Bool.false_eq_true, if_false, hpure, quietA, h1, hq, hv, Option.bind_some, Option.map_some, after, applyEff, Option.some.injEq]
              exact hs
            | none =>
              rw [hq] at hc
              simp only [Option.bind_eq_some_iff] at hc
              obtain ⟨sp, hsp, hv⟩ := hc
              have hh : headStep0 P S ops s o st = none := by
                unfold headStep0 headVal
                rw [hwt]
                simp only [hna, hst', Bool.false_eq_true, if_false, hpure, quietA, h1, hq, Option.bind_some, Option.bind_none, Option.map_none]
              refine ⟨?_, fun hQ hhd => ?_⟩
              · unfold stepA
                rw [hh, hwt]
                simp only [hna, Bool.false_and, Bool.false_eq_true, if_false, heff, fullA, h1, hsp, hv, Option.bind_some, Option.map_some, hs]
              · exfalso
                unfold headableQ at hhd
                rw [hop] at hhd
                simp only at hhd
                cases f <;> simp only [reduceCtorEq] at hhd
                rename_i g
                unfold calleeA at h1
                rw [hop] at h1
                simp only [evalOperand, Option.map_eq_some_iff] at h1
                obtain ⟨vs, _, rfl⟩ := h1
                have := hQ g
                rw [hq, hhd] at this
                cases this
          | none =>
            rw [hc] at hs
            simp only [Option.map_eq_some_iff] at hs
            obtain ⟨r, hv, he⟩ := hs
            exact keyE r hv hwt (fun h => absurd h ha) he
end
end Go.Am
