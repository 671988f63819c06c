/- Symbolic runs: a path is told by hints, and what it asks is gathered as conditions. -/
import Derived.Test.YtiijphmpkmmpjaaAmZ
set_option linter.unusedVariables false
set_option linter.unusedSimpArgs false
namespace Go.Am
open Go Go.RowKit
/-- What a truth value is told to be; 'lit': it is seen. -/
inductive Hint where
  | lit
  | is (b : Bool)
def RI.asks : RI → Bool
  | .bin .. | .cmp .. | .extract .. | .load .. | .field .. | .indexA .. | .lookup .. | .call .. => true
  | _ => false
def settle (ri : RI) (v : AV) (hs : List Hint) : AV × List Hint × List Bool :=
  if ri.asks then match v with
    | .bool c => match hs with
      | .is b :: hs => (.bool b, hs, [c == b])
      | .lit :: hs => (.bool c, hs, [])
      | [] => (.bool c, [], [])
    | v => (v, hs, [])
  else (v, hs, [])
theorem settle_ok {ri : RI} {v : AV} {hs : List Hint} (h : (settle ri v hs).2.2.all id = true) : (settle ri v hs).1 = v := by
  unfold settle at h ⊢
  split
  · rename_i h1
    simp only [h1, if_true] at h
    split
    · split
      · simp only [List.all_cons, List.all_nil, id, Bool.and_true, beq_iff_eq] at h
        rw [h]
      · rfl
      · rfl
    · rfl
  · rfl
def boundV (d lim : Nat) : Option AV → Option (Nat × List Bool)
  | none => some (d, [])
  | some (.int _ i) => some (i.toNat, [decide (0 ≤ i), decide (i ≤ lim)])
  | _ => none
theorem boundV_ok {d lim : Nat} {a : Option AV} {r : Nat × List Bool} (h : boundV d lim a = some r) (hc : r.2.all id = true) : boundA d lim a = some r.1 := by
  unfold boundV at h
  split at h
  · cases h; rfl
  · cases h
    simp only [List.all_cons, List.all_nil, id, Bool.and_true, Bool.and_eq_true, decide_eq_true_eq] at hc
    simp only [boundA]
    rw [if_pos hc]
  · cases h
def byteD : AV → UInt8
  | .int _ n => UInt8.ofNat n.toNat
  | _ => 0
def bytesOf (l : List AV) : List UInt8 := l.map byteD
theorem bytesOf_ok : ∀ l : List AV, l.all (isInt .u8) = true → l.mapM byteOfA = some (bytesOf l)
  | [], _ => rfl
  | x :: l, h => by
    simp only [List.all_cons, Bool.and_eq_true] at h
    obtain ⟨ha, hb⟩ := h
    rw [List.mapM_cons, bytesOf_ok l hb]
    cases x <;> first | cases ha | skip
    rename_i k m
    have hk : k = .u8 := by simpa [isInt] using ha
    subst hk
    rfl
abbrev Sy := Nat → Option IntKind
/-- Calls whose contracts ask something. -/
abbrev CV := FuncId → List AV → AHeap → Option ((AV × AHeap) × List Bool)
def CV.OK (S : Specs) (cv : CV) : Prop := ∀ g vs h r c, cv g vs h = some (r, c) → c.all id = true →
  (match S.q g with | some sp => (sp vs h).map (·, h) | none => (S.f g).bind fun sp => sp vs h) = some r
section
variable (P : Program) (S : Specs) (sy : Sy)
def viewV (h : AHeap) (E : Operand → Option AV) : RI → Option (AV × List Bool)
  | .indexS x i => match E x, E i with
    | some (.str s), some (.int _ n) => some (.int .u8 ((s.getD n.toNat 0).toNat : Nat), [decide (0 ≤ n), decide (n.toNat < s.length)])
    | _, _ => none
  | .atA n s x i => match E x, E i with
    | some (.ptr (some (k, o))), some (.int _ i) => some (.ptr (some (k, o + i.toNat * s)), [decide (0 ≤ i), decide (i < n)])
    | _, _ => none
  | .atL s x i => match E x, E i with
    | some (.sl (some (k, o)) len _), some (.int _ i) => some (.ptr (some (k, o + i.toNat * s)), [decide (0 ≤ i), decide (i < len)])
    | _, _ => none
  | .load none x => match E x with
    | some (.ptr (some (k, o))) => match sy k with
      | some kd => (cellsAt h k).map fun cs => (.int kd (dec cs o), [decide (o < cs.length), cs.all (isInt kd)])
      | none => none
    | _ => none
  | .load (some n) x => match E x with
    | some (.ptr (some (k, o))) => match sy k with
      | some kd => (cellsAt h k).map fun cs => (.agg ((cs.drop o).take n), [decide (o + n ≤ cs.length)])
      | none => none
    | _ => none
  | .sliceS x lo hi => match E x with
    | some (.str s) => (optA E lo).bind fun l => (optA E hi).bind fun u => (boundV s.length s.length u).bind fun u => (boundV 0 u.1 l).map fun l => (.str ((s.take u.1).drop l.1), u.2 ++ l.2)
    | _ => none
  | .sliceL s x lo hi => match E x with
    | some (.sl (some (k, o)) len c) => (optA E lo).bind fun l => (optA E hi).bind fun u => (boundV len len u).bind fun u => (boundV 0 u.1 l).map fun l =>
      match c with
      | .fix n => match lo with
        | none => (.sl (some (k, o)) u.1 (.fix n), u.2 ++ l.2 ++ [decide (l.1 = 0)])
        | some _ => (.sl (some (k, if l.1 = n then o else o + l.1 * s)) (u.1 - l.1) (.fix (n - l.1)), u.2 ++ l.2)
      | .rel i => match lo with
        | none => (.sl (some (k, o)) u.1 (.rel i), u.2 ++ l.2 ++ [decide (l.1 = 0)])
        | some _ => (.sl (some (k, o + l.1 * s)) (u.1 - l.1) (.rel (i + l.1)), u.2 ++ l.2 ++ [decide (l.1 < len)])
    | _ => none
  | .sliceA n s x lo hi => match E x with
    | some (.ptr (some (k, o))) => (optA E lo).bind fun l => (optA E hi).bind fun u => (boundV n n u).bind fun u => (boundV 0 u.1 l).map fun l =>
      match lo with
        | none => (.sl (some (k, o)) u.1 (.fix n), u.2 ++ l.2 ++ [decide (l.1 = 0)])
        | some _ => (.sl (some (k, if l.1 = n then o else o + l.1 * s)) (u.1 - l.1) (.fix (n - l.1)), u.2 ++ l.2)
    | _ => none
  | .toArr n x => match E x with
    | some (.sl (some a) len _) => some (.ptr (some a), [decide (n ≤ len)])
    | _ => none
  | .toStr x => match E x with
    | some (.sl (some (k, o)) len _) => (cellsAt h k).map fun cs => (.str (bytesOf ((cs.drop o).take len)), [decide (o + len ≤ cs.length), ((cs.drop o).take len).all (isInt .u8)])
    | _ => none
  | .bin .add x y => match E x, E y with
    | some (.str a), some (.str b) => some (.str (a ++ b), [decide (a.length + b.length ≤ 9223372036854775807)])
    | _, _ => none
  | _ => none
theorem allb {a b : List Bool} (h : (a ++ b).all id = true) : a.all id = true ∧ b.all id = true := by
  rw [List.all_append, Bool.and_eq_true] at h; exact h
theorem viewV_ok {h : AHeap} {E : Operand → Option AV} {ri : RI} {v : AV} {cs : List Bool} (hv : viewV sy h E ri = some (v, cs)) (hc : cs.all id = true) : pureR P h E ri = some v ∧ ri.isPure = true := by
  unfold viewV at hv
  split at hv
  · -- indexS
    rename_i x i
    split at hv
    · rename_i s _ n h1 h2
      cases hv
      simp only [List.all_cons, List.all_nil, id, Bool.and_true, Bool.and_eq_true, decide_eq_true_eq] at hc
      refine ⟨?_, rfl⟩
      simp only [pureR, h1, h2, if_pos hc.1]
      rw [List.getElem?_eq_getElem hc.2, List.getD_eq_getElem?_getD, List.getElem?_eq_getElem hc.2]
      rfl
    · cases hv
  · rename_i n s x i
    split at hv
    · rename_i k o _ i h1 h2
      cases hv
      simp only [List.all_cons, List.all_nil, id, Bool.and_true, Bool.and_eq_true, decide_eq_true_eq] at hc
      refine ⟨?_, rfl⟩
      simp only [pureR, h1, h2, if_pos hc]
    · cases hv
  · rename_i s x i
    split at hv
    · rename_i k o len _ _ i h1 h2
      cases hv
      simp only [List.all_cons, List.all_nil, id, Bool.and_true, Bool.and_eq_true, decide_eq_true_eq] at hc
      refine ⟨?_, rfl⟩
      simp only [pureR, h1, h2, if_pos hc]
    · cases hv
  · rename_i x
    split at hv
    · rename_i k o h1
      split at hv
      · rename_i kd hk
        simp only [Option.map_eq_some_iff] at hv
        obtain ⟨cs, h2, h3⟩ := hv
        cases h3
        simp only [List.all_cons, List.all_nil, id, Bool.and_true, Bool.and_eq_true, decide_eq_true_eq] at hc
        refine ⟨?_, rfl⟩
        simp only [pureR, h1, h2, Option.bind_some, partR]
        obtain ⟨c1, c2⟩ := hc
        rw [List.getElem?_eq_getElem c1]
        have := List.all_eq_true.1 c2 cs[o] (List.getElem_mem c1)
        simp only [dec, List.getElem?_eq_getElem c1]
        generalize cs[o] = y at this
        cases y <;> first | cases this | skip
        rename_i k' m
        have hk : k' = kd := by simpa [isInt] using this
        subst hk
        rfl
      · cases hv
    · cases hv
  · rename_i n x
    split at hv
    · rename_i k o h1
      split at hv
      · rename_i kd hk
        simp only [Option.map_eq_some_iff] at hv
        obtain ⟨cs, h2, h3⟩ := hv
        cases h3
        simp only [List.all_cons, List.all_nil, id, Bool.and_true, decide_eq_true_eq] at hc
        refine ⟨?_, rfl⟩
        simp only [pureR, h1, h2, Option.bind_some, partR, if_pos hc]
      · cases hv
    · cases hv
  · rename_i x lo hi
    split at hv
    · rename_i s h1
      simp only [Option.bind_eq_some_iff, Option.map_eq_some_iff] at hv
      obtain ⟨l, hl, u, hu, u1, hu1, l1, hl1, hx⟩ := hv
      cases hx
      obtain ⟨g1, g2⟩ := allb hc
      refine ⟨?_, rfl⟩
      simp only [pureR, h1, hl, hu, Option.bind_some, boundV_ok hu1 g1, boundV_ok hl1 g2, Option.map_some]
    · cases hv
  · rename_i s x lo hi
    split at hv
    · rename_i k o len c h1
      simp only [Option.bind_eq_some_iff, Option.map_eq_some_iff] at hv
      obtain ⟨l, hl, u, hu, u1, hu1, l1, hl1, hx⟩ := hv
      cases c with
      | fix n =>
        cases lo with
        | none =>
          simp only [Prod.mk.injEq] at hx
          obtain ⟨rfl, rfl⟩ := hx
          obtain ⟨g, g3⟩ := allb hc
          obtain ⟨g1, g2⟩ := allb g
          simp only [List.all_cons, List.all_nil, id, Bool.and_true, decide_eq_true_eq] at g3
          refine ⟨?_, rfl⟩
          simp only [pureR, h1, hl, hu, Option.bind_some, boundV_ok hu1 g1, boundV_ok hl1 g2, Option.map_some, g3, Nat.zero_mul, Nat.add_zero, ite_self, Nat.sub_zero]
        | some q =>
          simp only [Prod.mk.injEq] at hx
          obtain ⟨rfl, rfl⟩ := hx
          obtain ⟨g1, g2⟩ := allb hc
          refine ⟨?_, rfl⟩
          simp only [pureR, h1, hl, hu, Option.bind_some, boundV_ok hu1 g1, boundV_ok hl1 g2, Option.map_some]
      | rel i =>
        cases lo with
        | none =>
          simp only [Prod.mk.injEq] at hx
          obtain ⟨rfl, rfl⟩ := hx
          obtain ⟨g, g3⟩ := allb hc
          obtain ⟨g1, g2⟩ := allb g
          simp only [List.all_cons, List.all_nil, id, Bool.and_true, decide_eq_true_eq] at g3
          refine ⟨?_, rfl⟩
          simp only [pureR, h1, hl, hu, Option.bind_some, boundV_ok hu1 g1, boundV_ok hl1 g2, Option.map_some, g3, if_true]
        | some q =>
          simp only [Prod.mk.injEq] at hx
          obtain ⟨rfl, rfl⟩ := hx
          obtain ⟨g, g3⟩ := allb hc
          obtain ⟨g1, g2⟩ := allb g
          simp only [List.all_cons, List.all_nil, id, Bool.and_true, decide_eq_true_eq] at g3
          refine ⟨?_, rfl⟩
          simp only [pureR, h1, hl, hu, Option.bind_some, boundV_ok hu1 g1, boundV_ok hl1 g2, Option.map_some, g3, if_true]
          split
          · rename_i h0; rw [h0]; simp
          · rfl
    · cases hv
  · rename_i n s x lo hi
    split at hv
    · rename_i k o h1
      simp only [Option.bind_eq_some_iff, Option.map_eq_some_iff] at hv
      obtain ⟨l, hl, u, hu, u1, hu1, l1, hl1, hx⟩ := hv
      cases lo with
      | none =>
        simp only [Prod.mk.injEq] at hx
        obtain ⟨rfl, rfl⟩ := hx
        obtain ⟨g, g3⟩ := allb hc
        obtain ⟨g1, g2⟩ := allb g
        simp only [List.all_cons, List.all_nil, id, Bool.and_true, decide_eq_true_eq] at g3
        refine ⟨?_, rfl⟩
        simp only [pureR, h1, hl, hu, Option.bind_some, boundV_ok hu1 g1, boundV_ok hl1 g2, Option.map_some, g3, Nat.zero_mul, Nat.add_zero, ite_self, Nat.sub_zero]
      | some q =>
        simp only [Prod.mk.injEq] at hx
        obtain ⟨rfl, rfl⟩ := hx
        obtain ⟨g1, g2⟩ := allb hc
        refine ⟨?_, rfl⟩
        simp only [pureR, h1, hl, hu, Option.bind_some, boundV_ok hu1 g1, boundV_ok hl1 g2, Option.map_some]
    · cases hv
  · rename_i n x
    split at hv
    · rename_i a len _ h1
      cases hv
      simp only [List.all_cons, List.all_nil, id, Bool.and_true, decide_eq_true_eq] at hc
      refine ⟨?_, rfl⟩
      simp only [pureR, h1, if_pos hc]
    · cases hv
  · rename_i x
    split at hv
    · rename_i k o len _ h1
      simp only [Option.map_eq_some_iff] at hv
      obtain ⟨cs, h2, h3⟩ := hv
      cases h3
      simp only [List.all_cons, List.all_nil, id, Bool.and_true, Bool.and_eq_true, decide_eq_true_eq] at hc
      refine ⟨?_, rfl⟩
      simp only [pureR, h1, h2, Option.bind_some, if_pos hc.1, bytesOf_ok _ hc.2, Option.map_some]
    · cases hv
  · rename_i x y
    split at hv
    · rename_i a b h1 h2
      cases hv
      simp only [List.all_cons, List.all_nil, id, Bool.and_true, decide_eq_true_eq] at hc
      refine ⟨?_, rfl⟩
      simp only [pureR, h1, h2, Option.bind_some, strOp, hc, if_true]
    · cases hv
  · cases hv
def sourceV (h : AHeap) (sz : Nat) : AV → Option (Nat × List AV × List Bool)
  | .sl none 0 _ => some (0, [], [])
  | .slE _ _ _ _ _ => some (0, [], [])
  | .sl (some (k, o)) m _ => (cellsAt h k).map fun cs => (m, (cs.drop o).take (m * sz), [decide (o + m * sz ≤ cs.length)])
  | .str s => if sz = 1 then some (s.length, s.map fun b => .int .u8 b.toNat, []) else none
  | _ => none
theorem sourceV_ok {h : AHeap} {sz : Nat} {v : AV} {r : Nat × List AV × List Bool} (hv : sourceV h sz v = some r) (hc : r.2.2.all id = true) : sourceA h sz v = some (r.1, r.2.1) := by
  unfold sourceV at hv
  split at hv
  · cases hv; rfl
  · cases hv; rfl
  · simp only [Option.map_eq_some_iff] at hv
    obtain ⟨cs, h2, rfl⟩ := hv
    simp only [List.all_cons, List.all_nil, id, Bool.and_true, decide_eq_true_eq] at hc
    simp only [sourceA, h2, Option.bind_some, if_pos hc]
  · split at hv
    · rename_i h1; cases hv; simp only [sourceA, if_pos h1]
    · cases hv
  · cases hv
def effV (h : AHeap) (E : Operand → Option AV) (slot : Nat) : RI → Option ((Option AV × AHeap) × List Bool)
  | .store s a x => match E a, E x with
    | some (.ptr (some (k, o))), some v => match h[k]? with
      | some (.row t' sz cs) => some ((none, h.set k (.row t' sz (spliceA cs o v.cells))), [v.plain && v.cells.all AV.one && v.cells.length == s, decide (o + s ≤ cs.length)])
      | _ => none
    | _, _ => none
  | .append e s b a x => (E a).bind fun a => (E x).bind fun x => (sourceV h s x).bind fun src =>
      match a with
      | .sl (some (k, 0)) n (.rel 0) => match h[k]? with
        | some (.row t' sz' cs) => some ((some (.sl (some (slot, 0)) (n + src.1) (.rel 0)), (h.set k .dead).set slot (.row e s (cs ++ src.2.1))),
            src.2.2 ++ [src.2.1.all AV.one, decide (t' = e), decide (sz' = s), decide (cs.length = n * s), decide ((n + src.1) * b ≤ 140737488355328), decide (n + src.1 ≤ 9223372036854775807)])
        | _ => none
      | _ => none
  | .copy s d x => (E d).bind fun d => (E x).bind fun x => match d with
    | .sl (some (k, o)) n _ => (sourceV h s x).bind fun src =>
      match h[k]? with
      | some (.row t' sz' cs) => some ((some (.int .i64 ((min src.1 n : Nat) : Int)), h.set k (.row t' sz' (spliceA cs o (src.2.1.take (min src.1 n * s))))), src.2.2 ++ [src.2.1.all AV.one, decide (o + min src.1 n * s ≤ cs.length)])
      | _ => none
    | _ => none
  | _ => none
theorem effV_ok {h : AHeap} {E : Operand → Option AV} {slot : Nat} {ri : RI} {r : (Option AV × AHeap) × List Bool} (hv : effV h E slot ri = some r) (hc : r.2.all id = true) :
    effR P h E slot ri = some r.1 ∧ ri.isPure = false ∧ calleeR E ri = none ∧ allocR E slot ri = none := by
  unfold effV at hv
  split at hv
  · split at hv
    · rename_i k o v h1 h2
      split at hv
      · rename_i t' sz cs h3
        cases hv
        simp only [List.all_cons, List.all_nil, id, Bool.and_true] at hc
        refine ⟨?_, rfl, rfl, rfl⟩
        simp only [effR, h1, h2, h3, hc, if_true]
      · cases hv
    · cases hv
  · simp only [Option.bind_eq_some_iff] at hv
    obtain ⟨a, ha, x, hx, src, hs, hv⟩ := hv
    split at hv
    · rename_i k n
      split at hv
      · rename_i t' sz' cs h3
        cases hv
        obtain ⟨g1, g2⟩ := allb hc
        simp only [List.all_cons, List.all_nil, id, Bool.and_true, Bool.and_eq_true, decide_eq_true_eq] at g2
        obtain ⟨q1, q2, q3, q4, q5, q6⟩ := g2
        refine ⟨?_, rfl, rfl, rfl⟩
        simp only [effR, ha, hx, Option.bind_some, sourceV_ok hs g1, q1, if_true, h3]
        rw [if_pos ⟨q2, q3, q4, q5, q6⟩]
      · cases hv
    · cases hv
  · simp only [Option.bind_eq_some_iff] at hv
    obtain ⟨d, hd, x, hx, hv⟩ := hv
    split at hv
    · rename_i k o n _
      simp only [Option.bind_eq_some_iff] at hv
      obtain ⟨src, hs, hv⟩ := hv
      split at hv
      · rename_i t' sz' cs h3
        cases hv
        obtain ⟨g1, g2⟩ := allb hc
        simp only [List.all_cons, List.all_nil, id, Bool.and_true] at g2
        refine ⟨?_, rfl, rfl, rfl⟩
        simp only [effR, hd, hx, Option.bind_some, sourceV_ok hs g1, h3, g2, if_true]
      · cases hv
    · cases hv
  · cases hv
/-- An append to nothing: whether nothing is appended is told. -/
def effH (h : AHeap) (E : Operand → Option AV) (slot : Nat) (ri : RI) (hs : List Hint) : Option ((Option AV × AHeap) × List Hint × List Bool) := match ri with
  | .append e s b a x => match E a with
    | some (.sl none 0 _) => (E x).bind fun x => (sourceV h s x).bind fun src => match hs with
      | .is true :: hs => some ((some (.sl none 0 (.fix 0)), h), hs, src.2.2 ++ [src.2.1.all AV.one, decide (src.1 = 0)])
      | .is false :: hs => some ((some (.sl (some (slot, 0)) src.1 (.rel 0)), h.set slot (.row e s src.2.1)), hs, src.2.2 ++ [src.2.1.all AV.one, !decide (src.1 = 0), decide (src.1 * b ≤ 140737488355328), decide (src.1 ≤ 9223372036854775807)])
      | .lit :: hs => (effR P h E slot ri).map (·, hs, [])
      | [] => none
    | _ => none
  | _ => none
theorem effH_ok {h : AHeap} {E : Operand → Option AV} {slot : Nat} {ri : RI} {hs : List Hint} {r : (Option AV × AHeap) × List Hint × List Bool} (hv : effH P h E slot ri hs = some r) (hc : r.2.2.all id = true) :
    effR P h E slot ri = some r.1 ∧ ri.isPure = false ∧ allocR E slot ri = none := by
  unfold effH at hv
  split at hv
  · split at hv
    · rename_i e s b a x _ c ha
      simp only [Option.bind_eq_some_iff] at hv
      obtain ⟨x, hx, src, hsr, hv⟩ := hv
      split at hv
      · cases hv
        obtain ⟨g1, g2⟩ := allb hc
        simp only [List.all_cons, List.all_nil, id, Bool.and_true, Bool.and_eq_true, decide_eq_true_eq] at g2
        refine ⟨?_, rfl, rfl⟩
        simp only [effR, ha, hx, Option.bind_some, sourceV_ok hsr g1, g2.1, g2.2, if_true]
      · cases hv
        obtain ⟨g1, g2⟩ := allb hc
        simp only [List.all_cons, List.all_nil, id, Bool.and_true, Bool.and_eq_true, decide_eq_true_eq, Bool.not_eq_true', decide_eq_false_iff_not] at g2
        obtain ⟨q1, q2, q3, q4⟩ := g2
        refine ⟨?_, rfl, rfl⟩
        simp only [effR, ha, hx, Option.bind_some, sourceV_ok hsr g1, q1, if_true, if_neg q2]
        rw [if_pos ⟨q3, q4⟩]
      · simp only [Option.map_eq_some_iff] at hv
        obtain ⟨w, h1, rfl⟩ := hv
        exact ⟨h1, rfl, rfl⟩
      · cases hv
    · cases hv
  · cases hv
def allocV (E : Operand → Option AV) (k : Nat) : RI → Option ((AV × AObj) × List Bool)
  | .mslice e s b z l c => match E l, E c with
    | some (.int _ l), some (.int _ c) => some ((.sl (some (k, 0)) l.toNat (.rel 0), .row e s (rangeCells z.cells (l.toNat * s))), [decide (0 ≤ l), decide (l ≤ c), decide ((b : Int) * c ≤ 281474976710656), decide (c ≤ 9223372036854775807)])
    | _, _ => none
  | .toBytes x => match E x with
    | some (.str b) => some ((.sl (some (k, 0)) b.length (.rel 0), .ro (b.map fun x => .int .u8 x.toNat)), [])
    | _ => none
  | _ => none
theorem allocV_ok {E : Operand → Option AV} {k : Nat} {ri : RI} {r : (AV × AObj) × List Bool} (hv : allocV E k ri = some r) (hc : r.2.all id = true) : allocR E k ri = some r.1 ∧ ri.isPure = false ∧ ri.isAlloc = true := by
  unfold allocV at hv
  split at hv
  · split at hv
    · rename_i l _ c h1 h2
      cases hv
      simp only [List.all_cons, List.all_nil, id, Bool.and_true, Bool.and_eq_true, decide_eq_true_eq] at hc
      refine ⟨?_, rfl, rfl⟩
      simp only [allocR, h1, h2]
      rw [if_pos hc]
    · cases hv
  · split at hv
    · rename_i b h1
      cases hv
      exact ⟨by simp only [allocR, h1], rfl, rfl⟩
    · cases hv
  · cases hv
variable (cv : CV)
/-- A slice cut within a row of the call's own: whether at its end is told. -/
def viewH (h : AHeap) (E : Operand → Option AV) (ri : RI) (hs : List Hint) : Option (AV × List Hint × List Bool) := match ri with
  | .sliceL s x (some lo) hi => match E x with
    | some (.sl (some (k, o)) len (.rel i)) => (optA E (some lo)).bind fun l => (optA E hi).bind fun u => (boundV len len u).bind fun u => (boundV 0 u.1 l).bind fun l => match hs with
      | .is true :: hs => some (.sl (some (k, o + l.1 * s)) (u.1 - l.1) (.rel (i + l.1)), hs, u.2 ++ l.2 ++ [decide (l.1 < len)])
      | .is false :: hs => some (.slE k o i l.1 s, hs, u.2 ++ l.2 ++ [decide (l.1 = len), !decide (l.1 = 0)])
      | .lit :: hs => (pureR P h E ri).map (·, hs, [])
      | [] => none
    | _ => none
  | _ => none
theorem viewH_ok {h : AHeap} {E : Operand → Option AV} {ri : RI} {hs : List Hint} {v : AV} {hs' : List Hint} {cs : List Bool} (hv : viewH P h E ri hs = some (v, hs', cs)) (hc : cs.all id = true) : pureR P h E ri = some v ∧ ri.isPure = true := by
  unfold viewH at hv
  split at hv
  · rename_i s x lo hi
    split at hv
    · rename_i k o len i h1
      simp only [Option.bind_eq_some_iff] at hv
      obtain ⟨l, hl, u, hu, u1, hu1, l1, hl1, hx⟩ := hv
      split at hx
      · cases hx
        obtain ⟨g, g3⟩ := allb hc
        obtain ⟨g1, g2⟩ := allb g
        simp only [List.all_cons, List.all_nil, id, Bool.and_true, decide_eq_true_eq] at g3
        refine ⟨?_, rfl⟩
        simp only [pureR, h1, hl, hu, Option.bind_some, boundV_ok hu1 g1, boundV_ok hl1 g2, Option.map_some, g3, if_true]
        split
        · rename_i h0; rw [h0]; simp
        · rfl
      · cases hx
        obtain ⟨g, g3⟩ := allb hc
        obtain ⟨g1, g2⟩ := allb g
        simp only [List.all_cons, List.all_nil, id, Bool.and_true, decide_eq_true_eq, Bool.and_eq_true, Bool.not_eq_true', decide_eq_false_iff_not] at g3
        refine ⟨?_, rfl⟩
        simp only [pureR, h1, hl, hu, Option.bind_some, boundV_ok hu1 g1, boundV_ok hl1 g2, Option.map_some]
        rw [if_neg g3.2, if_neg (by omega)]
      · simp only [Option.map_eq_some_iff] at hx
        obtain ⟨w, h2, h3⟩ := hx
        cases h3
        exact ⟨h2, rfl⟩
      · cases hx
    · cases hv
  · cases hv
/-- One operation along a path. -/
def stepV (s : Nat) (po : PO) (st : St) (hs : List Hint) : Option (St × List Hint × List Bool) :=
  match wantedR st.1 po with
  | none => none
  | some false => some ((put po.dst .und st.1, st.2), hs, [])
  | some true =>
    match viewH P st.2 (evalOperand st.1) po.ri hs with
    | some r => some ((put po.dst r.1 st.1, st.2), r.2.1, r.2.2)
    | none =>
    match viewV sy st.2 (evalOperand st.1) po.ri with
    | some r => some ((put po.dst (settle po.ri r.1 hs).1 st.1, st.2), (settle po.ri r.1 hs).2.1, r.2 ++ (settle po.ri r.1 hs).2.2)
    | none =>
      if po.ri.isPure then (pureR P st.2 (evalOperand st.1) po.ri).map fun v => ((put po.dst (settle po.ri v hs).1 st.1, st.2), (settle po.ri v hs).2.1, (settle po.ri v hs).2.2)
      else if po.ri.isAlloc then
        if isHole st.2 s then
          match allocV (evalOperand st.1) s po.ri with
          | some r => some ((put po.dst r.1.1 st.1, st.2.set s r.1.2), hs, r.2)
          | none => match effH P st.2 (evalOperand st.1) s po.ri hs with
          | some r => some ((put po.dst (r.1.1.getD .any) st.1, r.1.2), r.2.1, r.2.2)
          | none => match effV st.2 (evalOperand st.1) s po.ri with
            | some r => some ((put po.dst (r.1.1.getD .any) st.1, r.1.2), hs, r.2)
            | none => (stepR P S s po st).map (·, hs, [])
        else none
      else match effV st.2 (evalOperand st.1) s po.ri with
        | some r => some ((put po.dst (r.1.1.getD .any) st.1, r.1.2), hs, r.2)
        | none => match (calleeR (evalOperand st.1) po.ri).bind fun c => cv c.1 c.2 st.2 with
          | some r => some ((put po.dst (settle po.ri r.1.1 hs).1 st.1, r.1.2), (settle po.ri r.1.1 hs).2.1, r.2 ++ (settle po.ri r.1.1 hs).2.2)
          | none => match callR S st.2 (evalOperand st.1) po.ri with
            | some r => some ((put po.dst (settle po.ri r.1 hs).1 st.1, r.2), (settle po.ri r.1 hs).2.1, (settle po.ri r.1 hs).2.2)
            | none => (stepR P S s po st).map (·, hs, [])
theorem stepV_ok (hcv : cv.OK S) {s : Nat} {po : PO} {st st' : St} {hs hs' : List Hint} {cs : List Bool} (hv : stepV P S sy cv s po st hs = some (st', hs', cs)) (hc : cs.all id = true) : stepR P S s po st = some st' := by
  unfold stepV at hv
  split at hv
  · cases hv
  · rename_i hw; cases hv; simp only [stepR, hw]
  · rename_i hw
    split at hv
    · rename_i r hr
      cases hv
      obtain ⟨h1, h2⟩ := viewH_ok P hr hc
      simp only [stepR, hw, h2, if_true, h1, Option.map_some]
    split at hv
    · rename_i r hr
      cases hv
      obtain ⟨g1, g2⟩ := allb hc
      obtain ⟨h1, h2⟩ := viewV_ok P sy hr g1
      simp only [stepR, hw, h2, if_true, h1, Option.map_some, settle_ok g2]
    · split at hv
      · rename_i hp
        simp only [Option.map_eq_some_iff] at hv
        obtain ⟨v, h1, h2⟩ := hv
        cases h2
        simp only [stepR, hw, hp, if_true, h1, Option.map_some, settle_ok hc]
      · rename_i hp
        split at hv
        · rename_i ha
          split at hv
          · rename_i hh
            split at hv
            · rename_i r hr
              cases hv
              obtain ⟨h1, -, -⟩ := allocV_ok hr hc
              simp only [stepR, hw, hp, ha, hh, if_true, h1, Bool.false_eq_true, if_false]
            · split at hv
              · rename_i r hr
                cases hv
                obtain ⟨h1, -, h3⟩ := effH_ok P hr hc
                simp only [stepR, hw, hp, ha, hh, if_true, h1, h3, Bool.false_eq_true, if_false, Option.map_some]
              split at hv
              · rename_i r hr
                cases hv
                obtain ⟨h1, -, -, h3⟩ := effV_ok P hr hc
                simp only [stepR, hw, hp, ha, hh, if_true, h1, h3, Bool.false_eq_true, if_false, Option.map_some]
              · simp only [Option.map_eq_some_iff] at hv
                obtain ⟨x, h1, h2⟩ := hv
                cases h2
                exact h1
          · cases hv
        · rename_i ha
          split at hv
          · rename_i r hr
            cases hv
            obtain ⟨h1, -, h2, -⟩ := effV_ok P hr hc
            have h3 : callR S st.2 (evalOperand st.1) po.ri = none := by simp only [callR, h2, Option.bind_none]
            simp only [stepR, hw, hp, ha, h3, h1, Bool.false_eq_true, if_false, Option.map_some]
          · split at hv
            · rename_i r hr
              cases hv
              obtain ⟨g1, g2⟩ := allb hc
              simp only [Option.bind_eq_some_iff] at hr
              obtain ⟨c, hcal, hcv'⟩ := hr
              have h3 : callR S st.2 (evalOperand st.1) po.ri = some r.1 := by
                simp only [callR, hcal, Option.bind_some]
                exact hcv _ _ _ _ _ hcv' g1
              simp only [stepR, hw, hp, ha, h3, Bool.false_eq_true, if_false, settle_ok g2]
            · split at hv
              · rename_i r hr
                cases hv
                simp only [stepR, hw, hp, ha, hr, Bool.false_eq_true, if_false, settle_ok hc]
              · simp only [Option.map_eq_some_iff] at hv
                obtain ⟨x, h1, h2⟩ := hv
                cases h2
                exact h1
def evalOpsV : Nat → List PO → St → List Hint → Option (St × List Hint × List Bool)
  | _, [], st, hs => some (st, hs, [])
  | s, po :: rest, st, hs => match stepV P S sy cv s po st hs with
    | some r => match evalOpsV (if po.ri.isAlloc then s + 1 else s) rest r.1 r.2.1 with
      | some q => some (q.1, q.2.1, r.2.2 ++ q.2.2)
      | none => none
    | none => none
theorem evalOpsV_ok (hcv : cv.OK S) : ∀ (l : List PO) {s : Nat} {st st' : St} {hs hs' : List Hint} {cs : List Bool}, evalOpsV P S sy cv s l st hs = some (st', hs', cs) → cs.all id = true → evalOpsR P S s l st = some st'
  | [], s, st, st', hs, hs', cs, h, _ => by cases h; rfl
  | po :: rest, s, st, st', hs, hs', cs, h, hc => by
    simp only [evalOpsV] at h
    split at h
    · rename_i r hr
      split at h
      · rename_i q hq
        cases h
        obtain ⟨g1, g2⟩ := allb hc
        simp only [evalOpsR, stepV_ok P S sy cv hcv hr g1, Option.bind_some]
        exact evalOpsV_ok hcv rest hq g2
      · cases h
    · cases h
/-- A head with its log, along a path. -/
def evalHeadV (ls : List Nat) : Nat → Nat → List PO → St × Log → List Hint → Option ((St × Log) × List Hint × List Bool)
  | _, _, [], x, hs => some (x, hs, [])
  | k, s, po :: rest, x, hs => match rangeR (ls.contains k) x.1.1 po with
    | some q => if logOk x.2 q then match stepV P S sy cv s po x.1 hs with
        | some r => match evalHeadV ls (k + 1) (if po.ri.isAlloc then s + 1 else s) rest (r.1, x.2.set k (some q)) r.2.1 with
          | some t => some (t.1, t.2.1, r.2.2 ++ t.2.2)
          | none => none
        | none => none
      else none
    | none => match stepV P S sy cv s po x.1 hs with
      | some r => match evalHeadV ls (k + 1) (if po.ri.isAlloc then s + 1 else s) rest (r.1, x.2) r.2.1 with
        | some t => some (t.1, t.2.1, r.2.2 ++ t.2.2)
        | none => none
      | none => none
theorem evalHeadV_ok (hcv : cv.OK S) {ls : List Nat} : ∀ (l : List PO) {k s : Nat} {x x' : St × Log} {hs hs' : List Hint} {cs : List Bool}, evalHeadV P S sy cv ls k s l x hs = some (x', hs', cs) → cs.all id = true → evalHeadR P S ls k s l x = some x'
  | [], k, s, x, x', hs, hs', cs, h, _ => by cases h; rfl
  | po :: rest, k, s, x, x', hs, hs', cs, h, hc => by
    simp only [evalHeadV] at h
    split at h
    · rename_i q hq
      split at h
      · rename_i hl
        split at h
        · rename_i r hr
          split at h
          · rename_i t ht
            cases h
            obtain ⟨g1, g2⟩ := allb hc
            simp only [evalHeadR, hq, hl, if_true, stepV_ok P S sy cv hcv hr g1, Option.bind_some]
            exact evalHeadV_ok hcv rest ht g2
          · cases h
        · cases h
      · cases h
    · rename_i hq
      split at h
      · rename_i r hr
        split at h
        · rename_i t ht
          cases h
          obtain ⟨g1, g2⟩ := allb hc
          simp only [evalHeadR, hq, stepV_ok P S sy cv hcv hr g1, Option.bind_some]
          exact evalHeadV_ok hcv rest ht g2
        · cases h
      · cases h
end
/-- The first region of code. -/
def headId : PC → Option Nat
  | .ops id _ _ => some id
  | .ops2 id _ _ _ _ => some id
  | .seq a _ => headId a
  | .block _ a => headId a
  | .loop a => headId a
  | _ => none
section
variable {P : Program} {S : Specs} {F : Nat → List Nat}
end
end Go.Am
