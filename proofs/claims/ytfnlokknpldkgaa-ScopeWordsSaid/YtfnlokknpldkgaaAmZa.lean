/- Symbolic runs: a path is told by hints, and what it asks is gathered as conditions. -/
import Derived.Test.YtfnlokknpldkgaaAmY
set_option linter.unusedVariables false
set_option linter.unusedSimpArgs false
namespace Go.Am
open Go Go.RowKit
/-- What a truth value is told to be; 'lit': it is seen. -/
inductive Hint where
  | lit
  | is (b : Bool)
def boundV (d lim : Nat) : Option AV → Option (Nat × List Bool)
  | none => some (d, [])
  | some (.int _ i) => some (i.toNat, [decide (0 ≤ i), decide (i ≤ lim)])
  | _ => none
theorem boundV_ok {d lim : Nat} {a : Option AV} {r : Nat × List Bool} (h : boundV d lim a = some r) (hc : r.2.all id = true) : boundA d lim a = some r.1 := by
  unfold boundV at h
  split at h
  · cases h; rfl
  · cases h
    simp only [List.all_cons, List.all_nil, id, Bool.and_true, Bool.and_eq_true, decide_eq_true_eq] at hc
    simp only [boundA]
    rw [if_pos hc]
  · cases h
def byteD : AV → UInt8
  | .int _ n => UInt8.ofNat n.toNat
  | _ => 0
def bytesOf (l : List AV) : List UInt8 := l.map byteD
theorem bytesOf_ok : ∀ l : List AV, l.all (isInt .u8) = true → l.mapM byteOfA = some (bytesOf l)
  | [], _ => rfl
  | x :: l, h => by
    simp only [List.all_cons, Bool.and_eq_true] at h
    obtain ⟨ha, hb⟩ := h
    rw [List.mapM_cons, bytesOf_ok l hb]
    cases x <;> first | cases ha | skip
    rename_i k m
    have hk : k = .u8 := by simpa [isInt] using ha
    subst hk
    rfl
abbrev Sy := Nat → Option IntKind
/-- Calls whose contracts ask something. -/
abbrev CV := FuncId → List AV → AHeap → Option ((AV × AHeap) × List Bool)
def CV.OK (S : Specs) (cv : CV) : Prop := ∀ g vs h r c, cv g vs h = some (r, c) → c.all id = true →
  (match S.q g with | some sp => (sp vs h).map (·, h) | none => (S.f g).bind fun sp => sp vs h) = some r
section
variable (P : Program) (S : Specs) (sy : Sy)
def viewV (h : AHeap) (E : Operand → Option AV) : RI → Option (AV × List Bool)
  | .indexS x i => match E x, E i with
    | some (.str s), some (.int _ n) => some (.int .u8 ((s.getD n.toNat 0).toNat : Nat), [decide (0 ≤ n), decide (n.toNat < s.length)])
    | _, _ => none
  | .atA n s x i => match E x, E i with
    | some (.ptr (some (k, o))), some (.int _ i) => some (.ptr (some (k, o + i.toNat * s)), [decide (0 ≤ i), decide (i < n)])
    | _, _ => none
  | .atL s x i => match E x, E i with
    | some (.sl (some (k, o)) len _), some (.int _ i) => some (.ptr (some (k, o + i.toNat * s)), [decide (0 ≤ i), decide (i < len)])
    | _, _ => none
  | .load none x => match E x with
    | some (.ptr (some (k, o))) => match sy k with
      | some kd => (cellsAt h k).map fun cs => (.int kd (dec cs o), [decide (o < cs.length), cs.all (isInt kd)])
      | none => none
    | _ => none
  | .load (some n) x => match E x with
    | some (.ptr (some (k, o))) => match sy k with
      | some kd => (cellsAt h k).map fun cs => (.agg ((cs.drop o).take n), [decide (o + n ≤ cs.length)])
      | none => none
    | _ => none
  | .sliceS x lo hi => match E x with
    | some (.str s) => (optA E lo).bind fun l => (optA E hi).bind fun u => (boundV s.length s.length u).bind fun u => (boundV 0 u.1 l).map fun l => (.str ((s.take u.1).drop l.1), u.2 ++ l.2)
    | _ => none
  | .sliceL s x lo hi => match E x with
    | some (.sl (some (k, o)) len c) => (optA E lo).bind fun l => (optA E hi).bind fun u => (boundV len len u).bind fun u => (boundV 0 u.1 l).map fun l =>
      match c with
      | .fix n => match lo with
        | none => (.sl (some (k, o)) u.1 (.fix n), u.2 ++ l.2 ++ [decide (l.1 = 0)])
        | some _ => (.sl (some (k, if l.1 = n then o else o + l.1 * s)) (u.1 - l.1) (.fix (n - l.1)), u.2 ++ l.2)
      | .rel i => match lo with
        | none => (.sl (some (k, o)) u.1 (.rel i), u.2 ++ l.2 ++ [decide (l.1 = 0)])
        | some _ => (.sl (some (k, o + l.1 * s)) (u.1 - l.1) (.rel (i + l.1)), u.2 ++ l.2 ++ [decide (l.1 < len)])
    | _ => none
  | .sliceA n s x lo hi => match E x with
    | some (.ptr (some (k, o))) => (optA E lo).bind fun l => (optA E hi).bind fun u => (boundV n n u).bind fun u => (boundV 0 u.1 l).map fun l =>
      match lo with
        | none => (.sl (some (k, o)) u.1 (.fix n), u.2 ++ l.2 ++ [decide (l.1 = 0)])
        | some _ => (.sl (some (k, if l.1 = n then o else o + l.1 * s)) (u.1 - l.1) (.fix (n - l.1)), u.2 ++ l.2)
    | _ => none
  | .toArr n x => match E x with
    | some (.sl (some a) len _) => some (.ptr (some a), [decide (n ≤ len)])
    | _ => none
  | .toStr x => match E x with
    | some (.sl (some (k, o)) len _) => (cellsAt h k).map fun cs => (.str (bytesOf ((cs.drop o).take len)), [decide (o + len ≤ cs.length), ((cs.drop o).take len).all (isInt .u8)])
    | _ => none
  | .bin .add x y => match E x, E y with
    | some (.str a), some (.str b) => some (.str (a ++ b), [decide (a.length + b.length ≤ 9223372036854775807)])
    | _, _ => none
  | _ => none
theorem allb {a b : List Bool} (h : (a ++ b).all id = true) : a.all id = true ∧ b.all id = true := by
  rw [List.all_append, Bool.and_eq_true] at h; exact h
theorem viewV_ok {h : AHeap} {E : Operand → Option AV} {ri : RI} {v : AV} {cs : List Bool} (hv : viewV sy h E ri = some (v, cs)) (hc : cs.all id = true) : pureR P h E ri = some v ∧ ri.isPure = true := by
  unfold viewV at hv
  split at hv
  · -- indexS
    rename_i x i
    split at hv
    · rename_i s _ n h1 h2
      cases hv
      simp only [List.all_cons, List.all_nil, id, Bool.and_true, Bool.and_eq_true, decide_eq_true_eq] at hc
      refine ⟨?_, rfl⟩
      simp only [pureR, h1, h2, if_pos hc.1]
      rw [List.getElem?_eq_getElem hc.2, List.getD_eq_getElem?_getD, List.getElem?_eq_getElem hc.2]
      rfl
    · cases hv
  · rename_i n s x i
    split at hv
    · rename_i k o _ i h1 h2
      cases hv
      simp only [List.all_cons, List.all_nil, id, Bool.and_true, Bool.and_eq_true, decide_eq_true_eq] at hc
      refine ⟨?_, rfl⟩
      simp only [pureR, h1, h2, if_pos hc]
    · cases hv
  · rename_i s x i
    split at hv
    · rename_i k o len _ _ i h1 h2
      cases hv
      simp only [List.all_cons, List.all_nil, id, Bool.and_true, Bool.and_eq_true, decide_eq_true_eq] at hc
      refine ⟨?_, rfl⟩
      simp only [pureR, h1, h2, if_pos hc]
    · cases hv
  · rename_i x
    split at hv
    · rename_i k o h1
      split at hv
      · rename_i kd hk
        simp only [Option.map_eq_some_iff] at hv
        obtain ⟨cs, h2, h3⟩ := hv
        cases h3
        simp only [List.all_cons, List.all_nil, id, Bool.and_true, Bool.and_eq_true, decide_eq_true_eq] at hc
        refine ⟨?_, rfl⟩
        simp only [pureR, h1, h2, Option.bind_some, partR]
        obtain ⟨c1, c2⟩ := hc
        rw [List.getElem?_eq_getElem c1]
        have := List.all_eq_true.1 c2 cs[o] (List.getElem_mem c1)
        simp only [dec, List.getElem?_eq_getElem c1]
        generalize cs[o] = y at this
        cases y <;> first | cases this | skip
        rename_i k' m
        have hk : k' = kd := by simpa [isInt] using this
        subst hk
        rfl
      · cases hv
    · cases hv
  · rename_i n x
    split at hv
    · rename_i k o h1
      split at hv
      · rename_i kd hk
        simp only [Option.map_eq_some_iff] at hv
        obtain ⟨cs, h2, h3⟩ := hv
        cases h3
        simp only [List.all_cons, List.all_nil, id, Bool.and_true, decide_eq_true_eq] at hc
        refine ⟨?_, rfl⟩
        simp only [pureR, h1, h2, Option.bind_some, partR, if_pos hc]
      · cases hv
    · cases hv
  · rename_i x lo hi
    split at hv
    · rename_i s h1
      simp only [Option.bind_eq_some_iff, Option.map_eq_some_iff] at hv
      obtain ⟨l, hl, u, hu, u1, hu1, l1, hl1, hx⟩ := hv
      cases hx
      obtain ⟨g1, g2⟩ := allb hc
      refine ⟨?_, rfl⟩
      simp only [pureR, h1, hl, hu, Option.bind_some, boundV_ok hu1 g1, boundV_ok hl1 g2, Option.map_some]
    · cases hv
  · rename_i s x lo hi
    split at hv
    · rename_i k o len c h1
      simp only [Option.bind_eq_some_iff, Option.map_eq_some_iff] at hv
      obtain ⟨l, hl, u, hu, u1, hu1, l1, hl1, hx⟩ := hv
      cases c with
      | fix n =>
        cases lo with
        | none =>
          simp only [Prod.mk.injEq] at hx
          obtain ⟨rfl, rfl⟩ := hx
          obtain ⟨g, g3⟩ := allb hc
          obtain ⟨g1, g2⟩ := allb g
          simp only [List.all_cons, List.all_nil, id, Bool.and_true, decide_eq_true_eq] at g3
          refine ⟨?_, rfl⟩
          simp only [pureR, h1, hl, hu, Option.bind_some, boundV_ok hu1 g1, boundV_ok hl1 g2, Option.map_some, g3, Nat.zero_mul, Nat.add_zero, ite_self, Nat.sub_zero]
        | some q =>
          simp only [Prod.mk.injEq] at hx
          obtain ⟨rfl, rfl⟩ := hx
          obtain ⟨g1, g2⟩ := allb hc
          refine ⟨?_, rfl⟩
          simp only [pureR, h1, hl, hu, Option.bind_some, boundV_ok hu1 g1, boundV_ok hl1 g2, Option.map_some]
      | rel i =>
        cases lo with
        | none =>
          simp only [Prod.mk.injEq] at hx
          obtain ⟨rfl, rfl⟩ := hx
          obtain ⟨g, g3⟩ := allb hc
          obtain ⟨g1, g2⟩ := allb g
          simp only [List.all_cons, List.all_nil, id, Bool.and_true, decide_eq_true_eq] at g3
          refine ⟨?_, rfl⟩
          simp only [pureR, h1, hl, hu, Option.bind_some, boundV_ok hu1 g1, boundV_ok hl1 g2, Option.map_some, g3, if_true]
        | some q =>
          simp only [Prod.mk.injEq] at hx
          obtain ⟨rfl, rfl⟩ := hx
          obtain ⟨g, g3⟩ := allb hc
          obtain ⟨g1, g2⟩ := allb g
          simp only [List.all_cons, List.all_nil, id, Bool.and_true, decide_eq_true_eq] at g3
          refine ⟨?_, rfl⟩
          simp only [pureR, h1, hl, hu, Option.bind_some, boundV_ok hu1 g1, boundV_ok hl1 g2, Option.map_some, g3, if_true]
          split
          · rename_i h0; rw [h0]; simp
          · rfl
    · cases hv
  · rename_i n s x lo hi
    split at hv
    · rename_i k o h1
      simp only [Option.bind_eq_some_iff, Option.map_eq_some_iff] at hv
      obtain ⟨l, hl, u, hu, u1, hu1, l1, hl1, hx⟩ := hv
      cases lo with
      | none =>
        simp only [Prod.mk.injEq] at hx
        obtain ⟨rfl, rfl⟩ := hx
        obtain ⟨g, g3⟩ := allb hc
        obtain ⟨g1, g2⟩ := allb g
        simp only [List.all_cons, List.all_nil, id, Bool.and_true, decide_eq_true_eq] at g3
        refine ⟨?_, rfl⟩
        simp only [pureR, h1, hl, hu, Option.bind_some, boundV_ok hu1 g1, boundV_ok hl1 g2, Option.map_some, g3, Nat.zero_mul, Nat.add_zero, ite_self, Nat.sub_zero]
      | some q =>
        simp only [Prod.mk.injEq] at hx
        obtain ⟨rfl, rfl⟩ := hx
        obtain ⟨g1, g2⟩ := allb hc
        refine ⟨?_, rfl⟩
        simp only [pureR, h1, hl, hu, Option.bind_some, boundV_ok hu1 g1, boundV_ok hl1 g2, Option.map_some]
    · cases hv
  · rename_i n x
    split at hv
    · rename_i a len _ h1
      cases hv
      simp only [List.all_cons, List.all_nil, id, Bool.and_true, decide_eq_true_eq] at hc
      refine ⟨?_, rfl⟩
      simp only [pureR, h1, if_pos hc]
    · cases hv
  · rename_i x
    split at hv
    · rename_i k o len _ h1
      simp only [Option.map_eq_some_iff] at hv
      obtain ⟨cs, h2, h3⟩ := hv
      cases h3
      simp only [List.all_cons, List.all_nil, id, Bool.and_true, Bool.and_eq_true, decide_eq_true_eq] at hc
      refine ⟨?_, rfl⟩
      simp only [pureR, h1, h2, Option.bind_some, if_pos hc.1, bytesOf_ok _ hc.2, Option.map_some]
    · cases hv
  · rename_i x y
    split at hv
    · rename_i a b h1 h2
      cases hv
      simp only [List.all_cons, List.all_nil, id, Bool.and_true, decide_eq_true_eq] at hc
      refine ⟨?_, rfl⟩
      simp only [pureR, h1, h2, Option.bind_some, strOp, hc, if_true]
    · cases hv
  · cases hv
def sourceV (h : AHeap) (sz : Nat) : AV → Option (Nat × List AV × List Bool)
  | .sl none 0 _ => some (0, [], [])
  | .slE _ _ _ _ _ => some (0, [], [])
  | .sl (some (k, o)) m _ => (cellsAt h k).map fun cs => (m, (cs.drop o).take (m * sz), [decide (o + m * sz ≤ cs.length)])
  | .str s => if sz = 1 then some (s.length, s.map fun b => .int .u8 b.toNat, []) else none
  | _ => none
theorem sourceV_ok {h : AHeap} {sz : Nat} {v : AV} {r : Nat × List AV × List Bool} (hv : sourceV h sz v = some r) (hc : r.2.2.all id = true) : sourceA h sz v = some (r.1, r.2.1) := by
  unfold sourceV at hv
  split at hv
  · cases hv; rfl
  · cases hv; rfl
  · simp only [Option.map_eq_some_iff] at hv
    obtain ⟨cs, h2, rfl⟩ := hv
    simp only [List.all_cons, List.all_nil, id, Bool.and_true, decide_eq_true_eq] at hc
    simp only [sourceA, h2, Option.bind_some, if_pos hc]
  · split at hv
    · rename_i h1; cases hv; simp only [sourceA, if_pos h1]
    · cases hv
  · cases hv
def allocV (E : Operand → Option AV) (k : Nat) : RI → Option ((AV × AObj) × List Bool)
  | .mslice e s b z l c => match E l, E c with
    | some (.int _ l), some (.int _ c) => some ((.sl (some (k, 0)) l.toNat (.rel 0), .row e s (rangeCells z.cells (l.toNat * s))), [decide (0 ≤ l), decide (l ≤ c), decide ((b : Int) * c ≤ 281474976710656), decide (c ≤ 9223372036854775807)])
    | _, _ => none
  | .toBytes x => match E x with
    | some (.str b) => some ((.sl (some (k, 0)) b.length (.rel 0), .ro (b.map fun x => .int .u8 x.toNat)), [])
    | _ => none
  | ri => if ri.isAlloc && !ri.isPure then (allocR E k ri).map fun r => (r, []) else none
theorem allocV_ok {E : Operand → Option AV} {k : Nat} {ri : RI} {r : (AV × AObj) × List Bool} (hv : allocV E k ri = some r) (hc : r.2.all id = true) : allocR E k ri = some r.1 ∧ ri.isPure = false ∧ ri.isAlloc = true := by
  unfold allocV at hv
  split at hv
  · split at hv
    · rename_i l _ c h1 h2
      cases hv
      simp only [List.all_cons, List.all_nil, id, Bool.and_true, Bool.and_eq_true, decide_eq_true_eq] at hc
      refine ⟨?_, rfl, rfl⟩
      simp only [allocR, h1, h2]
      rw [if_pos hc]
    · cases hv
  · split at hv
    · rename_i b h1
      cases hv
      exact ⟨by simp only [allocR, h1], rfl, rfl⟩
    · cases hv
  · split at hv
    · rename_i h1
      simp only [Option.map_eq_some_iff] at hv
      obtain ⟨r', h2, rfl⟩ := hv
      simp only [Bool.and_eq_true, Bool.not_eq_true'] at h1
      exact ⟨h2, h1.2, h1.1⟩
    · cases hv
variable (cv : CV)
end
/-- The first region of code. -/
def headId : PC → Option Nat
  | .ops id _ _ => some id
  | .ops2 id _ _ _ _ => some id
  | .ops3 id _ _ _ _ => some id
  | .seq a _ => headId a
  | .block _ a => headId a
  | .loop a => headId a
  | _ => none
section
variable {P : Program} {S : Specs} {F : Nat → List Nat}
end
end Go.Am
