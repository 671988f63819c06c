/- Appends of one element, on any memory. -/
import Derived.Test.YtiijphmpkmmpjaaAmY
set_option linter.unusedVariables false
set_option linter.unusedSimpArgs false
namespace Go.Am
open Go Go.RowKit
section
variable {P : Program} {S : Specs}
theorem hole_at (h : AHeap) (r : List AObj) : isHole (h ++ .hole :: r) h.length = true := by
  unfold isHole
  rw [List.getElem?_append_right (Nat.le_refl _)]
  simp
theorem set_at (h : AHeap) (x y : AObj) (r : List AObj) : (h ++ x :: r).set h.length y = h ++ y :: r := by
  rw [List.set_append_right _ _ (Nat.le_refl _)]
  simp
/-- A literal of one number. -/
theorem step_bslice1 {h : AHeap} {r : List AObj} {env : List AV} {e : TypeId} {kk : IntKind} {m : Int} {x : Operand} {t1 : Tmp} (hx : evalOperand env x = some (.int kk m)) :
    stepR P S h.length ⟨some t1, .bslice e 1 1 (.int kk 0) [(0, x)], none⟩ (env, h ++ .hole :: r) = some (env.set t1 (.sl (some (h.length, 0)) 1 (.rel 0)), h ++ .row e 1 [.int kk m] :: r) := by
  have ha : allocR (evalOperand env) h.length (.bslice e 1 1 (.int kk 0) [(0, x)]) = some (.sl (some (h.length, 0)) 1 (.rel 0), .row e 1 [.int kk m]) := by
    simp [allocR, partsA, hx, fillA, rangeCells, AV.cells, AV.plain, AV.one, List.range, List.range.loop]
  simp only [stepR, wantedR, RI.isPure, RI.isAlloc, Bool.false_eq_true, if_false, if_true, hole_at, ha, put, set_at]
/-- One number behind a row of the call's own. -/
theorem step_append1 {h : AHeap} {env : List AV} {e : TypeId} {kk : IntKind} {m : Int} {a x : Operand} {t2 : Tmp} {k n b : Nat} {cs : List AV}
    (ha : evalOperand env a = some (.sl (some (k, 0)) n (.rel 0))) (hx : evalOperand env x = some (.sl (some (h.length, 0)) 1 (.rel 0))) (hk : h[k]? = some (.row e 1 cs)) (hn : cs.length = n) (hb : (n + 1) * b ≤ 140737488355328) (hb2 : n + 1 ≤ 9223372036854775807) :
    stepR P S (h.length + 1) ⟨some t2, .append e 1 b a x, none⟩ (env, h ++ [.row e 1 [.int kk m], .hole]) = some (env.set t2 (.sl (some (h.length + 1, 0)) (n + 1) (.rel 0)), h.set k .dead ++ [.row e 1 [.int kk m], .row e 1 (cs ++ [.int kk m])]) := by
  have hklt : k < h.length := by
    rcases Nat.lt_or_ge k h.length with q | q
    · exact q
    · simp [List.getElem?_eq_none q] at hk
  have hole1 : isHole (h ++ [.row e 1 [.int kk m], .hole]) (h.length + 1) = true := by
    have := hole_at (h ++ [.row e 1 [.int kk m]]) []
    simpa using this
  have hsrc : sourceA (h ++ [.row e 1 [.int kk m], .hole]) 1 (.sl (some (h.length, 0)) 1 (.rel 0)) = some (1, [.int kk m]) := by
    simp [sourceA, cellsAt, objCells]
  have hk' : (h ++ [AObj.row e 1 [.int kk m], .hole])[k]? = some (.row e 1 cs) := by
    rw [List.getElem?_append_left hklt]; exact hk
  have he : effR P (h ++ [.row e 1 [.int kk m], .hole]) (evalOperand env) (h.length + 1) (.append e 1 b a x) = some (some (.sl (some (h.length + 1, 0)) (n + 1) (.rel 0)), h.set k .dead ++ [.row e 1 [.int kk m], .row e 1 (cs ++ [.int kk m])]) := by
    simp only [effR, ha, hx, Option.bind_some, hsrc, List.all_cons, List.all_nil, AV.one, Bool.and_self, if_true, hk', Nat.mul_one]
    rw [if_pos ⟨trivial, trivial, hn, hb, hb2⟩]
    congr 2
    rw [List.set_append_left _ _ hklt]
    have h1 : (h.set k AObj.dead).length = h.length := by simp
    have := set_at (h.set k .dead ++ [.row e 1 [.int kk m]]) .hole (.row e 1 (cs ++ [.int kk m])) []
    simp only [List.append_assoc, List.length_append, List.length_cons, List.length_nil, h1, List.cons_append, List.nil_append, Nat.zero_add] at this
    exact this
  simp only [stepR, wantedR, RI.isPure, RI.isAlloc, Bool.false_eq_true, if_false, if_true, hole1, allocR, he, Option.map_some, put, Option.getD_some]
/-- A number put behind a row of the call's own: literal, append, move. -/
theorem ops_push {h : AHeap} {env : List AV} {e : TypeId} {kk : IntKind} {m : Int} {x : Operand} {ta t1 t2 t3 : Tmp} {k n b : Nat} {cs : List AV} (hx : evalOperand env x = some (.int kk m))
    (ha : evalOperand (env.set t1 (.sl (some (h.length, 0)) 1 (.rel 0))) (.tmp ta) = some (.sl (some (k, 0)) n (.rel 0))) (h1 : evalOperand (env.set t1 (.sl (some (h.length, 0)) 1 (.rel 0))) (.tmp t1) = some (.sl (some (h.length, 0)) 1 (.rel 0)))
    (h2 : evalOperand ((env.set t1 (.sl (some (h.length, 0)) 1 (.rel 0))).set t2 (.sl (some (h.length + 1, 0)) (n + 1) (.rel 0))) (.tmp t2) = some (.sl (some (h.length + 1, 0)) (n + 1) (.rel 0)))
    (hk : h[k]? = some (.row e 1 cs)) (hn : cs.length = n) (hb : (n + 1) * b ≤ 140737488355328) (hb2 : n + 1 ≤ 9223372036854775807) :
    evalOpsR P S h.length [⟨some t1, .bslice e 1 1 (.int kk 0) [(0, x)], none⟩, ⟨some t2, .append e 1 b (.tmp ta) (.tmp t1), none⟩, ⟨some t3, .mov (.tmp t2), none⟩] (env, h ++ [.hole, .hole]) =
      some ((((env.set t1 (.sl (some (h.length, 0)) 1 (.rel 0))).set t2 (.sl (some (h.length + 1, 0)) (n + 1) (.rel 0))).set t3 (.sl (some (h.length + 1, 0)) (n + 1) (.rel 0))), h.set k .dead ++ [.row e 1 [.int kk m], .row e 1 (cs ++ [.int kk m])]) := by
  refine ops_cons (step_bslice1 (r := [.hole]) hx) ?_
  simp only [RI.isAlloc, if_true]
  refine ops_cons (step_append1 ha h1 hk hn hb hb2) ?_
  simp only [RI.isAlloc, if_true]
  refine ops_cons (step_pure (v := .sl (some (h.length + 1, 0)) (n + 1) (.rel 0)) rfl h2) ?_
  rfl
end
end Go.Am
