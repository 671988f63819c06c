/- Sections as data; contracts of functions over sections. -/
import Derived.Test.YtcigcknagbjlbaaDoorPaA
namespace Go.Proofs.YtcigcknagbjlbaaDoor
open Go Go.Am
set_option maxRecDepth 100000
set_option linter.unusedVariables false
set_option linter.unusedSimpArgs false

/-- A section, as far as it is looked at. -/
structure Sc where
  p : Int
  d : Int
  nm : List UInt8
  m : Int
  ia : Option Addr
  il : Nat
  ic : Nat
def Sc.cells (s : Sc) : List AV := [.int .i64 s.p, .int .i64 s.d, .str s.nm, .int .i64 s.m, .ext s.ia s.il s.ic]
def cellsOf (L : List Sc) : List AV := L.flatMap Sc.cells
def decL : List AV → List Sc
  | .int .i64 p :: .int .i64 d :: .str nm :: .int .i64 m :: .ext ia il ic :: r => ⟨p, d, nm, m, ia, il, ic⟩ :: decL r
  | _ => []
theorem decL_cells : ∀ L : List Sc, decL (cellsOf L) = L
  | [] => rfl
  | s :: L => by
    have e : cellsOf (s :: L) = s.cells ++ cellsOf L := rfl
    rw [e]
    show ⟨s.p, s.d, s.nm, s.m, s.ia, s.il, s.ic⟩ :: decL (cellsOf L) = s :: L
    rw [decL_cells L]
theorem cells_length (L : List Sc) : (cellsOf L).length = L.length * 5 := by
  induction L with
  | nil => rfl
  | cons s L ih =>
    have e : cellsOf (s :: L) = s.cells ++ cellsOf L := rfl
    rw [e, List.length_append, ih]
    simp [Sc.cells]; omega
theorem cells_closed (L : List Sc) : AV.refsL (fun _ => false) (fun _ => 0) (cellsOf L) = true := by
  induction L with
  | nil => rfl
  | cons s L ih =>
    have e : cellsOf (s :: L) = s.cells ++ cellsOf L := rfl
    rw [e, refsL_eq, List.all_append, ← refsL_eq, ← refsL_eq, ih]
    rfl
theorem cells_at {L : List Sc} {i : Nat} {s : Sc} (h : L[i]? = some s) : ((cellsOf L).drop (i * 5)).take 5 = s.cells := by
  induction L generalizing i with
  | nil => simp at h
  | cons x L ih =>
    have e : cellsOf (x :: L) = x.cells ++ cellsOf L := rfl
    rw [e]
    cases i with
    | zero => simp only [List.getElem?_cons_zero, Option.some.injEq] at h; subst h; simp [Sc.cells]
    | succ i =>
      simp only [List.getElem?_cons_succ] at h
      have := ih h
      have hl : x.cells.length = 5 := rfl
      rw [List.drop_append, List.drop_eq_nil_of_le (by omega), hl, show (i + 1) * 5 - 5 = i * 5 by omega, List.nil_append]
      exact this
theorem cell_at {L : List Sc} {i j : Nat} {s : Sc} (h : L[i]? = some s) (hj : j < 5) : (cellsOf L)[i * 5 + j]? = s.cells[j]? := by
  have := cells_at h
  have h2 := congrArg (·[j]?) this
  simp only [List.getElem?_take_of_lt hj, List.getElem?_drop] at h2
  exact h2
theorem lt_len {L : List Sc} {i : Nat} {s : Sc} (h : L[i]? = some s) : i < L.length := by
  rcases Nat.lt_or_ge i L.length with q | q
  · exact q
  · simp [List.getElem?_eq_none q] at h

/-- A function of the sections in a slice and of plain values. -/
noncomputable def secS (F : List Sc → List AV → Option AV) (args : List AV) (h : AHeap) : Option AV := match args with
  | .sl none 0 (.fix 0) :: rest => if rest.all AV.closed then F [] rest else none
  | .sl (some (k, 0)) n (.fix c) :: rest => if rest.all AV.closed then (match h[k]? with
    | some (.ro cs) => @ite _ (∃ L : List Sc, cs = cellsOf L ∧ n ≤ L.length ∧ n ≤ 100) (Classical.propDecidable _) (F ((decL cs).take n) rest) none
    | _ => none) else none
  | _ => none

theorem imp_one {d : Nat} {h : AHeap} {k n : Nat} {c : ACap} {rest : List AV} {cs : List AV} (hk : h[k]? = some (.ro cs)) (hc : AV.refsL (fun _ => false) (fun _ => 0) cs = true) (hr : rest.all AV.closed = true) :
    impD d h (.sl (some (k, 0)) n c :: rest) = some (.sl (some (0, 0)) n c :: rest, [.ro cs]) := by
  have hcl := closedL hr
  have hd : h.getD k .dead = .ro cs := by rw [List.getD_eq_getElem?_getD, hk]; rfl
  have hn : (AObj.ro cs).names = [] := closed_names hc
  have hreach : reachK d h (.sl (some (k, 0)) n c :: rest) = [k] := by
    unfold reachK
    have e : AV.namesL (.sl (some (k, 0)) n c :: rest) = [k] := by
      show (AV.sl (some (k, 0)) n c).names ++ AV.namesL rest = [k]
      rw [namesL_refs0 _ hcl]; rfl
    rw [e]
    have : ∀ d, closeK d h [k] = [k] := fun d => by
      induction d with
      | zero => rfl
      | succ d ih =>
        simp only [closeK, List.flatMap_cons, List.flatMap_nil, hd, hn, List.append_nil]
        exact ih
    rw [show ([k].eraseDups) = [k] by simp [List.eraseDups_cons]]
    exact this d
  unfold impD
  rw [hreach]
  have hren : ∀ σ, renObj σ (.ro cs) = .ro cs := fun σ => closed_ren hc
  simp only [List.nodup_cons, List.not_mem_nil, not_false_eq_true, List.nodup_nil, and_self, decide_true, if_true, AV.renL, AV.ren, List.idxOf?_cons, BEq.rfl, Option.map_some, renL_closed _ hcl, List.map_cons, List.map_nil, hd, hren]
  rfl

/-- **A contract of a function over sections, out of what its code comes to over them.** -/
theorem sec_ok {f : FuncId} {fn : Func} (hf : HasText Tryd.prog f fn) {F : List Sc → List AV → Option AV}
    (hF : ∀ L n c rest v, n ≤ L.length → n ≤ 100 → rest.all AV.closed = true → F (L.take n) rest = some v → v.closed = true ∧ ∃ h', CallSem Tryd.prog f (.sl (some (0, 0)) n (.fix c) :: rest) [.ro (cellsOf L)] v h')
    (hF0 : ∀ rest v, rest.all AV.closed = true → F [] rest = some v → v.closed = true ∧ ∃ h', CallSem Tryd.prog f (.sl none 0 (.fix 0) :: rest) [] v h') : QuietOK Tryd.prog f (secS F) := by
  have h1 := quiet_of_sem hf 0 (g := fun args hp => match args, hp with
      | .sl none 0 (.fix 0) :: rest, [] => if rest.all AV.closed then F [] rest else none
      | .sl (some (0, 0)) n (.fix c) :: rest, [.ro cs] => if rest.all AV.closed then @ite _ (∃ L : List Sc, cs = cellsOf L ∧ n ≤ L.length ∧ n ≤ 100) (Classical.propDecidable _) (F ((decL cs).take n) rest) none else none
      | _, _ => none) (fun args hp v hv => by
    split at hv
    · split at hv
      · rename_i hr; exact hF0 _ v hr hv
      · cases hv
    · split at hv
      · rename_i hr
        split at hv
        · rename_i hL
          obtain ⟨L, rfl, hn, hn2⟩ := hL
          rw [decL_cells] at hv
          exact hF L _ _ _ v hn hn2 hr hv
        · cases hv
      · cases hv
    · cases hv)
  refine ⟨fun args h v hv ρ B w0 w hI hok => h1.1 args h v ?_ ρ B w0 w hI hok, fun args h k o hk ha => ?_, h1.2.2⟩
  · unfold secS at hv
    split at hv
    · split at hv
      · rename_i rest hr
        have e : impD 0 h (.sl none 0 (.fix 0) :: rest) = some (.sl none 0 (.fix 0) :: rest, []) := imp_closed (by rw [List.all_cons, hr]; rfl)
        show (impD 0 h _).bind _ = some v
        rw [e]
        simp only [Option.bind_some, hr, if_true]
        exact hv
      · cases hv
    · split at hv
      · rename_i hr
        split at hv
        · rename_i cs hk
          split at hv
          · rename_i hL
            obtain ⟨L, rfl, hn, hn2⟩ := hL
            show (impD 0 h _).bind _ = some v
            rw [imp_one hk (cells_closed L) hr]
            simp only [Option.bind_some, hr, if_true]
            rw [if_pos ⟨L, rfl, hn, hn2⟩]
            exact hv
          · cases hv
        · cases hv
      · cases hv
    · cases hv
  · unfold secS
    split
    · rfl
    · rename_i k' n c rest
      have hne : k' ≠ k := fun e => by
        subst e
        obtain ⟨ρ, h2, _⟩ := ha
        have := h2 _ List.mem_cons_self
        simp only [AV.ok, AV.refs, Bool.and_eq_true] at this
        simp [live, hk, AObj.there] at this
      rw [List.getElem?_set_ne (fun e => hne e.symm)]
    · rfl
end Go.Proofs.YtcigcknagbjlbaaDoor
