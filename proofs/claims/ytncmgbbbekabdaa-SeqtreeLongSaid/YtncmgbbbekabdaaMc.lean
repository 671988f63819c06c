/- Written by merging: Sg Sh Si. -/
import Derived.Test.YtncmgbbbekabdaaMb
namespace Go.Proofs.Ytncmgbbbekabdaa
open Go Go.Am Go.RowKit
set_option maxRecDepth 100000
set_option linter.unusedVariables false
set_option linter.unusedSimpArgs false
/-- A function value over the ids. -/
def V15 (c : Nat) : AV := .fn 30 [] [.ptr (some (c, 0))]
theorem set_b0 (h l : AHeap) (x : AObj) : (h ++ l).set h.length x = h ++ l.set 0 x := by rw [List.set_append_right _ _ (Nat.le_refl _)]; simp
theorem set_b1 (h l : AHeap) (x : AObj) : (h ++ l).set (h.length + 1) x = h ++ l.set 1 x := by rw [List.set_append_right _ _ (by omega)]; simp
theorem get_b0 (h l : AHeap) : (h ++ l)[h.length]? = l[0]? := by rw [List.getElem?_append_right (Nat.le_refl _)]; simp
theorem get_b1 (h l : AHeap) : (h ++ l)[h.length + 1]? = l[1]? := by rw [List.getElem?_append_right (by omega)]; simp
theorem repl1 : List.replicate (0 + 1) AObj.hole = [.hole] := rfl
theorem repl2 : List.replicate (1 + 1) AObj.hole = [.hole, .hole] := rfl
/-- The ids of the tree at a pointer. -/
def TreeIds (h : AHeap) (p : AV) (zs : List Int) : Prop := (sNone [p] h = some (.bool true) ∧ zs = []) ∨
  ∃ k T m lk, p = .ptr (some (k, 0)) ∧ h[k]? = some (.row 58 3 [T.av, .map (some m), .int .i64 lk]) ∧ Rep h T ∧ zs = T.ids ∧ T.ids.length ≤ 1000000
theorem TreeIds.one {h : AHeap} {p : AV} {zs zs' : List Int} (h1 : TreeIds h p zs) (h2 : TreeIds h p zs') : zs = zs' := by
  have no : ∀ k T m lk, h[k]? = some (.row 58 3 [T, .map (some m), .int .i64 lk]) → sNone [.ptr (some (k, 0))] h ≠ some (.bool true) := fun k T m lk hk he => by
    simp only [sNone, hk] at he; cases he
  rcases h1 with ⟨a, rfl⟩ | ⟨k, T, m, lk, rfl, a2, a3, rfl, a5⟩
  · rcases h2 with ⟨_, rfl⟩ | ⟨k, T, m, lk, rfl, b2, _⟩
    · rfl
    · exact absurd a (no _ _ _ _ b2)
  · rcases h2 with ⟨b, rfl⟩ | ⟨k', T', m', lk', e, b2, b3, rfl, b5⟩
    · exact absurd b (no _ _ _ _ a2)
    · cases e
      rw [a2] at b2
      simp only [Option.some.injEq, AObj.row.injEq, true_and, List.cons.injEq] at b2
      rw [Rep.one a3 b3 b2.1]
theorem none_grow {h h' : AHeap} {p : AV} {b : AV} (hg : Grow h h') (hn : sNone [p] h = some b) : sNone [p] h' = some b := by
  have : p = .ptr none ∨ ∃ k, p = .ptr (some (k, 0)) := by
    unfold sNone at hn
    split at hn
    · rename_i he; cases he; exact .inl rfl
    · rename_i he; cases he; exact .inr ⟨_, rfl⟩
    · cases hn
  rcases this with rfl | ⟨k, rfl⟩
  · exact hn
  · simp only [sNone] at hn ⊢
    split at hn
    · rename_i hk; rw [hg _ _ hk]; exact hn
    · rename_i hk; rw [hg _ _ hk]; exact hn
    · cases hn
theorem TreeIds.grow {h h' : AHeap} {p : AV} {zs : List Int} (hg : Grow h h') (ht : TreeIds h p zs) : TreeIds h' p zs := by
  rcases ht with ⟨a, rfl⟩ | ⟨k, T, m, lk, rfl, a2, a3, rfl, a5⟩
  · exact .inl ⟨none_grow hg a, rfl⟩
  · exact .inr ⟨k, T, m, lk, rfl, hg _ _ a2, a3.mono fun j _ o ho => hg j o ho, rfl, a5⟩
/-- A function value over these ids. -/
def AllAt (h : AHeap) (c : Nat) (zs : List Int) : Prop := ∃ l, h[c]? = some (.row 39 1 [l]) ∧ SlI h l zs ∧ zs.length ≤ 1000000
theorem AllAt.grow {h h' : AHeap} {c : Nat} {zs : List Int} (hg : Grow h h') (ha : AllAt h c zs) : AllAt h' c zs := by
  obtain ⟨l, h1, h2, h3⟩ := ha
  exact ⟨l, hg _ _ h1, h2.mono fun j o _ ho => hg j o ho, h3⟩
theorem ints_inj : ∀ {zs zs' : List Int}, ints zs = ints zs' → zs = zs'
  | [], [], _ => rfl
  | [], _ :: _, h => by simp [ints] at h
  | _ :: _, [], h => by simp [ints] at h
  | a :: l, b :: l', h => by
    simp only [ints, List.map_cons, List.cons.injEq, AV.int.injEq, true_and] at h
    rw [h.1, ints_inj h.2]
theorem SlI.one {h : AHeap} {l : AV} {zs zs' : List Int} (h1 : SlI h l zs) (h2 : SlI h l zs') : zs = zs' := by
  rcases h1 with ⟨rfl, rfl⟩ | ⟨k, rfl, hk⟩
  · rcases h2 with ⟨_, rfl⟩ | ⟨k', e, hk'⟩
    · rfl
    · cases e
  · rcases h2 with ⟨e, _⟩ | ⟨k', e, hk'⟩
    · cases e
    · simp only [AV.sl.injEq, Option.some.injEq, Prod.mk.injEq, and_true] at e
      obtain ⟨rfl, _⟩ := e
      rw [hk] at hk'
      simp only [Option.some.injEq, AObj.row.injEq, true_and] at hk'
      exact ints_inj hk'
theorem AllAt.one {h : AHeap} {c : Nat} {zs zs' : List Int} (h1 : AllAt h c zs) (h2 : AllAt h c zs') : zs = zs' := by
  obtain ⟨l, a1, a2, _⟩ := h1
  obtain ⟨l', b1, b2, _⟩ := h2
  rw [a1] at b1
  simp only [Option.some.injEq, AObj.row.injEq, true_and, List.cons.injEq, and_true] at b1
  subst b1
  exact a2.one b2
theorem ints_get {zs : List Int} {j : Nat} {z : Int} (h : zs[j]? = some z) : (ints zs)[j]? = some (.int .i64 z) := by simp [ints, h]
theorem SlI.src {h : AHeap} {l : AV} {zs : List Int} (hs : SlI h l zs) : (l = .sl none 0 (.fix 0) ∧ zs = []) ∨ ∃ k q cp cs, l = .sl (some (k, q)) zs.length cp ∧ cellsAt h k = some cs ∧ ∀ (j : Nat) (z : Int), zs[j]? = some z → cs[q + j]? = some (.int .i64 z) := by
  rcases hs with hs | ⟨k, rfl, hk⟩
  · exact .inl hs
  · exact .inr ⟨k, 0, _, ints zs, rfl, by simp only [cellsAt, hk, Option.bind_some, objCells], fun j z hj => by rw [Nat.zero_add]; exact ints_get hj⟩

end Go.Proofs.Ytncmgbbbekabdaa
