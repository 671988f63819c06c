/- Written by merging: Uf Ug Uh Uk. -/
import Derived.Test.YtncmgbbbekabdaaMj
import Derived.Test.YtncmgbbbekabdaaMd
import Derived.OpenShut
import Derived.WideShapes
namespace Go.Proofs.Ytncmgbbbekabdaa
open Go Go.Am Go.RowKit Go.WideShapes
set_option maxRecDepth 100000
set_option linter.unusedVariables false
set_option linter.unusedSimpArgs false

/-- The places: at, id, to, the tree; the script and how far it is gone through. -/
def e4 (sl : AV) (n : Nat) (a d o : Int) (t : Nat) (i : Int) : List AV := envOf 101 [(1, .int .i64 a), (2, .int .i64 d), (3, .int .i64 o), (9, .ptr (some (t, 0))), (28, sl), (29, .int .i64 n), (30, .int .i64 i)]
def x4 (a d o : Int) (t : Nat) : List AV := envOf 101 [(1, .int .i64 a), (2, .int .i64 d), (3, .int .i64 o), (9, .ptr (some (t, 0)))]
def r4 (a d o : Int) (t w c : Nat) : List AV := envOf 101 [(1, .int .i64 a), (2, .int .i64 d), (3, .int .i64 o), (9, .ptr (some (t, 0))), (12, .ptr (some (w, 0))), (41, .ptr (some (t, 0))), (42, V15 c)]
def T4 (sl : AV) (n : Nat) (a d o : Int) (X Y : AHeap → Nat → Prop) (st : St) (K : AExit → St → Prop) : Prop := ∃ H t, st = (e4 sl n a d o t 0, H) ∧ X H t ∧ ∀ H', Y H' t → K (.exit 0) (x4 a d o t, H')
def U4 (a d o : Int) (X Y : AHeap → Nat → Nat → Nat → Prop) (st : St) (K : AExit → St → Prop) : Prop := ∃ H t w c, st = (r4 a d o t w c, H) ∧ X H t w c ∧ ∀ H', Y H' t w c → K .normal (r4 a d o t w c, H')
def q4 (a d o : Int) (t w c : Nat) (i z : Int) : List AV := envOf 101 [(1, .int .i64 a), (2, .int .i64 d), (3, .int .i64 o), (9, .ptr (some (t, 0))), (12, .ptr (some (w, 0))), (14, .int .i64 z), (41, .ptr (some (t, 0))), (42, V15 c), (43, .int .i64 i), (44, .int .i64 z)]
theorem rep_of {h : AHeap} : ∀ {T : TT} {u : Pt}, (∀ x ∈ rT u T, h[x.1]? = some x.2) → Rep h T
  | .nil, _, _ => trivial
  | .node k id l r, u, hx => by
    have h1 := hx _ List.mem_cons_self
    refine ⟨⟨(l.n + r.n + 1 : Nat), u, by rw [TT.av_pt, TT.av_pt]; exact h1⟩, rep_of (u := some (k, 0)) fun x hx' => hx x (List.mem_cons_of_mem _ (List.mem_append_left _ hx')), rep_of (u := some (k, 0)) fun x hx' => hx x (List.mem_cons_of_mem _ (List.mem_append_right _ hx'))⟩
theorem ids_at {h : AHeap} {t m : Nat} {lk : Int} {T : TT} {qs : List (Nat × Int)} (g : Good T qs) (hM : Maps h (rA t m lk T qs)) : TreeIds h (.ptr (some (t, 0))) T.ids := by
  have h1 := rA_t hM
  have gn := g.n
  refine .inr ⟨t, T, m, lk, rfl, by rw [TT.av_pt]; exact h1, rep_of (u := none) fun x hx => hM.row x.1 x.2 (List.mem_append_left _ (List.mem_append_right _ hx)), rfl, by rw [TT.n_ids]; omega⟩
/-- A script's row: an operation at each place. -/
def Ops3 (cs : List AV) (n : Nat) : Prop := ∀ i, i < n → ∃ n1 n2 n3 : Int, partR (some 3) cs (0 + i * 3) = some (.agg [.int .i64 n1, .int .i64 n2, .int .i64 n3])
/-- A cell with a slice of numbers of the call's own. -/
def wRows (w : Nat) (l : AV) (ws : List Int) : Rws := (w, .row 39 1 [l]) :: (match l with
  | .sl (some (k, _)) _ _ => [(k, .row 2 1 (ints ws))]
  | _ => [])
def wForm (l : AV) (ws : List Int) : Prop := (l = .sl none 0 (.fix 0) ∧ ws = []) ∨ ∃ k, l = .sl (some (k, 0)) ws.length (.rel 0)
theorem wRows_sl {h : AHeap} {w : Nat} {l : AV} {ws : List Int} {A B : Rws} (hf : wForm l ws) (hM : Maps h (A ++ wRows w l ws ++ B)) : SlI h l ws := by
  rcases hf with hf | ⟨k, rfl⟩
  · exact .inl hf
  · exact .inr ⟨k, rfl, hM.left.right.row k _ (List.mem_cons_of_mem _ List.mem_cons_self)⟩
theorem cells38 : Try.prog.cellsOf 38 = 3 := by kernel_rfl
theorem cells3 : Try.prog.cellsOf 3 = 1 := by kernel_rfl
theorem cells2 : Try.prog.cellsOf 2 = 1 := by kernel_rfl
abbrev O3 := Int × Int × Int
def O3.cells (o : O3) : List AV := [.int .i64 o.1, .int .i64 o.2.1, .int .i64 o.2.2]
def cellsO : List O3 → List AV
  | [] => []
  | o :: L => O3.cells o ++ cellsO L
theorem cellsO_length : ∀ L : List O3, (cellsO L).length = L.length * 3
  | [] => rfl
  | o :: L => by
    rw [cellsO, List.length_append, cellsO_length L]
    simp [O3.cells]; omega
theorem cellsO_at : ∀ {L : List O3} {i : Nat} {s : O3}, L[i]? = some s → ((cellsO L).drop (i * 3)).take 3 = O3.cells s
  | o :: L, 0, s, h => by cases h; rfl
  | o :: L, i + 1, s, h => by
    rw [cellsO, show (i + 1) * 3 = (O3.cells o).length + i * 3 from by simp [O3.cells]; omega, List.drop_length_add_append]
    exact cellsO_at (by simpa using h)
theorem cellO_at {L : List O3} {i j : Nat} {s : O3} (h : L[i]? = some s) (hj : j < 3) : (cellsO L)[i * 3 + j]? = (O3.cells s)[j]? := by
  have h2 := congrArg (·[j]?) (cellsO_at h)
  simp only [List.getElem?_take_of_lt hj, List.getElem?_drop] at h2
  exact h2
theorem cellsO_closed : ∀ L : List O3, (cellsO L).all AV.closed = true
  | [] => rfl
  | o :: L => by
    rw [cellsO, List.all_append, cellsO_closed L]
    rfl
theorem ops3_of (L : List O3) : Ops3 (cellsO L) L.length := fun i hi => by
  have h := List.getElem?_eq_getElem hi
  refine ⟨L[i].1, L[i].2.1, L[i].2.2, ?_⟩
  simp only [partR]
  rw [if_pos (by rw [cellsO_length]; omega), Nat.zero_add, cellsO_at h]
  rfl
theorem list_of {α : Type} {p : Nat → α → Prop} : ∀ n : Nat, (∀ i, i < n → ∃ a, p i a) → ∃ L : List α, L.length = n ∧ ∀ i a, L[i]? = some a → p i a
  | 0, _ => ⟨[], rfl, fun i a h => by simp at h⟩
  | n + 1, h => by
    obtain ⟨L, hl, hp⟩ := list_of n fun i hi => h i (by omega)
    obtain ⟨a, ha⟩ := h n (by omega)
    refine ⟨L ++ [a], by simp [hl], fun i b hb => ?_⟩
    rw [List.getElem?_append] at hb
    split at hb
    · exact hp i b hb
    · rename_i hge
      have : i - L.length = 0 := by
        rcases Nat.eq_zero_or_pos (i - L.length) with q | q
        · exact q
        · rw [List.getElem?_eq_none (by simp; omega)] at hb; cases hb
      rw [this] at hb
      simp only [List.getElem?_cons_zero, Option.some.injEq] at hb
      subst hb
      rw [show i = n by omega]
      exact ha
theorem mapM_get2 {α β : Type} {f : α → Option β} : ∀ {l : List α} {r : List β}, l.mapM f = some r → ∀ (i : Nat) (x : α), l[i]? = some x → f x = r[i]?
  | l, r, h, i, x, hx => by
    obtain ⟨y, h1, h2⟩ := mapM_get h i x hx
    rw [h1, h2]
section
variable {H : Type} {enc : TypeId × Value → H} {w : World} {base : Nat} {spare : Nat → Bool} {held : Bool} {fuel : Nat} {cs : List Value} {x : DataW H × List MemPlace}
theorem ofld {fs : Array Field} {n : Nat} {xs : List (DataW H × List MemPlace)} (hf : ∀ (i : Nat) (f : Field), fs[i]? = some f → DataW.trod enc Try.prog w base spare held n f.type ((cs.drop f.offset).take (Try.prog.cellsOf f.type)) = xs[i]?)
    (i : Nat) {t off : Nat} (h : (fs[i]?).map (fun f => (f.type, f.offset)) = some (t, off)) {k : Nat} (hc : Try.prog.cellsOf t = k) : DataW.trod enc Try.prog w base spare held n t ((cs.drop off).take k) = xs[i]? := by
  simp only [Option.map_eq_some_iff, Prod.mk.injEq] at h
  obtain ⟨f, h1, rfl, rfl⟩ := h
  rw [← hc]
  exact hf i f h1
theorem open_op (h : DataW.trod enc Try.prog w base spare held fuel 38 cs = some x) : ∃ o : O3, ∀ ρ, cs = (O3.cells o).map (AV.real ρ) := by
  obtain ⟨xs, n, rfl, rfl, hl, hx, hf⟩ := DataW.trod_struct Try.underlying38 h
  rw [cells38] at hl
  obtain ⟨v0, v1, v2, rfl⟩ : ∃ v0 v1 v2, cs = [v0, v1, v2] := by
    match cs, hl with
    | [v0, v1, v2], _ => exact ⟨_, _, _, rfl⟩
  obtain ⟨y0, y1, y2, rfl⟩ : ∃ y0 y1 y2, xs = [y0, y1, y2] := by
    match xs, hx with
    | [y0, y1, y2], _ => exact ⟨_, _, _, rfl⟩
  have h0 : DataW.trod enc Try.prog w base spare held n 3 [v0] = some y0 := ofld hf 0 rfl cells3
  have h1 : DataW.trod enc Try.prog w base spare held n 3 [v1] = some y1 := ofld hf 1 rfl cells3
  have h2 : DataW.trod enc Try.prog w base spare held n 2 [v2] = some y2 := ofld hf 2 rfl cells2
  obtain ⟨d, e0, -, -⟩ := DataW.trod_int Try.underlying3 h0
  obtain ⟨a, e1, -, -⟩ := DataW.trod_int Try.underlying3 h1
  obtain ⟨i, e2, -, -⟩ := DataW.trod_int Try.underlying2 h2
  simp only [List.cons.injEq, and_true] at e0 e1 e2
  subst e0 e1 e2
  exact ⟨(d, a, i), fun ρ => rfl⟩
/-- What a script is. -/
def ScrIn (w : World) (v : Value) (L : List O3) (r : RL) : Prop :=
  (v = .slice none 0 0 ∧ L = []) ∨
  ∃ c, L.length ≤ c ∧ c ≤ 9223372036854775807 ∧ v = .slice (some ⟨r.blk, r.off, none⟩) L.length c ∧ r.blk < w.heap.size ∧ ∀ ρ i u, (cellsO L)[i]? = some u → w.cell? ⟨r.blk, r.off + i, none⟩ = some (u.real ρ)
theorem open_script {v : Value} (hk : Value.okWide Try.prog w .any base 36 v) (h : DataW.trod enc Try.prog w 0 spare held fuel 36 v.cells.toList = some x) : ∃ L r, ScrIn w v L r := by
  obtain ⟨a0, len0, cap0, rfl⟩ := okWide_slice Try.underlying36 hk
  rcases DataW.trod_slice Try.underlying36 h with ⟨e, -⟩ | ⟨a, l, c, elems, rest, n, -, e, -, -, hlc, hcm, hel, hg, -, -⟩
  · have e : Value.slice a0 len0 cap0 = .slice none 0 0 := by simpa [Value.cells] using e
    exact ⟨[], ⟨0, 0, 0⟩, .inl ⟨e, rfl⟩⟩
  · have e : Value.slice a0 len0 cap0 = .slice (some a) l c := by simpa [Value.cells] using e
    rw [e] at hk ⊢
    obtain ⟨hs, hb⟩ := okWide_row Try.underlying36 hk
    rw [cells38] at hg
    have step : ∀ i, i < l → ∃ s : O3, ∀ ρ, w.cells? 0 (a.add (i * 3)) 3 = some ((O3.cells s).map (AV.real ρ)) := fun i hi => by
      have g := hg i hi
      rw [List.getElem?_eq_getElem (by omega)] at g
      obtain ⟨cs, h1, h2⟩ := Option.bind_eq_some_iff.1 g
      obtain ⟨s, hsec⟩ := open_op h2
      exact ⟨s, fun ρ => by rw [← hsec ρ]; exact h1⟩
    obtain ⟨L, hL1, hL2⟩ := list_of l step
    obtain ⟨b, off, sp⟩ := a
    simp only at hs hb
    subst hs
    refine ⟨L, ⟨b, off, 0⟩, .inr ⟨c, by omega, by unfold maxLen at hcm; omega, by rw [hL1], hb, fun ρ i u hu => ?_⟩⟩
    have hi : i < L.length * 3 := by
      rw [← cellsO_length]
      rcases Nat.lt_or_ge i (cellsO L).length with q | q
      · exact q
      · rw [List.getElem?_eq_none q] at hu; cases hu
    have hq : i / 3 < L.length := by omega
    have hc := hL2 (i / 3) L[i / 3] (List.getElem?_eq_getElem hq) ρ
    unfold World.cells? at hc
    rw [if_pos (Nat.zero_le _)] at hc
    have hj := mapM_get2 hc (i % 3) (i % 3) (List.getElem?_range (by omega))
    have hat := cellO_at (i := i / 3) (j := i % 3) (List.getElem?_eq_getElem hq) (by omega)
    rw [show i / 3 * 3 + i % 3 = i by omega, hu] at hat
    rw [List.getElem?_map, ← hat] at hj
    have hadd : (Addr.add ⟨b, off, none⟩ (i / 3 * 3)).add (i % 3) = ⟨b, off + i, none⟩ := by
      unfold Addr.add
      split <;> split <;> simp <;> omega
    rw [hadd] at hj
    exact hj
end

end Go.Proofs.Ytncmgbbbekabdaa
