/- The arguments, opened: a pair, a row, a section; the memory that the call finds. -/
import Derived.Test.YtcigcknagbjlbaaDoorPaH
import Derived.OpenShut
import Derived.WideShapes
namespace Go.Proofs.YtcigcknagbjlbaaDoor
open Go Go.Am Go.WideShapes Go.RowKit
set_option maxRecDepth 100000
set_option linter.unusedVariables false
set_option linter.unusedSimpArgs false

theorem cells25 : Tryd.prog.cellsOf 25 = 4 := by kernel_rfl
theorem cells27 : Tryd.prog.cellsOf 27 = 11 := by kernel_rfl
theorem cells35 : Tryd.prog.cellsOf 35 = 5 := by kernel_rfl
theorem cells23 : Tryd.prog.cellsOf 23 = 3 := by kernel_rfl
theorem cells22 : Tryd.prog.cellsOf 22 = 1 := by kernel_rfl
theorem cells33 : Tryd.prog.cellsOf 33 = 1 := by kernel_rfl
theorem cells9 : Tryd.prog.cellsOf 9 = 1 := by kernel_rfl
theorem cells3 : Tryd.prog.cellsOf 3 = 1 := by kernel_rfl
theorem cells2 : Tryd.prog.cellsOf 2 = 1 := by kernel_rfl

theorem list_of {α : Type} {p : Nat → α → Prop} : ∀ n : Nat, (∀ i, i < n → ∃ a, p i a) → ∃ L : List α, L.length = n ∧ ∀ i a, L[i]? = some a → p i a
  | 0, _ => ⟨[], rfl, fun i a h => by simp at h⟩
  | n + 1, h => by
    obtain ⟨L, hl, hp⟩ := list_of n fun i hi => h i (by omega)
    obtain ⟨a, ha⟩ := h n (by omega)
    refine ⟨L ++ [a], by simp [hl], fun i b hb => ?_⟩
    rw [List.getElem?_append] at hb
    split at hb
    · exact hp i b hb
    · rename_i hge
      have : i - L.length = 0 := by
        rcases Nat.eq_zero_or_pos (i - L.length) with q | q
        · exact q
        · rw [List.getElem?_eq_none (by simp; omega)] at hb; cases hb
      rw [this] at hb
      simp only [List.getElem?_cons_zero, Option.some.injEq] at hb
      subst hb
      rw [show i = n by omega]
      exact ha

section
variable {H : Type} {enc : TypeId × Value → H} {w : World} {base : Nat} {spare : Nat → Bool} {held : Bool} {fuel : Nat} {cs : List Value} {x : DataW H × List MemPlace}

theorem fld {fs : Array Field} {n : Nat} {xs : List (DataW H × List MemPlace)} (hf : ∀ (i : Nat) (f : Field), fs[i]? = some f → DataW.trod enc Tryd.prog w base spare held n f.type ((cs.drop f.offset).take (Tryd.prog.cellsOf f.type)) = xs[i]?)
    (i : Nat) {t off : Nat} (h : (fs[i]?).map (fun f => (f.type, f.offset)) = some (t, off)) {k : Nat} (hc : Tryd.prog.cellsOf t = k) : DataW.trod enc Tryd.prog w base spare held n t ((cs.drop off).take k) = xs[i]? := by
  simp only [Option.map_eq_some_iff, Prod.mk.injEq] at h
  obtain ⟨f, h1, rfl, rfl⟩ := h
  rw [← hc]
  exact hf i f h1

theorem open_row (h : DataW.trod enc Tryd.prog w base spare held fuel 25 cs = some x) : ∃ r : Rw, cs = [.int .i64 r.s, .int .i64 r.a, .int .i64 r.b, .int .i64 r.c] := by
  obtain ⟨xs, n, rfl, rfl, hl, hx, hf⟩ := DataW.trod_struct Tryd.underlying25 h
  rw [cells25] at hl
  obtain ⟨v0, v1, v2, v3, rfl⟩ : ∃ v0 v1 v2 v3, cs = [v0, v1, v2, v3] := by
    match cs, hl with
    | [v0, v1, v2, v3], _ => exact ⟨_, _, _, _, rfl⟩
  obtain ⟨y0, y1, rfl⟩ : ∃ y0 y1, xs = [y0, y1] := by
    match xs, hx with
    | [y0, y1], _ => exact ⟨_, _, rfl⟩
  have h0 : DataW.trod enc Tryd.prog w base spare held n 3 [v0] = some y0 := fld hf 0 rfl cells3
  have h1 : DataW.trod enc Tryd.prog w base spare held n 23 [v1, v2, v3] = some y1 := fld hf 1 rfl cells23
  obtain ⟨s, e0, -, -⟩ := DataW.trod_int Tryd.underlying3 h0
  obtain ⟨ys, m, -, -, -, hy, hg⟩ := DataW.trod_array Tryd.underlying23 h1
  rw [cells2] at hg
  obtain ⟨z0, z1, z2, rfl⟩ : ∃ z0 z1 z2, ys = [z0, z1, z2] := by
    match ys, hy with
    | [z0, z1, z2], _ => exact ⟨_, _, _, rfl⟩
  have g0 : DataW.trod enc Tryd.prog w base spare held m 2 [v1] = some z0 := hg 0 (by omega)
  have g1 : DataW.trod enc Tryd.prog w base spare held m 2 [v2] = some z1 := hg 1 (by omega)
  have g2 : DataW.trod enc Tryd.prog w base spare held m 2 [v3] = some z2 := hg 2 (by omega)
  obtain ⟨a, e1, -, -⟩ := DataW.trod_int Tryd.underlying2 g0
  obtain ⟨b, e2, -, -⟩ := DataW.trod_int Tryd.underlying2 g1
  obtain ⟨c, e3, -, -⟩ := DataW.trod_int Tryd.underlying2 g2
  simp only [List.cons.injEq, and_true] at e0 e1 e2 e3
  subst e0 e1 e2 e3
  exact ⟨⟨s, a, b, c⟩, rfl⟩

theorem open_sec (h : DataW.trod enc Tryd.prog w base spare held fuel 35 cs = some x) : ∃ s : Sc, ∀ ρ, cs = s.cells.map (AV.real ρ) := by
  obtain ⟨xs, n, rfl, rfl, hl, hx, hf⟩ := DataW.trod_struct Tryd.underlying35 h
  rw [cells35] at hl
  obtain ⟨v0, v1, v2, v3, v4, rfl⟩ : ∃ v0 v1 v2 v3 v4, cs = [v0, v1, v2, v3, v4] := by
    match cs, hl with
    | [v0, v1, v2, v3, v4], _ => exact ⟨_, _, _, _, _, rfl⟩
  obtain ⟨y0, y1, y2, y3, y4, rfl⟩ : ∃ y0 y1 y2 y3 y4, xs = [y0, y1, y2, y3, y4] := by
    match xs, hx with
    | [y0, y1, y2, y3, y4], _ => exact ⟨_, _, _, _, _, rfl⟩
  have h0 : DataW.trod enc Tryd.prog w base spare held n 3 [v0] = some y0 := fld hf 0 rfl cells3
  have h1 : DataW.trod enc Tryd.prog w base spare held n 3 [v1] = some y1 := fld hf 1 rfl cells3
  have h2 : DataW.trod enc Tryd.prog w base spare held n 9 [v2] = some y2 := fld hf 2 rfl cells9
  have h3 : DataW.trod enc Tryd.prog w base spare held n 3 [v3] = some y3 := fld hf 3 rfl cells3
  have h4 : DataW.trod enc Tryd.prog w base spare held n 33 [v4] = some y4 := fld hf 4 rfl cells33
  obtain ⟨p, e0, -, -⟩ := DataW.trod_int Tryd.underlying3 h0
  obtain ⟨d, e1, -, -⟩ := DataW.trod_int Tryd.underlying3 h1
  obtain ⟨nm, e2, -, -⟩ := DataW.trod_string Tryd.underlying9 h2
  obtain ⟨m, e3, -, -⟩ := DataW.trod_int Tryd.underlying3 h3
  obtain ⟨ia, il, ic, e4⟩ : ∃ a l c, [v4] = [.slice a l c] := by
    rcases DataW.trod_slice Tryd.underlying33 h4 with ⟨e, -⟩ | ⟨a, l, c, _, _, _, _, e, _⟩
    · exact ⟨_, _, _, e⟩
    · exact ⟨_, _, _, e⟩
  simp only [List.cons.injEq, and_true] at e0 e1 e2 e3 e4
  subst e0 e1 e2 e3 e4
  refine ⟨⟨p, d, nm.data.toList, m, ia, il, ic⟩, fun ρ => ?_⟩
  simp [Sc.cells, AV.real]

/-- What the sections' slice is. -/
def SecIn (w : World) (v : Value) (L : List Sc) (a : AV) (h : AHeap) (r : RL) : Prop :=
  (v = .slice none 0 0 ∧ a = slN ∧ h = []) ∨
  ∃ c, a = slL L.length c ∧ h = hL L ∧ L.length ≤ c ∧ v = .slice (some ⟨r.blk, r.off, none⟩) L.length c ∧ r.blk < w.heap.size ∧ ∀ ρ i u, (cellsOf L)[i]? = some u → w.cell? ⟨r.blk, r.off + i, none⟩ = some (u.real ρ)

theorem open_secs {v : Value} (hk : Cell.okWide Tryd.prog w .any base 22 v) (h : DataW.trod enc Tryd.prog w 0 spare held fuel 22 [v] = some x) : ∃ L a h r, SecIn w v L a h r := by
  rcases DataW.trod_slice Tryd.underlying22 h with ⟨e, -⟩ | ⟨a, l, c, elems, rest, n, -, e, -, -, hlc, -, hel, hg, -, -⟩
  · simp only [List.cons.injEq, and_true] at e
    exact ⟨[], slN, [], ⟨0, 0, 0⟩, .inl ⟨e, rfl, rfl⟩⟩
  · simp only [List.cons.injEq, and_true] at e
    subst e
    have hk2 : Value.okWide Tryd.prog w .any base 22 (.slice (some a) l c) := by simp only [Value.okWide, Tryd.underlying22]; exact hk
    obtain ⟨hs, hb⟩ := okWide_row Tryd.underlying22 hk2
    rw [cells35] at hg
    have step : ∀ i, i < l → ∃ s : Sc, ∀ ρ, w.cells? 0 (a.add (i * 5)) 5 = some (s.cells.map (AV.real ρ)) := fun i hi => by
      have g := hg i hi
      rw [List.getElem?_eq_getElem (by omega)] at g
      obtain ⟨cs, h1, h2⟩ := Option.bind_eq_some_iff.1 g
      obtain ⟨s, hsec⟩ := open_sec h2
      exact ⟨s, fun ρ => by rw [← hsec ρ]; exact h1⟩
    obtain ⟨L, hL1, hL2⟩ := list_of l step
    obtain ⟨b, off, sp⟩ := a
    simp only at hs hb
    subst hs
    refine ⟨L, slL L.length c, hL L, ⟨b, off, 0⟩, .inr ⟨c, rfl, rfl, by omega, by rw [hL1], hb, fun ρ i u hu => ?_⟩⟩
    have hi : i < L.length * 5 := by
      rw [← cells_length]
      rcases Nat.lt_or_ge i (cellsOf L).length with q | q
      · exact q
      · rw [List.getElem?_eq_none q] at hu; cases hu
    have hq : i / 5 < L.length := by omega
    have hc := hL2 (i / 5) L[i / 5] (List.getElem?_eq_getElem hq) ρ
    unfold World.cells? at hc
    rw [if_pos (Nat.zero_le _)] at hc
    have hj := mapM_some_get hc (i % 5) (i % 5) (List.getElem?_range (by omega))
    have hat := cell_at (i := i / 5) (j := i % 5) (List.getElem?_eq_getElem hq) (by omega)
    rw [show i / 5 * 5 + i % 5 = i by omega, hu] at hat
    rw [List.getElem?_map, ← hat] at hj
    have hadd : (Addr.add ⟨b, off, none⟩ (i / 5 * 5)).add (i % 5) = ⟨b, off + i, none⟩ := by
      unfold Addr.add
      split <;> split <;> simp <;> omega
    rw [hadd] at hj
    exact hj

theorem open_pair {cs : Array Value} (hk : Value.okWide Tryd.prog w .any base 27 (.agg cs)) (h : DataW.trod enc Tryd.prog w 0 spare held fuel 27 cs.toList = some x) :
    ∃ v L sl hp r, SecIn w v L sl hp r ∧ ∃ (a b : Rw) (x y : Int), cs = #[v, .int .i64 a.s, .int .i64 a.a, .int .i64 a.b, .int .i64 a.c, .int .i64 b.s, .int .i64 b.a, .int .i64 b.b, .int .i64 b.c, .int .i64 x, .int .i64 y] := by
  obtain ⟨xs, n, rfl, rfl, hl, hx, hf⟩ := DataW.trod_struct Tryd.underlying27 h
  rw [cells27] at hl
  obtain ⟨l, rfl⟩ : ∃ l, cs = ⟨l⟩ := ⟨cs.toList, rfl⟩
  obtain ⟨v0, v1, v2, v3, v4, v5, v6, v7, v8, v9, v10, rfl⟩ : ∃ v0 v1 v2 v3 v4 v5 v6 v7 v8 v9 v10, l = [v0, v1, v2, v3, v4, v5, v6, v7, v8, v9, v10] := by
    match l, hl with
    | [v0, v1, v2, v3, v4, v5, v6, v7, v8, v9, v10], _ => exact ⟨_, _, _, _, _, _, _, _, _, _, _, rfl⟩
  obtain ⟨y0, y1, y2, y3, y4, rfl⟩ : ∃ y0 y1 y2 y3 y4, xs = [y0, y1, y2, y3, y4] := by
    match xs, hx with
    | [y0, y1, y2, y3, y4], _ => exact ⟨_, _, _, _, _, rfl⟩
  have h0 : DataW.trod enc Tryd.prog w 0 spare held n 22 [v0] = some y0 := fld hf 0 rfl cells22
  have h1 : DataW.trod enc Tryd.prog w 0 spare held n 25 [v1, v2, v3, v4] = some y1 := fld hf 1 rfl cells25
  have h2 : DataW.trod enc Tryd.prog w 0 spare held n 25 [v5, v6, v7, v8] = some y2 := fld hf 2 rfl cells25
  have h3 : DataW.trod enc Tryd.prog w 0 spare held n 3 [v9] = some y3 := fld hf 3 rfl cells3
  have h4 : DataW.trod enc Tryd.prog w 0 spare held n 2 [v10] = some y4 := fld hf 4 rfl cells2
  obtain ⟨a, e1⟩ := open_row h1
  obtain ⟨b, e2⟩ := open_row h2
  obtain ⟨x, e3, -, -⟩ := DataW.trod_int Tryd.underlying3 h3
  obtain ⟨y, e4, -, -⟩ := DataW.trod_int Tryd.underlying2 h4
  have hk0 : Cell.okWide Tryd.prog w .any base 22 v0 := by
    simp only [Value.okWide, Tryd.underlying27] at hk
    obtain ⟨cs, e, -, ts, hts, -, hall⟩ := hk
    simp only [Value.agg.injEq] at e
    subst e
    obtain ⟨u, hu, hc⟩ := hall 0 v0 rfl
    have hts2 : (Tryd.prog.cellTypes Tryd.prog.depth 27).bind (fun ts => ts[0 % ts.length]?) = some 22 := by kernel_rfl
    rw [hts, Option.bind_some, hu] at hts2
    cases hts2
    exact hc
  obtain ⟨L, sl, hp, r, hs⟩ := open_secs hk0 h0
  simp only [List.cons.injEq, and_true] at e1 e2 e3 e4
  obtain ⟨rfl, rfl, rfl, rfl⟩ := e1
  obtain ⟨rfl, rfl, rfl, rfl⟩ := e2
  subst e3 e4
  exact ⟨v0, L, sl, hp, r, hs, a, b, x, y, rfl⟩
end

/-- THE WALK, from the model's side. -/
theorem walk {w : World} {v : Value} {L : List Sc} {sl : AV} {hp : AHeap} {rr : RL} (hs : SecIn w v L sl hp rr) (a b r : Rw) (x y : Int) :
    Calls Tryd.prog 3 #[.agg #[v, .int .i64 a.s, .int .i64 a.a, .int .i64 a.b, .int .i64 a.c, .int .i64 b.s, .int .i64 b.a, .int .i64 b.b, .int .i64 b.c, .int .i64 x, .int .i64 y], .agg #[.int .i64 r.s, .int .i64 r.a, .int .i64 r.b, .int .i64 r.c]] w fun e w' => e = .returned (.bool true) ∧ Below w.heap.size w w' := by
  rcases hs with ⟨rfl, rfl, rfl⟩ | ⟨c, rfl, rfl, hc, rfl, hb, hcell⟩
  · obtain ⟨h', hsem⟩ := law_nil a b r x y
    have hI : Inv (fun _ => rr) (allOf w) w [] w := inv_start fun j o ho => by simp at ho
    have := hsem (fun _ => rr) (allOf w) w w hI (fun z hz => by
      simp only [List.mem_cons, List.not_mem_nil, or_false] at hz
      rcases hz with rfl | rfl <;> rfl)
    refine Calls.mono this fun e w' ⟨ρ', h1, h2, _⟩ => ⟨h1, h2.below.below⟩
  · obtain ⟨h', hsem⟩ := law_run L L.length c (Nat.le_refl _) a b r x y
    have hI : Inv (fun _ => rr) (allOf w) w (hL L) w := inv_start fun j o ho => by
      match j with
      | 0 =>
        simp only [hL, List.getElem?_cons_zero, Option.some.injEq] at ho
        subst ho
        refine .inr ⟨_, rfl, ?_, hb, fun i u hu => hcell _ i u hu⟩
        have := cells_closed L
        rw [refsL_eq] at this
        exact this
      | n + 1 => simp [hL] at ho
    have := hsem (fun _ => rr) (allOf w) w w hI (fun z hz => by
      simp only [List.mem_cons, List.not_mem_nil, or_false] at hz
      rcases hz with rfl | rfl
      · simp [AV.ok, pairV, AV.refs, AV.refsL, live, hL, AObj.there]; exact hc
      · rfl)
    refine Calls.mono this fun e w' ⟨ρ', h1, h2, _⟩ => ⟨h1, h2.below.below⟩
end Go.Proofs.YtcigcknagbjlbaaDoor
