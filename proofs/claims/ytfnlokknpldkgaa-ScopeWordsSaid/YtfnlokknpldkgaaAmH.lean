/- Operations that make a new block. -/
import Derived.Test.YtfnlokknpldkgaaAmG
set_option linter.unusedVariables false
set_option linter.unusedSimpArgs false
namespace Go.Am
open Go Go.RowKit
section
variable (P : Program)
def isAlloc (o : Oper) : Bool :=
  match o.op with
  | .alloc _ | .box _ _ | .buildSlice _ _ _ | .makeSlice _ _ _ | .makeMap _ _ => true
  | .convert s d _ => match P.underlying s, P.underlying d with
    | some .string, some (.slice _) => true
    | _, _ => false
  | .call { callee := .builtin .append, .. } => true
  | _ => false
def boxA (k : Nat) (t : TypeId) (v : AV) : Option (AV × AObj) :=
  if v.plain && v.cells.all AV.one then some (.ptr (some (k, 0)), .row t v.cells.length v.cells) else none
def rangeCells (z : List AV) (n : Nat) : List AV := (List.range n).map fun i => z.getD (i % z.length) .any
/-- A new block: the value that names it, and what is in it. -/
def evalAlloc (E : Operand → Option AV) (k : Nat) (o : Oper) : Option (AV × AObj) :=
  match o.op with
  | .alloc t => (zeroA P t).bind (boxA k t)
  | .box t x => (E x).bind (boxA k t)
  | .buildSlice t len ps => match P.underlying t with
    | some (.slice e) => (szOf P e).bind fun s => (zeroA P e).bind fun z => (partsA E ps.toList).bind fun l =>
      if z.plain && z.cells.length == s && decide (len * s ≤ 16777216) && decide (0 < s) then
        (fillA (fun i => some (i * s, s)) (rangeCells z.cells (len * s)) l).bind fun cs =>
          if cs.all AV.one && cs.length == len * s then some (.sl (some (k, 0)) len (.rel 0), .row e s cs) else none
      else none
    | _ => none
  | .makeSlice t l c => match P.underlying t, E l, E c with
    | some (.slice e), some (.int _ l), some (.int _ c) => (szOf P e).bind fun s => (bytesA P e).bind fun b => (zeroA P e).bind fun z =>
      if z.plain && z.cells.length == s && z.cells.all AV.one && decide (0 ≤ l ∧ l ≤ c ∧ (b : Int) * c ≤ 281474976710656 ∧ c ≤ 9223372036854775807) then
        some (.sl (some (k, 0)) l.toNat (.rel 0), .row e s (rangeCells z.cells (l.toNat * s)))
      else none
    | _, _, _ => none
  | .makeMap _ none => some (.map (some k), .map [])
  | .convert s d x => match P.underlying s, P.underlying d, E x with
    | some .string, some (.slice e), some (.str b) => match P.underlying e with
      | some (.int .u8) => some (.sl (some (k, 0)) b.length (.rel 0), .ro (b.map fun x => .int .u8 x.toNat))
      | _ => none
    | _, _, _ => none
  | _ => none
end
section
variable {P : Program} {ρ : Rho} {B : Fr} {w0 w : World} {h : AHeap}
def upd (ρ : Rho) (k : Nat) (l : RL) : Rho := fun i => if i = k then l else ρ i
theorem live_ne {h : AHeap} {k i : Nat} (hk : h[k]? = some .hole) (hi : live h i = true) : i ≠ k := by
  intro e; subst e; simp [live, hk, AObj.there] at hi
theorem upd_live {h : AHeap} {k : Nat} (hk : h[k]? = some .hole) (l : RL) : ∀ i, live h i = true → upd ρ k l i = ρ i := fun i hi => by
  simp [upd, live_ne hk hi]
theorem live_set {h : AHeap} {k : Nat} (hk : h[k]? = some .hole) (o : AObj) (i : Nat) (hi : live h i = true) : live (h.set k o) i = true := by
  have := live_ne hk hi
  simp only [live, List.getElem?_set] at hi ⊢
  rw [if_neg (fun e => this e.symm)]
  exact hi
theorem ok_later {h : AHeap} {k : Nat} (hk : h[k]? = some .hole) (l : RL) (o : AObj) {v : AV} (hv : v.ok h ρ) : v.ok (h.set k o) (upd ρ k l) :=
  refs_mono (fun i hi => ⟨live_set hk o i hi, by rw [upd_live hk l i hi]⟩) v hv
theorem real_later {h : AHeap} {k : Nat} (hk : h[k]? = some .hole) (l : RL) {v : AV} (hv : v.ok h ρ) : v.real (upd ρ k l) = v.real ρ :=
  real_congr (upd_live hk l) v hv
theorem objRel_congr {ρ ρ' : Rho} {B : Fr} {w : World} {l : RL} {o : AObj} {p : Nat → Bool} {c : Nat → Nat} (hρ : ∀ k, p k = true → ρ' k = ρ k) (ho : o.refs p c = true) (hr : ObjRel ρ B w l o) : ObjRel ρ' B w l o := by
  cases o with
  | hole => trivial
  | dead => trivial
  | ro cs =>
    simp only [AObj.refs, List.all_eq_true] at ho
    exact ⟨hr.1, fun j v hj => by rw [real_congr hρ v (ho v (List.mem_of_getElem? hj))]; exact hr.2 j v hj⟩
  | row t sz cs =>
    simp only [AObj.refs, List.all_eq_true] at ho
    obtain ⟨h1, h2, arr, h3, h4, h5⟩ := hr
    refine ⟨h1, h2, arr, h3, ?_, h5⟩
    rw [h4]
    apply List.map_congr_left
    intro v hv
    exact (real_congr hρ v (ho v hv)).symm
  | map es =>
    simp only [AObj.refs, List.all_eq_true, Bool.and_eq_true] at ho
    obtain ⟨h1, ents, clock, h3, h4⟩ := hr
    refine ⟨h1, ents, clock, h3, ?_⟩
    rw [h4]
    apply List.map_congr_left
    intro e he
    rw [real_congr hρ e.1 (ho e he).1, real_congr hρ e.2 (ho e he).2]
/-- Blocks that stay as they are keep what was said of them. -/
theorem objRel_kept {ρ : Rho} {B : Fr} {w w' : World} {l : RL} {o : AObj} (hs : w.heap.size ≤ w'.heap.size) (hb : l.blk < w.heap.size → w'.heap[l.blk]? = w.heap[l.blk]?) (hr : ObjRel ρ B w l o) : ObjRel ρ B w' l o := by
  cases o with
  | hole => trivial
  | dead => trivial
  | ro cs =>
    refine ⟨Nat.lt_of_lt_of_le hr.1 hs, fun j v hj => ?_⟩
    rw [World.cell?_of_block (w := w) (hb hr.1)]
    exact hr.2 j v hj
  | row t sz cs =>
    obtain ⟨h1, h2, arr, h3, h4⟩ := hr
    have hlt : l.blk < w.heap.size := by
      rcases Nat.lt_or_ge l.blk w.heap.size with q | q
      · exact q
      · simp [Array.getElem?_eq_none q] at h3
    exact ⟨h1, h2, arr, by rw [hb hlt]; exact h3, h4⟩
  | map es =>
    obtain ⟨h1, ents, clock, h3, h4⟩ := hr
    have hlt : l.blk < w.heap.size := by
      rcases Nat.lt_or_ge l.blk w.heap.size with q | q
      · exact q
      · simp [Array.getElem?_eq_none q] at h3
    exact ⟨h1, ents, clock, by rw [hb hlt]; exact h3, h4⟩
theorem own_lt {l : RL} {o : AObj} (ho : o.own = true) (hr : ObjRel ρ B w l o) : ¬ B l.blk ∧ l.blk < w.heap.size := by
  have key : ∀ x, w.heap[l.blk]? = some x → l.blk < w.heap.size := fun x hx => by
    rcases Nat.lt_or_ge l.blk w.heap.size with q | q
    · exact q
    · simp [Array.getElem?_eq_none q] at hx
  cases o with
  | row t sz cs => obtain ⟨h1, h2, arr, h3, h4⟩ := hr; exact ⟨h1, key _ h3⟩
  | map es => obtain ⟨h1, ents, clock, h3, h4⟩ := hr; exact ⟨h1, key _ h3⟩
  | hole => cases ho
  | dead => cases ho
  | ro => cases ho
/-- **A hole is filled by a block that nothing else names.** -/
theorem Inv.fillAt (hI : Inv ρ B w0 h w) {k : Nat} (hk : h[k]? = some .hole) {l : RL} {o : AObj} {w' : World}
    (hbelow : Below w.heap.size w w') (hd1 : ∀ j y, h[j]? = some y → y.own = true → (ρ j).blk ≠ l.blk) (hd2 : ∀ j cs, h[j]? = some (.ro cs) → (ρ j).blk ≠ l.blk) (hrel : ObjRel (upd ρ k l) B w' l o) (hwf : o.refs (live (h.set k o)) (fun i => (upd ρ k l i).cap) = true) :
    Inv (upd ρ k l) B w0 (h.set k o) w' := by
  have hklt : k < h.length := by
    rcases Nat.lt_or_ge k h.length with q | q
    · exact q
    · simp [List.getElem?_eq_none q] at hk
  have old : ∀ i x, i ≠ k → (h.set k o)[i]? = some x → h[i]? = some x := fun i x hi hx => by
    rwa [List.getElem?_set_ne (fun e => hi e.symm)] at hx
  have new : ∀ x, (h.set k o)[k]? = some x → x = o := fun x hx => by
    rw [List.getElem?_set_self hklt] at hx; exact (Option.some.inj hx).symm
  have ul : ∀ i, i ≠ k → upd ρ k l i = ρ i := fun i hi => by simp [upd, hi]
  have uk : upd ρ k l k = l := by simp [upd]
  refine ⟨hI.below.trans (Kept.of_below hbelow hI.size), fun q hq => Nat.lt_of_lt_of_le (hI.size q hq) hbelow.size, ?_, ?_, ?_, ?_⟩
  · intro i x hx
    by_cases hi : i = k
    · subst hi; rw [new x hx, uk]; exact hrel
    · have hx' := old i x hi hx
      rw [ul i hi]
      exact objRel_congr (upd_live hk l) (hI.wf i x hx') (objRel_kept hbelow.size (fun hb => hbelow.block _ hb) (hI.obj i x hx'))
  · intro i j x y hx hy ox oy hij
    by_cases hi : i = k
    · have hj : j ≠ k := fun e => hij (hi.trans e.symm)
      have := hd1 j y (old j y hj hy) oy
      subst hi
      rw [uk, ul j hj]; exact fun e => this e.symm
    · by_cases hj : j = k
      · have := hd1 i x (old i x hi hx) ox
        subst hj
        rw [uk, ul i hi]; exact this
      · rw [ul i hi, ul j hj]; exact hI.sep i j x y (old i x hi hx) (old j y hj hy) ox oy hij
  · intro i j x cs hx hy ox
    by_cases hi : i = k
    · by_cases hj : j = k
      · subst hi; subst hj
        have e1 := new _ hx
        have e2 := new _ hy
        rw [e1] at ox; rw [← e2] at ox; cases ox
      · have := hd2 j cs (old j _ hj hy)
        subst hi
        rw [uk, ul j hj]; exact fun e => this e.symm
    · by_cases hj : j = k
      · have := hd1 i x (old i x hi hx) ox
        subst hj
        rw [uk, ul i hi]; exact this
      · rw [ul i hi, ul j hj]; exact hI.sepr i j x cs (old i x hi hx) (old j _ hj hy) ox
  · intro i x hx
    by_cases hi : i = k
    · subst hi; rw [new x hx]; exact hwf
    · have hx' := old i x hi hx
      have hw := hI.wf i x hx'
      have hm : ∀ j, live h j = true → live (h.set k o) j = true ∧ (upd ρ k l j).cap = (ρ j).cap := fun j hj => ⟨live_set hk o j hj, by rw [upd_live hk l j hj]⟩
      cases x with
      | hole => rfl
      | dead => rfl
      | ro cs => simp only [AObj.refs, List.all_eq_true] at hw ⊢; exact fun v hv => refs_mono hm v (hw v hv)
      | row t sz cs => simp only [AObj.refs, List.all_eq_true] at hw ⊢; exact fun v hv => refs_mono hm v (hw v hv)
      | map es => simp only [AObj.refs, List.all_eq_true, Bool.and_eq_true] at hw ⊢; exact fun v hv => ⟨refs_mono hm _ (hw v hv).1, refs_mono hm _ (hw v hv).2⟩
/-- A hole is filled by a new block. -/
theorem Inv.fill (hI : Inv ρ B w0 h w) {k : Nat} (hk : h[k]? = some .hole) {l : RL} {o : AObj} {w' : World}
    (hbelow : Below w.heap.size w w') (hl : w.heap.size ≤ l.blk) (hrel : ObjRel (upd ρ k l) B w' l o) (hwf : o.refs (live (h.set k o)) (fun i => (upd ρ k l i).cap) = true) :
    Inv (upd ρ k l) B w0 (h.set k o) w' := by
  refine hI.fillAt hk hbelow (fun j y hj hy => ?_) (fun j cs hj => ?_) hrel hwf
  · have := (own_lt hy (hI.obj j y hj)).2; omega
  · have := (hI.obj j _ hj).1; omega
theorem below_alloc (w : World) (o : Obj) : Below w.heap.size w (w.alloc o) := (Below.refl _ w).alloc (Nat.le_refl _) o
theorem live_self {h : AHeap} {k : Nat} (hk : h[k]? = some .hole) {o : AObj} (ho : o.there = true) : live (h.set k o) k = true := by
  have hklt : k < h.length := by
    rcases Nat.lt_or_ge k h.length with q | q
    · exact q
    · simp [List.getElem?_eq_none q] at hk
  simp [live, List.getElem?_set_self hklt, ho]
/-- A new row of cells, its first ones known. -/
theorem fill_row (hI : Inv ρ B w0 h w) {k : Nat} (hk : h[k]? = some .hole) (t : TypeId) (sz cap : Nat) (cs : List AV) (arr : Array Value)
    (h1 : ∀ v ∈ cs, v.one = true) (hok : ∀ v ∈ cs, AV.ok h ρ v) (htk : arr.toList.take cs.length = cs.map (AV.real ρ)) (hsz : arr.size = cap * sz) (hcap : cap ≤ maxLen) :
    Inv (upd ρ k ⟨w.heap.size, 0, cap⟩) B w0 (h.set k (.row t sz cs)) (w.alloc (.cells arr t)) := by
  refine hI.fill hk (below_alloc w _) (Nat.le_refl _) ?_ ?_
  · refine ⟨fun hb => Nat.lt_irrefl _ (hI.size _ hb), rfl, arr, heap_alloc_new w _, ?_, hsz, hcap, h1⟩
    rw [htk]
    apply List.map_congr_left
    intro v hv
    exact (real_later hk _ (hok v hv)).symm
  · simp only [AObj.refs, List.all_eq_true]
    exact fun v hv => ok_later hk _ _ (hok v hv)
theorem box_sound (hI : Inv ρ B w0 h w) {k : Nat} (hk : h[k]? = some .hole) {t : TypeId} {v r : AV} {o : AObj} (hv : v.ok h ρ) (hb : boxA k t v = some (r, o)) :
    (newVar t (v.real ρ)).run P w = .ok ⟨w.heap.size, 0, none⟩ (w.alloc (.cells (v.real ρ).cells t)) ∧
      Inv (upd ρ k ⟨w.heap.size, 0, 1⟩) B w0 (h.set k o) (w.alloc (.cells (v.real ρ).cells t)) ∧
      r.real (upd ρ k ⟨w.heap.size, 0, 1⟩) = .pointer (some ⟨w.heap.size, 0, none⟩) ∧ r.ok (h.set k o) (upd ρ k ⟨w.heap.size, 0, 1⟩) := by
  unfold boxA at hb
  split at hb
  · rename_i hc
    simp only [Bool.and_eq_true, List.all_eq_true] at hc
    cases hb
    have hcs := cells_sized (ρ := ρ) hc.1
    refine ⟨rfl, ?_, by simp [AV.real, upd], ?_⟩
    · refine fill_row hI hk t _ 1 v.cells _ hc.2 (cells_all_ok hv) ?_ ?_ (by simp [maxLen])
      · rw [hcs]; simp [List.take_of_length_le]
      · rw [hcs]; simp
    · simp only [AV.ok, AV.refs]; exact live_self hk rfl
  · cases hb
theorem real_rangeCells (z : List AV) (n : Nat) (hz : n = 0 ∨ 0 < z.length) : (rangeCells z n).map (AV.real ρ) = (madeCells (z.map (AV.real ρ)).toArray n).toList := by
  simp only [rangeCells, madeCells, List.map_map, Array.toList_map, Array.toList_range]
  apply List.map_congr_left
  intro i hi
  simp only [List.mem_range] at hi
  have hz' : 0 < z.length := by omega
  have hlt : i % z.length < z.length := Nat.mod_lt _ hz'
  simp [List.getD_eq_getElem?_getD, hlt]
theorem rangeCells_ok {z : List AV} (n : Nat) (hz : ∀ v ∈ z, AV.ok h ρ v) : ∀ v ∈ rangeCells z n, AV.ok h ρ v := by
  intro v hv
  simp only [rangeCells, List.mem_map, List.mem_range] at hv
  obtain ⟨i, hi, rfl⟩ := hv
  rw [List.getD_eq_getElem?_getD]
  cases hq : z[i % z.length]? with
  | none => simp [AV.ok, AV.refs]
  | some x => simpa using hz x (List.mem_of_getElem? hq)
theorem rangeCells_one {z : List AV} (n : Nat) (hz : ∀ v ∈ z, v.one = true) (hn : n = 0 ∨ 0 < z.length) : ∀ v ∈ rangeCells z n, v.one = true := by
  intro v hv
  simp only [rangeCells, List.mem_map, List.mem_range] at hv
  obtain ⟨i, hi, rfl⟩ := hv
  have hz' : 0 < z.length := by omega
  have hlt : i % z.length < z.length := Nat.mod_lt _ hz'
  rw [List.getD_eq_getElem?_getD, List.getElem?_eq_getElem hlt]
  exact hz _ (List.getElem_mem hlt)
theorem heap_freeze_other (w : World) (p : Addr) (n k : Nat) (hk : k ≠ p.block) : (w.freeze p n).heap[k]? = w.heap[k]? := by
  unfold World.freeze
  split
  · rfl
  · simp only [Array.getElem?_modify]
    rw [if_neg (fun e => hk e.symm)]
theorem size_freeze (w : World) (p : Addr) (n : Nat) : (w.freeze p n).heap.size = w.heap.size := by
  unfold World.freeze
  split <;> simp
theorem cell_freeze (w : World) (p q : Addr) (n : Nat) : (w.freeze p n).cell? q = w.cell? q := by
  by_cases hb : q.block = p.block
  · unfold World.freeze
    split
    · rfl
    · simp only [World.cell?, Array.getElem?_modify, hb, if_true]
      cases hq : w.heap[p.block]? with
      | none => simp
      | some o => cases o <;> simp
  · exact World.cell?_of_block (w := w) (heap_freeze_other w p n _ hb)
theorem below_freeze' {B : Nat} {w : World} {p : Addr} (hp : B ≤ p.block) (n : Nat) : Below B w (w.freeze p n) := by
  refine ⟨?_, ?_, ?_, by rw [size_freeze]; exact Nat.le_refl _, fun k hk => heap_freeze_other w p n k (by omega)⟩ <;> (unfold World.freeze; split <;> rfl)
theorem bytes_sound (hI : Inv ρ B w0 h w) {k : Nat} (hk : h[k]? = some .hole) (e : TypeId) (b : List UInt8) :
    ∃ cap w', (Conv.stringToBytes e ⟨b.toArray⟩).run P w = .ok (.slice (some ⟨w.heap.size, 0, none⟩) b.length cap) w' ∧ b.length ≤ cap ∧
      Inv (upd ρ k ⟨w.heap.size, 0, cap⟩) B w0 (h.set k (.ro (b.map fun x => .int .u8 x.toNat))) w' := by
  obtain ⟨cap, hcap⟩ : ∃ cap, cap = (Question.appendCap b.length 0 e).cut (w.tape w.drawn (.appendCap b.length 0 e)) := ⟨_, rfl⟩
  have hge : b.length ≤ cap := by rw [hcap]; simp [Question.cut]
  obtain ⟨arr, harr⟩ : ∃ arr : Array Value, arr = ((b.map fun x => Value.int .u8 x.toNat).toArray ++ Array.replicate (cap - b.length) (.int .u8 0)) := ⟨_, rfl⟩
  refine ⟨cap, (w.drew.alloc (.cells arr e)).freeze ⟨w.heap.size, arr.size, none⟩ 1, ?_, hge, ?_⟩
  · have hf : (Question.appendCap b.length 0 e).forced = false := rfl
    simp only [Conv.stringToBytes, Sem.run_bind, run_choose, size_str, hf, Bool.false_eq_true, if_false, Result.andThen_ok, ← hcap, newRow, run_newObj, Sem.run_pure, markStringish, run_shape]
    have h1 : (Array.map (fun b => Value.int .u8 b.toNat) (⟨b.toArray⟩ : ByteArray).data ++ Array.replicate (cap - b.length) (Value.int .u8 0)) = arr := by
      rw [harr]; simp
    rw [h1]
    have h2 : (w.drew.alloc (.cells arr e)).shape? w.heap.size = some (e, arr.size) := by
      unfold World.shape?; rw [show w.heap.size = w.drew.heap.size from rfl, heap_alloc_new]
    rw [show ({ heap := w.heap.push (Obj.cells arr e), tape := w.tape, drawn := w.drawn + 1, os := w.os, output := w.output } : World) = w.drew.alloc (.cells arr e) from rfl, h2]
    rfl
  · refine hI.fill hk ?_ (Nat.le_refl _) ?_ ?_
    · have h1 : Below w.heap.size w (w.drew.alloc (.cells arr e)) := ((Below.refl _ w).drew).alloc (Nat.le_refl _) _
      exact h1.trans (below_freeze' (p := ⟨w.heap.size, arr.size, none⟩) (Nat.le_refl w.heap.size) 1)
    · refine ⟨by rw [size_freeze]; simp, fun j v hj => ?_⟩
      rw [cell_freeze]
      have h2 : (w.drew.alloc (.cells arr e)).heap[w.heap.size]? = some (.cells arr e) := heap_alloc_new w.drew _
      have hjl : j < b.length := by
        rcases Nat.lt_or_ge j b.length with q | q
        · exact q
        · simp [List.getElem?_eq_none (show (b.map fun x => AV.int .u8 (x.toNat : Int)).length ≤ j by simpa using q)] at hj
      simp only [List.getElem?_map, List.getElem?_eq_getElem hjl, Option.map_some, Option.some.injEq] at hj
      subst hj
      unfold World.cell?
      rw [h2]
      simp only [Option.isSome_none, Bool.false_eq_true, if_false, harr, Nat.zero_add]
      rw [Array.getElem?_append_left (by simpa using hjl)]
      simp [AV.real, hjl]
    · simp [AObj.refs, AV.refs]
/-- What an operation that makes a block comes to. -/
def Makes (P : Program) (ρ : Rho) (B : Fr) (w0 w : World) (h : AHeap) (k : Nat) (a : Act) (o : Oper) (v : AV) (obj : AObj) : Prop :=
  ∃ l w', (execOp a.eval o).run P w = .ok (.value (v.real (upd ρ k l))) w' ∧ Inv (upd ρ k l) B w0 (h.set k obj) w' ∧ v.ok (h.set k obj) (upd ρ k l)
theorem alloc_sound (hI : Inv ρ B w0 h w) {a : Act} {env : List AV} (hF : FrameRel ρ env a.tmps) (hok : ∀ v ∈ env, AV.ok h ρ v) {o : Oper} {k : Nat} (hk : h[k]? = some .hole)
    {v : AV} {obj : AObj} (hv : evalAlloc P (evalOperand env) k o = some (v, obj)) : Makes P ρ B w0 w h k a o v obj := by
  unfold evalAlloc at hv
  cases hop : o.op <;> simp only [hop, reduceCtorEq] at hv
  case alloc t =>
    simp only [Option.bind_eq_some_iff] at hv
    obtain ⟨z, hz, hv⟩ := hv
    obtain ⟨h1, h2, h3, h4⟩ := box_sound (P := P) hI hk (zero_ok hz) hv
    refine ⟨_, _, ?_, h2, h4⟩
    rw [h3]
    simp only [execOp, hop, Instr.alloc, Sem.run_bind, run_zero (ρ := ρ) hz, Result.andThen_ok, h1, Sem.run_pure]
  case box t x =>
    simp only [Option.bind_eq_some_iff] at hv
    obtain ⟨u, hu, hv⟩ := hv
    obtain ⟨h1, h2, h3, h4⟩ := box_sound (P := P) hI hk (operand_ok hok hu) hv
    refine ⟨_, _, ?_, h2, h4⟩
    rw [h3]
    simp only [execOp, hop, Instr.box, operand_sound hF hu, Sem.run_bind, Result.andThen_ok, h1, Sem.run_pure]
  case buildSlice t len ps =>
    split at hv
    · rename_i e hu
      simp only [Option.bind_eq_some_iff] at hv
      obtain ⟨s, hs, z, hz, l, hl, hv⟩ := hv
      split at hv
      · rename_i hc
        simp only [Bool.and_eq_true, beq_iff_eq, decide_eq_true_eq] at hc
        obtain ⟨⟨⟨hzp, hzl⟩, hle⟩, hs0⟩ := hc
        simp only [Option.bind_eq_some_iff] at hv
        obtain ⟨cs, hcs, hv⟩ := hv
        split at hv
        · rename_i hc2
          simp only [Bool.and_eq_true, beq_iff_eq, List.all_eq_true] at hc2
          obtain ⟨hone, hlen⟩ := hc2
          cases hv
          have hzc := cells_sized (ρ := ρ) hzp
          have hpos : len * s = 0 ∨ 0 < z.cells.length := by omega
          have hrc := real_rangeCells (ρ := ρ) z.cells (len * s) hpos
          have hfill := fill_sound (ρ := ρ) _ _ _ _ hcs
          have hparts := parts_sound hF _ _ hl
          have hokc := fill_ok _ _ _ _ hcs (rangeCells_ok (len * s) (cells_all_ok (zero_ok (h := h) (ρ := ρ) hz))) (parts_ok hok _ _ hl)
          refine ⟨⟨w.heap.size, 0, len⟩, w.alloc (.cells (cs.map (AV.real ρ)).toArray e), ?_, ?_, ?_⟩
          · have h3 : (ps.map fun p => (p.1, a.eval p.2)) = (l.map fun p => (p.1, p.2.real ρ)).toArray := by apply Array.ext'; simpa using hparts
            have h4 : (madeCells (z.real ρ).cells (len * s)) = ((rangeCells z.cells (len * s)).map (AV.real ρ)).toArray := by
              rw [hzc]; apply Array.ext'; rw [hrc]
            simp only [execOp, hop, h3, Instr.buildSlice, Sem.run_bind, run_underlying hu w, Result.andThen_ok, run_sizeOf' hs]
            rw [if_neg (show ¬ len * s > 2 ^ 24 by omega)]
            by_cases h0 : len * s = 0
            · rw [if_pos h0]
              simp only [Sem.run_bind, Sem.run_pure, Result.andThen_ok]
              have h6 : ((Array.range (len * s)).map fun x => (#[] : Array Value)[x % (#[] : Array Value).size]!) = ((rangeCells z.cells (len * s)).map (AV.real ρ)).toArray := by
                rw [← h4]; simp [h0, madeCells]
              rw [h6, hfill]
              simp [newRow, AV.real, upd, ACap.real]
            · rw [if_neg h0]
              simp only [Sem.run_bind, Sem.run_pure, run_zero (ρ := ρ) hz, Result.andThen_ok]
              have h6 : ((Array.range (len * s)).map fun x => (z.real ρ).cells[x % (z.real ρ).cells.size]!) = ((rangeCells z.cells (len * s)).map (AV.real ρ)).toArray := by
                rw [← h4]; rfl
              rw [h6, hfill]
              simp [newRow, AV.real, upd, ACap.real]
          · refine fill_row hI hk e s len cs _ hone hokc ?_ (by simp [hlen]) ?_
            · simp [List.take_of_length_le]
            · have : len ≤ len * s := Nat.le_mul_of_pos_right _ hs0
              unfold maxLen; omega
          · simp only [AV.ok, AV.refs, Bool.and_eq_true, decide_eq_true_eq]
            exact ⟨live_self hk rfl, by simp [upd]⟩
        · cases hv
      · cases hv
    · cases hv
  case makeSlice t lo co =>
    split at hv
    · rename_i e kl l kc c hu hl hc
      simp only [Option.bind_eq_some_iff] at hv
      obtain ⟨s, hs, b, hb, z, hz, hv⟩ := hv
      split at hv
      · rename_i hcc
        simp only [Bool.and_eq_true, beq_iff_eq, decide_eq_true_eq, List.all_eq_true] at hcc
        obtain ⟨⟨⟨hzp, hzl⟩, hone⟩, h0, hlc, hbc, hc63⟩ := hcc
        cases hv
        obtain ⟨i, hi, hsi⟩ := run_typeSome hs
        have hbi : i.bytes = b := by simpa [bytesA, hi] using hb
        have hiz : i.zero = some (z.real ρ) := by
          simp only [zeroA, hi, Option.bind_some, Option.bind_eq_some_iff] at hz
          obtain ⟨x, hx, hxz⟩ := hz
          rw [hx, real_ofValue ρ x z hxz]
        have hzc := cells_sized (ρ := ρ) hzp
        have hr := run_make (P := P) w t e i _ hu hi hiz kl kc l c h0 hlc (by rw [hbi]; exact hbc) hc63
        have hpos : l.toNat * s = 0 ∨ 0 < z.cells.length := by
          rcases Nat.eq_zero_or_pos s with q | q
          · left; rw [q]; simp
          · right; omega
        have hrc := real_rangeCells (ρ := ρ) z.cells (l.toNat * s) hpos
        have hle : l.toNat * s ≤ c.toNat * s := Nat.mul_le_mul_right _ (by omega)
        refine ⟨⟨w.heap.size, 0, c.toNat⟩, w.alloc (.cells (madeCells (z.real ρ).cells (c.toNat * i.size)) e), ?_, ?_, ?_⟩
        · simp only [execOp, hop, operand_sound hF hl, operand_sound hF hc, AV.real, Sem.run_bind, hr, Result.andThen_ok, Sem.run_pure]
          simp [upd, ACap.real]
        · refine fill_row hI hk e s c.toNat _ _ (rangeCells_one _ hone hpos) (rangeCells_ok _ (cells_all_ok (zero_ok hz))) ?_ ?_ ?_
          · rw [hrc, hzc, hsi]
            simp only [rangeCells, madeCells, List.length_map, List.length_range, Array.toList_map, Array.toList_range, ← List.map_take, List.take_range]
            rw [Nat.min_eq_left hle]
          · rw [size_madeCells, hsi]
          · unfold maxLen; omega
        · simp only [AV.ok, AV.refs, Bool.and_eq_true, decide_eq_true_eq]
          exact ⟨live_self hk rfl, by simp [upd]; omega⟩
      · cases hv
    · cases hv
  case makeMap t r =>
    cases r <;> simp only [reduceCtorEq, Option.some.injEq, Prod.mk.injEq] at hv
    obtain ⟨rfl, rfl⟩ := hv
    refine ⟨⟨w.heap.size, 0, 0⟩, w.alloc (.map #[] 0), ?_, ?_, ?_⟩
    · simp [execOp, hop, Instr.makeMap, AV.real, upd]
    · refine hI.fill hk (below_alloc w _) (Nat.le_refl _) ?_ rfl
      exact ⟨fun hb => Nat.lt_irrefl _ (hI.size _ hb), #[], 0, heap_alloc_new w _, rfl⟩
    · simp only [AV.ok, AV.refs]; exact live_self hk rfl
  case convert s d x =>
    split at hv
    · rename_i e b hs hd hx
      split at hv
      · rename_i he
        cases hv
        obtain ⟨cap, w', h1, h2, h3⟩ := bytes_sound (P := P) hI hk e b
        refine ⟨⟨w.heap.size, 0, cap⟩, w', ?_, h3, ?_⟩
        · simp only [execOp, hop, operand_sound hF hx, AV.real, convert, Sem.run_bind, run_underlying hs w, run_underlying hd w, run_underlying he w, Result.andThen_ok, h1, Sem.run_pure]
          simp [upd, ACap.real]
        · simp only [AV.ok, AV.refs, Bool.and_eq_true, decide_eq_true_eq]
          exact ⟨live_self hk rfl, by simp [upd]; omega⟩
      · cases hv
    · cases hv
end
end Go.Am
