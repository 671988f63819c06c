/- Operations that write: stores, appends, copies, maps. -/
import Derived.Test.YtfnlokknpldkgaaAmH
import Derived.Laws.CopyOwn
set_option linter.unusedVariables false
set_option linter.unusedSimpArgs false
namespace Go.Am
open Go Go.RowKit
section
variable (P : Program)
def spliceA (cs : List AV) (o : Nat) (vs : List AV) : List AV := cs.take o ++ vs ++ cs.drop (o + vs.length)
def storeA (h : AHeap) (t : TypeId) (x v : AV) : Option AHeap :=
  match x with
  | .ptr (some (k, o)) => match h[k]? with
    | some (.row t' sz cs) => (szOf P t).bind fun s =>
      if v.plain && v.cells.all AV.one && v.cells.length == s && decide (o + s ≤ cs.length) then some (h.set k (.row t' sz (spliceA cs o v.cells))) else none
    | _ => none
  | _ => none
/-- The cells that an append or a copy takes: so many elements of so many cells. -/
def sourceA (h : AHeap) (sz : Nat) : AV → Option (Nat × List AV)
  | .sl none 0 _ => some (0, [])
  | .slE _ _ _ _ _ => some (0, [])
  | .sl (some (k, o)) m _ => (cellsAt h k).bind fun cs => if o + m * sz ≤ cs.length then some (m, (cs.drop o).take (m * sz)) else none
  | .str s => if sz = 1 then some (s.length, s.map fun b => .int .u8 b.toNat) else none
  | _ => none
def notInt (t : TypeId) : Bool := match P.underlying t with
  | some (.int _) => false
  | some _ => true
  | none => false
def appendA (h : AHeap) (slot : Nat) (t u : TypeId) (s x : AV) : Option (AV × AHeap) :=
  match P.underlying t with
  | some (.slice e) => (szOf P e).bind fun sz => (bytesA P e).bind fun by' => (zeroA P e).bind fun z => (sourceA h sz x).bind fun src =>
    if notInt P u && decide (0 < sz) && src.2.all AV.one && z.plain && z.cells.length == sz then
      match s with
      | .sl none 0 _ => if src.1 = 0 then some (.sl none 0 (.fix 0), h) else
          if src.1 * by' ≤ 140737488355328 ∧ src.1 ≤ 9223372036854775807 then some (.sl (some (slot, 0)) src.1 (.rel 0), h.set slot (.row e sz src.2)) else none
      | .sl (some (k, 0)) n (.rel 0) => match h[k]? with
        | some (.row t' sz' cs) => if t' = e ∧ sz' = sz ∧ cs.length = n * sz ∧ (n + src.1) * by' ≤ 140737488355328 ∧ n + src.1 ≤ 9223372036854775807 then
            some (.sl (some (slot, 0)) (n + src.1) (.rel 0), (h.set k .dead).set slot (.row e sz (cs ++ src.2))) else none
        | _ => none
      | .sl (some _) 0 (.fix 0) => if src.1 = 0 then none else
          if src.1 * by' ≤ 140737488355328 ∧ src.1 ≤ 9223372036854775807 then some (.sl (some (slot, 0)) src.1 (.rel 0), h.set slot (.row e sz src.2)) else none
      | _ => none
    else none
  | _ => none
def copyA (h : AHeap) (t : TypeId) (d x : AV) : Option (AV × AHeap) :=
  match P.underlying t, d with
  | some (.slice e), .sl (some (k, o)) n _ => (szOf P e).bind fun sz => (sourceA h sz x).bind fun src =>
    match h[k]? with
    | some (.row t' sz' cs) =>
      let m := min src.1 n
      if src.2.all AV.one && decide (o + m * sz ≤ cs.length) then some (.int .i64 m, h.set k (.row t' sz' (spliceA cs o (src.2.take (m * sz))))) else none
    | _ => none
  | _, _ => none
def putA (k v : AV) : List (AV × AV) → Option (List (AV × AV))
  | [] => some [(k, v)]
  | e :: es => match sameKey k e.1 with
    | some true => some ((k, v) :: es)
    | some false => (putA k v es).map (e :: ·)
    | none => none
def updateA (h : AHeap) (t : TypeId) (m k v : AV) : Option AHeap :=
  match P.underlying t, m with
  | some (.map kt _), .map (some r) => match h[r]? with
    | some (.map es) => if fitsKey P kt k then (putA k v es).map fun es' => h.set r (.map es') else none
    | _ => none
  | _, _ => none
def dropA (k : AV) : List (AV × AV) → Option (List (AV × AV))
  | [] => some []
  | e :: es => match sameKey k e.1 with
    | some true => some es
    | some false => (dropA k es).map (e :: ·)
    | none => none
def deleteA (h : AHeap) (t : TypeId) (m k : AV) : Option AHeap :=
  match P.underlying t, m with
  | some (.map kt _), .map (some r) => match h[r]? with
    | some (.map es) => if fitsKey P kt k then (dropA k es).map fun es' => h.set r (.map es') else none
    | _ => none
  | _, _ => none
/-- A literal's row whose bytes were a text's: nobody writes it any more. -/
def freezeA (h : AHeap) (s d : TypeId) : AV → Option (AV × AHeap)
  | .sl (some (k, o)) n c => match P.underlying s, P.underlying d with
    | some (.slice _), some (.slice e) => match P.underlying e with
      | some (.int .u8) => match h[k]? with
        | some (.row _ _ cs) => if s == d then some (.sl (some (k, o)) n c, h.set k (.ro cs)) else none
        | _ => none
      | _ => none
    | _, _ => none
  | _ => none
/-- An operation that writes: its value, if it has one, and memory behind it. -/
def evalEff (h : AHeap) (E : Operand → Option AV) (slot : Nat) (o : Oper) : Option (Option AV × AHeap) :=
  match o.op with
  | .store t a x => (E a).bind fun p => (E x).bind fun v => (storeA P h t p v).map (none, ·)
  | .mapUpdate t m k x => (E m).bind fun r => (E k).bind fun k => (E x).bind fun v => (updateA P h t r k v).map (none, ·)
  | .convert s d x => (E x).bind fun v => (freezeA P h s d v).map fun r => (some r.1, r.2)
  | .call { callee := .builtin .append, args, argTypes } => match args.toList, argTypes.toList with
    | [s, x], [t, u] => (E s).bind fun s => (E x).bind fun x => (appendA P h slot t u s x).map fun r => (some r.1, r.2)
    | _, _ => none
  | .call { callee := .builtin .copy, args, argTypes } => match args.toList, argTypes.toList with
    | [s, x], [t, _] => (E s).bind fun s => (E x).bind fun x => (copyA P h t s x).map fun r => (some r.1, r.2)
    | _, _ => none
  | .call { callee := .builtin .delete, args, argTypes } => match args.toList, argTypes.toList with
    | [m, k], [t, _] => (E m).bind fun r => (E k).bind fun k => (deleteA P h t r k).map (some (.tup []), ·)
    | _, _ => none
  | _ => none
end
section
variable {P : Program} {ρ : Rho} {B : Fr} {w0 w : World} {h : AHeap}
theorem live_set_there {h : AHeap} {k : Nat} {x y : AObj} (hk : h[k]? = some x) (hx : x.there = true) (hy : y.there = true) (i : Nat) : live (h.set k y) i = live h i := by
  have hklt : k < h.length := by
    rcases Nat.lt_or_ge k h.length with q | q
    · exact q
    · simp [List.getElem?_eq_none q] at hk
  by_cases hi : i = k
  · subst hi; simp [live, List.getElem?_set_self hklt, hk, hx, hy]
  · simp [live, List.getElem?_set_ne (fun e => hi e.symm)]
theorem refs_obj_mono {p q : Nat → Bool} {c d : Nat → Nat} (hm : ∀ k, p k = true → q k = true ∧ d k = c k) {x : AObj} (hx : x.refs p c = true) : x.refs q d = true := by
  cases x with
  | hole => rfl
  | dead => rfl
  | ro cs => simp only [AObj.refs, List.all_eq_true] at hx ⊢; exact fun v hv => refs_mono hm v (hx v hv)
  | row t sz cs => simp only [AObj.refs, List.all_eq_true] at hx ⊢; exact fun v hv => refs_mono hm v (hx v hv)
  | map es => simp only [AObj.refs, List.all_eq_true, Bool.and_eq_true] at hx ⊢; exact fun v hv => ⟨refs_mono hm _ (hx v hv).1, refs_mono hm _ (hx v hv).2⟩
/-- **A block of the call's own is written.** -/
theorem Inv.put (hI : Inv ρ B w0 h w) {k : Nat} {x y : AObj} (hk : h[k]? = some x) (hx : x.own = true) (hy : y.own = true ∨ y = .dead) {w' : World}
    (hbelow : Kept B w w') (hb : ∀ i, i ≠ (ρ k).blk → w'.heap[i]? = w.heap[i]?) (hrel : ObjRel ρ B w' (ρ k) y) (hwf : y.refs (live h) (fun i => (ρ i).cap) = true) :
    Inv ρ B w0 (h.set k y) w' := by
  have hklt : k < h.length := by
    rcases Nat.lt_or_ge k h.length with q | q
    · exact q
    · simp [List.getElem?_eq_none q] at hk
  have hxt : x.there = true := by cases x <;> first | rfl | cases hx
  have hyt : y.there = true := by rcases hy with hy | rfl; (cases y <;> first | rfl | cases hy); rfl
  have old : ∀ i z, i ≠ k → (h.set k y)[i]? = some z → h[i]? = some z := fun i z hi hz => by
    rwa [List.getElem?_set_ne (fun e => hi e.symm)] at hz
  have new : ∀ z, (h.set k y)[k]? = some z → z = y := fun z hz => by
    rw [List.getElem?_set_self hklt] at hz; exact (Option.some.inj hz).symm
  have hm : ∀ i, live h i = true → live (h.set k y) i = true ∧ (ρ i).cap = (ρ i).cap := fun i hi => ⟨by rw [live_set_there hk hxt hyt]; exact hi, rfl⟩
  have oy : ∀ z, (h.set k y)[k]? = some z → z.own = true → x.own = true := fun _ _ _ => hx
  refine ⟨hI.below.trans hbelow, fun q hq => Nat.lt_of_lt_of_le (hI.size q hq) hbelow.size, ?_, ?_, ?_, ?_⟩
  · intro i z hz
    by_cases hi : i = k
    · subst hi; rw [new z hz]; exact hrel
    · have hz' := old i z hi hz
      have hr := hI.obj i z hz'
      cases z with
      | hole => trivial
      | dead => trivial
      | ro cs =>
        have := hI.sepr k i x cs hk hz' hx
        exact objRel_kept hbelow.size (fun _ => hb _ (fun e => this e.symm)) hr
      | row t sz cs => exact objRel_kept hbelow.size (fun _ => hb _ (hI.sep i k _ _ hz' hk rfl hx hi)) hr
      | map es => exact objRel_kept hbelow.size (fun _ => hb _ (hI.sep i k _ _ hz' hk rfl hx hi)) hr
  · intro i j a b ha hb' oa ob hij
    by_cases hi : i = k
    · have hj : j ≠ k := fun e => hij (hi.trans e.symm)
      subst hi; exact hI.sep i j x b hk (old j b hj hb') hx ob hij
    · by_cases hj : j = k
      · subst hj; exact hI.sep i j a x (old i a hi ha) hk oa hx hij
      · exact hI.sep i j a b (old i a hi ha) (old j b hj hb') oa ob hij
  · intro i j a cs ha hb' oa
    by_cases hj : j = k
    · subst hj
      have e := new _ hb'
      rcases hy with hy | hy
      · rw [← e] at hy; cases hy
      · rw [← e] at hy; cases hy
    · by_cases hi : i = k
      · subst hi; exact hI.sepr i j x cs hk (old j _ hj hb') hx
      · exact hI.sepr i j a cs (old i a hi ha) (old j _ hj hb') oa
  · intro i z hz
    by_cases hi : i = k
    · subst hi; rw [new z hz]; exact refs_obj_mono hm hwf
    · exact refs_obj_mono hm (hI.wf i z (old i z hi hz))
/-- What a write comes to. -/
def Writes (P : Program) (ρ : Rho) (B : Fr) (w0 w : World) (h : AHeap) (a : Act) (o : Oper) (v : Option AV) (h' : AHeap) : Prop :=
  ∃ ρ' w', (execOp a.eval o).run P w = .ok (match v with | some v => .value (v.real ρ') | none => .skip) w' ∧ Inv ρ' B w0 h' w' ∧
    (∀ i, live h i = true → live h' i = true ∧ ρ' i = ρ i) ∧ (∀ u, v = some u → u.ok h' ρ')
theorem row_at (hI : Inv ρ B w0 h w) {k : Nat} {t : TypeId} {sz : Nat} {cs : List AV} (hk : h[k]? = some (.row t sz cs)) :
    ¬ B (ρ k).blk ∧ (∀ o, adr ρ k o = ⟨(ρ k).blk, o, none⟩) ∧ ∃ arr, w.heap[(ρ k).blk]? = some (.cells arr t (0, 0)) ∧ arr.toList.take cs.length = cs.map (AV.real ρ) ∧
      arr.size = (ρ k).cap * sz ∧ (ρ k).cap ≤ maxLen ∧ (∀ v ∈ cs, v.one = true) ∧ cs.length ≤ arr.size := by
  obtain ⟨h1, h2, arr, h3, h4, h5, h6, h7⟩ := hI.obj k _ hk
  refine ⟨h1, fun o => by simp [adr, h2], arr, h3, h4, h5, h6, h7, ?_⟩
  have := congrArg List.length h4
  simp at this
  omega
theorem splice_take (L : List Value) (cs vs : List AV) (o : Nat) (hL : L.take cs.length = cs.map (AV.real ρ)) (hle : o + vs.length ≤ cs.length) :
    (L.take o ++ vs.map (AV.real ρ) ++ L.drop (o + vs.length)).take (spliceA cs o vs).length = (spliceA cs o vs).map (AV.real ρ) := by
  have hlen : (spliceA cs o vs).length = cs.length := by simp [spliceA]; omega
  have hLl : cs.length ≤ L.length := by have := congrArg List.length hL; simp at this; omega
  rw [hlen]
  have e1 : L.take o = (cs.take o).map (AV.real ρ) := by
    rw [List.map_take, ← hL, List.take_take, Nat.min_eq_left (by omega)]
  have e2 : (L.drop (o + vs.length)).take (cs.length - (o + vs.length)) = (cs.drop (o + vs.length)).map (AV.real ρ) := by
    rw [List.map_drop, ← hL, List.drop_take]
  rw [e1]
  unfold spliceA
  rw [List.map_append, List.map_append, ← e2]
  rw [List.take_append]
  congr 1
  · apply List.take_of_length_le; simp; omega
  · congr 1; simp; omega
theorem store_sound (hI : Inv ρ B w0 h w) {t : TypeId} {p v : AV} {h' : AHeap} (hv : v.ok h ρ) (hs : storeA P h t p v = some h') :
    ∃ w', (Instr.storeAt t (p.real ρ) (v.real ρ)).run P w = .ok () w' ∧ Inv ρ B w0 h' w' ∧ (∀ i, live h i = true → live h' i = true) := by
  unfold storeA at hs
  split at hs
  · rename_i k o
    split at hs
    · rename_i t' sz cs hk
      simp only [Option.bind_eq_some_iff] at hs
      obtain ⟨s, hsz, hs⟩ := hs
      split at hs
      · rename_i hc
        simp only [Bool.and_eq_true, beq_iff_eq, decide_eq_true_eq, List.all_eq_true] at hc
        obtain ⟨⟨⟨hp, h1⟩, hl⟩, hle⟩ := hc
        cases hs
        obtain ⟨hB, had, arr, harr, htk, hsize, hcap, hone, hcl⟩ := row_at hI hk
        have hcs := cells_sized (ρ := ρ) hp
        have hst := run_storeCells_at P (ρ k).blk o t' (v.cells.map (AV.real ρ)) 0 arr w harr (by simp; omega) (by
          intro x hx
          simp only [List.mem_map] at hx
          obtain ⟨u, hu, rfl⟩ := hx
          exact AV.one_real ρ (h1 u hu))
        simp only [Nat.add_zero, List.length_map] at hst
        refine ⟨w.setRow (ρ k).blk (arr.toList.take o ++ v.cells.map (AV.real ρ) ++ arr.toList.drop (o + v.cells.length)).toArray, ?_, ?_, fun i hi => by rw [live_set_there hk rfl rfl]; exact hi⟩
        · simp only [Instr.storeAt, real_ptr, Instr.sureAddr, Sem.run_bind, Sem.run_pure, Result.andThen_ok, storeVar, run_sizeOf' hsz, hcs]
          rw [if_neg (by simp [hl])]
          rw [had]
          exact hst
        · refine hI.put hk rfl (.inl rfl) (Kept.of_put (below_setRow (Below.refl _ _) (Nat.le_refl _) _) (fun i hi => setRow_other w _ i _ hi) hB) (fun i hi => setRow_other w _ i _ hi) ?_ ?_
          · have h2 := hI.obj k _ hk
            refine ⟨hB, h2.2.1, _, setRow_heap w _ arr _ t' _ harr, ?_, ?_, hcap, ?_⟩
            · have := splice_take (ρ := ρ) arr.toList cs v.cells o htk (by omega)
              simpa using this
            · simp; omega
            · intro u hu
              simp only [spliceA, List.mem_append] at hu
              rcases hu with (hu | hu) | hu
              · exact hone u (List.mem_of_mem_take hu)
              · exact h1 u hu
              · exact hone u (List.mem_of_mem_drop hu)
          · have hwf := hI.wf k _ hk
            simp only [AObj.refs, List.all_eq_true] at hwf ⊢
            intro u hu
            simp only [spliceA, List.mem_append] at hu
            rcases hu with (hu | hu) | hu
            · exact hwf u (List.mem_of_mem_take hu)
            · exact cells_all_ok hv u hu
            · exact hwf u (List.mem_of_mem_drop hu)
      · cases hs
    · cases hs
  · cases hs
theorem Inv.drew (hI : Inv ρ B w0 h w) : Inv ρ B w0 h w.drew := by
  refine ⟨hI.below.drew, hI.size, fun k o hk => ?_, hI.sep, hI.sepr, hI.wf⟩
  exact objRel_kept (w := w) (Nat.le_refl _) (fun _ => rfl) (hI.obj k o hk)
theorem source_sound (hI : Inv ρ B w0 h w) {sz m : Nat} {x : AV} {news : List AV} (hx : x.ok h ρ) (hs : sourceA h sz x = some (m, news)) :
    (∀ W, (Builtin.lenOf (x.real ρ)).run P W = .ok m W) ∧ (Builtin.firstCells sz m (x.real ρ)).run P w = .ok (news.map (AV.real ρ)).toArray w ∧ news.length = m * sz ∧ (∀ v ∈ news, AV.ok h ρ v) := by
  unfold sourceA at hs
  split at hs
  · cases hs
    exact ⟨fun W => rfl, rfl, by simp, by simp⟩
  · cases hs
    refine ⟨fun W => rfl, ?_, by simp, by simp⟩
    simp only [AV.real, Builtin.firstCells, Nat.zero_mul]
    simp [loadCells, loadCellsFrom]
  · rename_i k o m' c
    simp only [Option.bind_eq_some_iff] at hs
    obtain ⟨cs, hcs, hs⟩ := hs
    split at hs
    · rename_i hle
      cases hs
      refine ⟨fun W => rfl, ?_, by simp; omega, fun v hv => cells_ok hI hcs v (List.mem_of_mem_drop (List.mem_of_mem_take hv))⟩
      simp only [real_sl, Builtin.firstCells]
      exact run_loadCells hI hcs o (m * sz) hle
    · cases hs
  · rename_i s
    split at hs
    · rename_i h1
      cases hs
      subst h1
      refine ⟨fun W => by simp [Builtin.lenOf, AV.real, size_str], ?_, by simp, ?_⟩
      · simp only [Builtin.firstCells, AV.real, Sem.run_pure, List.map_map]
        congr 1
        rw [extract_str s 0 s.length (Nat.le_refl _)]
        apply Array.ext'
        simp [AV.real, Function.comp_def]
      · intro v hv
        simp only [List.mem_map] at hv
        obtain ⟨b, hb, rfl⟩ := hv
        rfl
    · cases hs
  · cases hs
theorem append_types (t u ty e : TypeId) (s x : Value) (ht : P.underlying t = some (.slice e)) (hu : notInt P u = true) :
    (Builtin.append_ #[t, u] ty #[s, x]).run P w = (Builtin.append_ #[t, t] ty #[s, x]).run P w := by
  unfold notInt at hu
  cases hd : P.underlying u with
  | none => simp [hd] at hu
  | some d =>
    cases s with
    | slice base sLen sCap =>
      simp only [Builtin.append_, List.getElem?_toArray, List.getElem?_cons_zero, List.getElem?_cons_succ, Sem.run_bind, run_underlying ht w, Result.andThen_ok, Sem.run_pure]
      cases hi : P.info? e with
      | none => simp [sizeOf, typeInfo, hi]
      | some i =>
        have hsz : ∀ W, (sizeOf e).run P W = .ok i.size W := fun W => by simp [sizeOf, typeInfo, hi]
        simp only [hsz, Result.andThen_ok, Sem.run_bind, run_underlying hd w, run_underlying ht w, Sem.run_pure]
        cases d <;> first | rfl | (simp [hd] at hu)
    | _ => simp [Builtin.append_, run_underlying ht]
theorem run_append_grow' (t u ty e : TypeId) (i : TypeInfo) (z : Value) (ht : P.underlying t = some (.slice e)) (hu : notInt P u = true) (hi : P.info? e = some i) (hz : i.zero = some z)
    (base : Option Addr) (sLen sCap m : Nat) (x : Value) (olds news : Array Value) (hlen : ∀ W, (Builtin.lenOf x).run P W = .ok m W)
    (hold : (Builtin.firstCells i.size sLen (.slice base sLen sCap)).run P w.drew = .ok olds w.drew) (hnew : (Builtin.firstCells i.size m x).run P w.drew = .ok news w.drew)
    (hg : sCap < sLen + m) (h63 : ((sLen + m : Nat) : Int) ≤ 9223372036854775807) (hfit : Builtin.nextslicecap (sLen + m) sCap * i.bytes ≤ 281474976710656) :
    (Builtin.append_ #[t, u] ty #[.slice base sLen sCap, x]).run P w =
      .ok (.slice (some ⟨w.heap.size, 0, none⟩) (sLen + m) (grownCap w (sLen + m) sCap e))
        (w.drew.alloc (.cells (olds ++ news ++ Builtin.zeroCells z.cells (grownCap w (sLen + m) sCap e - (sLen + m))) e)) := by
  rw [append_types t u ty e _ _ ht hu]
  have hn : ¬ (sLen + m ≤ sCap) := by omega
  have h63' : ¬ (9223372036854775807 < ((sLen : Int) + (m : Int))) := by omega
  have h48' : ¬ (281474976710656 < Builtin.nextslicecap (sLen + m) sCap * i.bytes) := by omega
  simp [Builtin.append_, run_underlying ht, sizeOf, typeInfo, zeroValue, hi, hz, hlen, hn, h63', h48', Question.forced, hold, hnew, newRow, grownCap]
theorem run_append_room' (t u ty e : TypeId) (i : TypeInfo) (ht : P.underlying t = some (.slice e)) (hu : notInt P u = true) (hi : P.info? e = some i)
    (a : Addr) (sLen sCap m : Nat) (x : Value) (news : Array Value) (w' : World) (hlen : ∀ W, (Builtin.lenOf x).run P W = .ok m W)
    (hnew : (Builtin.firstCells i.size m x).run P w = .ok news w) (hroom : sLen + m ≤ sCap)
    (hst : (storeCells (a.add (sLen * i.size)) news.toList).run P w = .ok () w') :
    (Builtin.append_ #[t, u] ty #[.slice (some a) sLen sCap, x]).run P w = .ok (.slice (some a) (sLen + m) sCap) w' := by
  rw [append_types t u ty e _ _ ht hu]
  simp [Builtin.append_, run_underlying ht, sizeOf, typeInfo, hi, hlen, hroom, hnew, hst]
theorem run_append_nothing (t u ty e : TypeId) (i : TypeInfo) (ht : P.underlying t = some (.slice e)) (hu : notInt P u = true) (hi : P.info? e = some i)
    (x : Value) (news : Array Value) (hlen : ∀ W, (Builtin.lenOf x).run P W = .ok 0 W) (hnew : (Builtin.firstCells i.size 0 x).run P w = .ok news w) :
    (Builtin.append_ #[t, u] ty #[.slice none 0 0, x]).run P w = .ok (.slice none 0 0) w := by
  rw [append_types t u ty e _ _ ht hu]
  simp [Builtin.append_, run_underlying ht, sizeOf, typeInfo, hi, hlen, hnew]
theorem append_sound (hI : Inv ρ B w0 h w) {slot : Nat} (hs : h[slot]? = some .hole) {t u ty : TypeId} {s x v : AV} {h' : AHeap} (hso : s.ok h ρ) (hx : x.ok h ρ)
    (hv : appendA P h slot t u s x = some (v, h')) :
    ∃ ρ' w', (Builtin.append_ #[t, u] ty #[s.real ρ, x.real ρ]).run P w = .ok (v.real ρ') w' ∧ Inv ρ' B w0 h' w' ∧ (∀ i, live h i = true → live h' i = true ∧ ρ' i = ρ i) ∧ v.ok h' ρ' := by
  unfold appendA at hv
  split at hv
  · rename_i e ht
    simp only [Option.bind_eq_some_iff] at hv
    obtain ⟨sz, hsz, by', hby, z, hz, ⟨m, news⟩, hsrc, hv⟩ := hv
    split at hv
    · rename_i hc
      simp only [Bool.and_eq_true, beq_iff_eq, decide_eq_true_eq, List.all_eq_true] at hc
      obtain ⟨⟨⟨⟨hu, hsz0⟩, hone⟩, hzp⟩, hzl⟩ := hc
      obtain ⟨i, hi, hsi⟩ := run_typeSome hsz
      have hbi : i.bytes = by' := by simpa [bytesA, hi] using hby
      have hiz : i.zero = some (z.real ρ) := by
        simp only [zeroA, hi, Option.bind_some, Option.bind_eq_some_iff] at hz
        obtain ⟨y, hy, hyz⟩ := hz
        rw [hy, real_ofValue ρ y z hyz]
      have hzc := cells_sized (ρ := ρ) hzp
      obtain ⟨hlen, hnew, hnl, hnok⟩ := source_sound (P := P) hI hx hsrc
      obtain ⟨-, hnewd, -, -⟩ := source_sound (P := P) hI.drew hx hsrc
      subst hsi hbi
      -- a new row
      have grow : ∀ (base : Option Addr) (n cap : Nat) (olds : List AV) (h1 : AHeap), Inv ρ B w0 h1 w → h1[slot]? = some .hole → (∀ j, live h j = true → live h1 j = true) →
          (Builtin.firstCells i.size n (.slice base n cap)).run P w.drew = .ok (olds.map (AV.real ρ)).toArray w.drew → olds.length = n * i.size → (∀ c ∈ olds, c.one = true) → (∀ c ∈ olds, AV.ok h ρ c) →
          cap < n + m → (n + m) * i.bytes ≤ 140737488355328 → n + m ≤ 9223372036854775807 →
          ∃ ρ' w', (Builtin.append_ #[t, u] ty #[.slice base n cap, x.real ρ]).run P w = .ok ((AV.sl (some (slot, 0)) (n + m) (.rel 0)).real ρ') w' ∧ Inv ρ' B w0 (h1.set slot (.row e i.size (olds ++ news))) w' ∧
            (∀ j, live h j = true → live (h1.set slot (.row e i.size (olds ++ news))) j = true ∧ ρ' j = ρ j) ∧ (AV.sl (some (slot, 0)) (n + m) (.rel 0)).ok (h1.set slot (.row e i.size (olds ++ news))) ρ' := by
        intro base n cap olds h1 hI1 hs1 hlv hold hol hoo hook hcap hb h63
        have hr := run_append_grow' (P := P) (w := w) t u ty e i _ ht hu hi hiz base n cap m (x.real ρ) _ _ hlen hold hnewd hcap (by omega) (growslice_fits hcap hb)
        have hge := grownCap_ge w (n + m) cap e
        have hle := grownCap_le_maxLen w (n + m) cap e (by unfold maxLen; omega)
        refine ⟨upd ρ slot ⟨w.heap.size, 0, grownCap w (n + m) cap e⟩, (w.drew.alloc (.cells ((olds.map (AV.real ρ)).toArray ++ (news.map (AV.real ρ)).toArray ++ Builtin.zeroCells (z.real ρ).cells (grownCap w (n + m) cap e - (n + m))) e)),
          ?_, ?_, fun j hj => ⟨live_set hs1 _ j (hlv j hj), upd_live hs1 _ j (hlv j hj)⟩, ?_⟩
        · rw [hr]
          simp [AV.real, upd, ACap.real]
        · refine fill_row hI1.drew hs1 e i.size _ (olds ++ news) _ ?_ ?_ ?_ ?_ hle
          · intro c hc; rcases List.mem_append.1 hc with hc | hc; exact hoo c hc; exact hone c hc
          · intro c hc
            have : ∀ c, AV.ok h ρ c → AV.ok h1 ρ c := fun c hc => refs_mono (fun j hj => ⟨hlv j hj, rfl⟩) c hc
            rcases List.mem_append.1 hc with hc | hc; exact this c (hook c hc); exact this c (hnok c hc)
          · simp only [Array.toList_append, List.map_append]
            rw [List.take_append_of_le_length (by simp)]
            exact List.take_of_length_le (by simp)
          · simp only [Array.size_append, List.size_toArray, List.length_map, size_zeroCells, hzc, hzl, hol, hnl, ← Nat.add_mul]
            congr 1
            omega
        · simp only [AV.ok, AV.refs, Bool.and_eq_true, decide_eq_true_eq]
          exact ⟨live_self hs1 rfl, by simp [upd]; omega⟩
      split at hv
      · rename_i c
        simp only [AV.ok, AV.refs, decide_eq_true_eq] at hso
        obtain ⟨-, rfl⟩ := hso
        split at hv
        · rename_i hm
          simp only at hm
          subst hm
          cases hv
          exact ⟨ρ, w, run_append_nothing t u ty e i ht hu hi _ _ hlen hnew, hI, fun j hj => ⟨hj, rfl⟩, rfl⟩
        · split at hv
          · rename_i hm hb
            cases hv
            have := grow none 0 0 [] h hI hs (fun _ hj => hj) rfl (by simp) (by simp) (by simp) (by simp only at hm; omega) (by simpa using hb.1) (by simpa using hb.2)
            simpa [AV.real, ACap.real] using this
          · cases hv
      · rename_i k n
        split at hv
        · rename_i t' sz' cs hk
          split at hv
          · rename_i hc
            obtain ⟨rfl, rfl, hcl, hb, h63⟩ := hc
            cases hv
            obtain ⟨hB, had, arr, harr, htk, hsize, hcap, hcone, hcle⟩ := row_at hI hk
            have hsk : slot ≠ k := fun e => by subst e; rw [hs] at hk; cases hk
            have hsd : ∀ y, (h.set k y)[slot]? = some .hole := fun y => by rw [List.getElem?_set_ne (fun e => hsk e.symm)]; exact hs
            have hlv : ∀ j, live h j = true → live (h.set k .dead) j = true := fun j hj => by rw [live_set_there hk rfl rfl]; exact hj
            have hwf := hI.wf k _ hk
            simp only [AObj.refs, List.all_eq_true] at hwf
            have hIp : ∀ w', Kept B w w' → (∀ i, i ≠ (ρ k).blk → w'.heap[i]? = w.heap[i]?) → Inv ρ B w0 (h.set k .dead) w' := fun w' h1 h2 => hI.put hk rfl (.inr rfl) h1 h2 trivial rfl
            have hrs : (AV.sl (some (k, 0)) n (.rel 0)).real ρ = .slice (some ⟨(ρ k).blk, 0, none⟩) n (ρ k).cap := by rw [real_sl, had]; rfl
            rw [hrs]
            by_cases hroom : n + m ≤ (ρ k).cap
            · have hst := run_storeCells_at P (ρ k).blk (n * i.size) t' (news.map (AV.real ρ)) 0 arr w harr (by
                simp only [List.length_map, hnl, Nat.add_zero]
                rw [← Nat.add_mul, hsize]; exact Nat.mul_le_mul_right _ hroom) (by
                intro y hy
                simp only [List.mem_map] at hy
                obtain ⟨q, hq, rfl⟩ := hy
                exact AV.one_real ρ (hone q hq))
              simp only [Nat.add_zero, List.length_map] at hst
              obtain ⟨arr', harr'⟩ : ∃ a', a' = (arr.toList.take (n * i.size) ++ news.map (AV.real ρ) ++ arr.toList.drop (n * i.size + news.length)).toArray := ⟨_, rfl⟩
              rw [← harr'] at hst
              have hadd : (⟨(ρ k).blk, 0, none⟩ : Addr).add (n * i.size) = ⟨(ρ k).blk, n * i.size, none⟩ := by unfold Addr.add; split <;> simp_all
              have hr := run_append_room' (P := P) (w := w) t u ty t' i ht hu hi ⟨(ρ k).blk, 0, none⟩ n (ρ k).cap m (x.real ρ) _ _ hlen hnew hroom (by rw [hadd]; exact hst)
              have hI2 := hIp _ (Kept.of_put (below_setRow (Below.refl _ w) (Nat.le_refl _) arr') (fun i hi => setRow_other w _ i _ hi) hB) (fun i hi => setRow_other w _ i _ hi)
              refine ⟨upd ρ slot (ρ k), w.setRow (ρ k).blk arr', ?_, ?_, fun j hj => ⟨live_set (hsd _) _ j (hlv j hj), upd_live (hsd _) _ j (hlv j hj)⟩, ?_⟩
              · rw [hr]
                simp [AV.real, upd, ACap.real, (hI.obj k _ hk).2.1]
              · refine hI2.fillAt (hsd _) (Below.refl _ _) (fun j y hj hy => ?_) (fun j cs' hj => ?_) ?_ ?_
                · by_cases hjk : j = k
                  · subst hjk
                    rw [List.getElem?_set_self (by rcases Nat.lt_or_ge j h.length with q | q; exact q; simp [List.getElem?_eq_none q] at hk)] at hj
                    cases hj; cases hy
                  · rw [List.getElem?_set_ne (fun e => hjk e.symm)] at hj
                    exact hI.sep j k y _ hj hk hy rfl hjk
                · by_cases hjk : j = k
                  · subst hjk
                    rw [List.getElem?_set_self (by rcases Nat.lt_or_ge j h.length with q | q; exact q; simp [List.getElem?_eq_none q] at hk)] at hj
                    cases hj
                  · rw [List.getElem?_set_ne (fun e => hjk e.symm)] at hj
                    exact fun e => hI.sepr k j _ cs' hk hj rfl e.symm
                · have hokn : ∀ c ∈ cs ++ news, AV.ok (h.set k .dead) ρ c := by
                    intro c hc
                    have : ∀ c, AV.ok h ρ c → AV.ok (h.set k .dead) ρ c := fun c hc => refs_mono (fun j hj => ⟨hlv j hj, rfl⟩) c hc
                    rcases List.mem_append.1 hc with hc | hc; exact this c (hwf c hc); exact this c (hnok c hc)
                  refine ⟨hB, (hI.obj k _ hk).2.1, arr', setRow_heap w _ arr _ t' _ harr, ?_, ?_, hcap, ?_⟩
                  · have e1 : (cs ++ news).map (AV.real (upd ρ slot (ρ k))) = (cs ++ news).map (AV.real ρ) := by
                      apply List.map_congr_left
                      intro c hc
                      exact real_later (hsd _) _ (hokn c hc)
                    rw [e1, harr']
                    have e2 : arr.toList.take (n * i.size) = cs.map (AV.real ρ) := by rw [← hcl]; exact htk
                    simp only [e2, List.map_append]
                    rw [List.take_append_of_le_length (by simp)]
                    exact List.take_of_length_le (by simp)
                  · rw [harr', ← hsize]; simp [hnl]
                    have : n * i.size + m * i.size ≤ arr.size := by rw [← Nat.add_mul, hsize]; exact Nat.mul_le_mul_right _ hroom
                    omega
                  · intro c hc; rcases List.mem_append.1 hc with hc | hc; exact hcone c hc; exact hone c hc
                · simp only [AObj.refs, List.all_eq_true]
                  intro c hc
                  have : ∀ c, AV.ok h ρ c → AV.ok (h.set k .dead) ρ c := fun c hc => refs_mono (fun j hj => ⟨hlv j hj, rfl⟩) c hc
                  rcases List.mem_append.1 hc with hc | hc
                  · exact ok_later (hsd _) _ _ (this c (hwf c hc))
                  · exact ok_later (hsd _) _ _ (this c (hnok c hc))
              · simp only [AV.ok, AV.refs, Bool.and_eq_true, decide_eq_true_eq]
                exact ⟨live_self (hsd _) rfl, by simp [upd]; omega⟩
            · have hold : (Builtin.firstCells i.size n (.slice (some ⟨(ρ k).blk, 0, none⟩) n (ρ k).cap)).run P w.drew = .ok (cs.map (AV.real ρ)).toArray w.drew := by
                have h1 := run_loadCells (P := P) hI.drew (cs := cs) (k := k) (by simp [cellsAt, hk, objCells]) 0 (n * i.size) (by omega)
                rw [had] at h1
                simp only [Builtin.firstCells]
                rw [h1]
                simp [← hcl]
              exact grow _ n _ cs (h.set k .dead) (hIp w (Kept.refl _ _) (fun _ _ => rfl)) (hsd _) hlv hold hcl hcone hwf (by omega) hb h63
          · cases hv
        · cases hv
      · rename_i a
        split at hv
        · cases hv
        · split at hv
          · rename_i hm hb
            cases hv
            obtain ⟨k, o⟩ := a
            have := grow (some (adr ρ k o)) 0 0 [] h hI hs (fun _ hj => hj) (by simp [Builtin.firstCells, loadCells, loadCellsFrom]) (by simp) (by simp) (by simp) (by simp only at hm; omega) (by simpa using hb.1) (by simpa using hb.2)
            simpa [real_sl, ACap.real] using this
          · cases hv
      · cases hv
    · cases hv
  · cases hv
end
end Go.Am
