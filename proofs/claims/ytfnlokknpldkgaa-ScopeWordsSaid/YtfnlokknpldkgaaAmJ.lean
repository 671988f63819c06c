/- Copies and maps; every operation that writes. -/
import Derived.Test.YtfnlokknpldkgaaAmI
import Derived.ChangeMaps4
set_option linter.unusedVariables false
set_option linter.unusedSimpArgs false
namespace Go.Am
open Go Go.RowKit
section
variable {P : Program} {ρ : Rho} {B : Fr} {w0 w : World} {h : AHeap}
theorem source_prefix (hI : Inv ρ B w0 h w) {sz m n : Nat} {x : AV} {news : List AV} (hs : sourceA h sz x = some (m, news)) (hn : n ≤ m) :
    (Builtin.firstCells sz n (x.real ρ)).run P w = .ok ((news.take (n * sz)).map (AV.real ρ)).toArray w := by
  unfold sourceA at hs
  split at hs
  · cases hs
    simp [AV.real, Builtin.firstCells]
  · cases hs
    have : n = 0 := by omega
    subst this
    simp only [AV.real, Builtin.firstCells, Nat.zero_mul]
    simp [loadCells, loadCellsFrom]
  · rename_i k o m' c
    simp only [Option.bind_eq_some_iff] at hs
    obtain ⟨cs, hcs, hs⟩ := hs
    split at hs
    · rename_i hle
      cases hs
      have hmul : n * sz ≤ m * sz := Nat.mul_le_mul_right _ hn
      simp only [real_sl, Builtin.firstCells]
      rw [run_loadCells hI hcs o (n * sz) (by omega), List.take_take, Nat.min_eq_left hmul]
    · cases hs
  · rename_i s
    split at hs
    · rename_i h1
      cases hs
      subst h1
      simp only [Builtin.firstCells, AV.real, Sem.run_pure]
      congr 1
      rw [extract_str s 0 n hn]
      apply Array.ext'
      simp [AV.real, Function.comp_def, ← List.map_take]
    · cases hs
  · cases hs
theorem copy_sound (hI : Inv ρ B w0 h w) {t u ty : TypeId} {d x v : AV} {h' : AHeap} (hx : x.ok h ρ) (hv : copyA P h t d x = some (v, h')) :
    ∃ w', (Builtin.copy_ #[t, u] ty #[d.real ρ, x.real ρ]).run P w = .ok (v.real ρ) w' ∧ Inv ρ B w0 h' w' ∧ (∀ i, live h i = true → live h' i = true) ∧ v.ok h' ρ := by
  unfold copyA at hv
  split at hv
  · rename_i e k o n c ht
    simp only [Option.bind_eq_some_iff] at hv
    obtain ⟨sz, hsz, ⟨m, news⟩, hsrc, hv⟩ := hv
    split at hv
    · rename_i t' sz' cs hk
      split at hv
      · rename_i hc
        simp only [Bool.and_eq_true, decide_eq_true_eq, List.all_eq_true] at hc
        obtain ⟨hone, hle⟩ := hc
        cases hv
        obtain ⟨hlen, -, hnl, hnok⟩ := source_sound (P := P) hI hx hsrc
        have hpre := source_prefix (P := P) hI hsrc (Nat.min_le_left m n)
        obtain ⟨hB, had, arr, harr, htk, hsize, hcap, hcone, hcl⟩ := row_at hI hk
        obtain ⟨vs, hvs⟩ : ∃ vs, vs = news.take (min m n * sz) := ⟨_, rfl⟩
        have hmul : min m n * sz ≤ m * sz := Nat.mul_le_mul_right _ (Nat.min_le_left m n)
        have hvl : vs.length = min m n * sz := by rw [hvs]; simp; omega
        rw [← hvs] at hpre ⊢
        have hvm : ∀ c ∈ vs, c ∈ news := fun c hc => by rw [hvs] at hc; exact List.mem_of_mem_take hc
        have hst := run_storeCells_at P (ρ k).blk o t' (vs.map (AV.real ρ)) 0 arr w harr (by simp; omega) (by
          intro y hy
          simp only [List.mem_map] at hy
          obtain ⟨q, hq, rfl⟩ := hy
          exact AV.one_real ρ (hone q (hvm q hq)))
        simp only [Nat.add_zero, List.length_map] at hst
        refine ⟨w.setRow (ρ k).blk (arr.toList.take o ++ vs.map (AV.real ρ) ++ arr.toList.drop (o + vs.length)).toArray, ?_, ?_, fun i hi => by rw [live_set_there hk rfl rfl]; exact hi, rfl⟩
        · have hmn : Nat.min m n = min m n := rfl
          rw [real_sl, had]
          simp only [List.append_assoc] at hst
          simp [Builtin.copy_, run_underlying ht, hlen, run_sizeOf' hsz, hmn, hpre, hst, goInt, AV.real]
        · refine hI.put hk rfl (.inl rfl) (Kept.of_put (below_setRow (Below.refl _ _) (Nat.le_refl _) _) (fun i hi => setRow_other w _ i _ hi) hB) (fun i hi => setRow_other w _ i _ hi) ?_ ?_
          · have h2 := hI.obj k _ hk
            refine ⟨hB, h2.2.1, _, setRow_heap w _ arr _ t' _ harr, ?_, ?_, hcap, ?_⟩
            · have := splice_take (ρ := ρ) arr.toList cs vs o htk (by omega)
              simpa using this
            · simp; omega
            · intro y hy
              simp only [spliceA, List.mem_append] at hy
              rcases hy with (hy | hy) | hy
              · exact hcone y (List.mem_of_mem_take hy)
              · exact hone y (hvm y hy)
              · exact hcone y (List.mem_of_mem_drop hy)
          · have hwf := hI.wf k _ hk
            simp only [AObj.refs, List.all_eq_true] at hwf ⊢
            intro y hy
            simp only [spliceA, List.mem_append] at hy
            rcases hy with (hy | hy) | hy
            · exact hwf y (List.mem_of_mem_take hy)
            · exact hnok y (hvm y hy)
            · exact hwf y (List.mem_of_mem_drop hy)
      · cases hv
    · cases hv
  · cases hv
theorem sameNow_of {d : TypeDesc} {k x : AV} {b : Bool} (hd : (∃ q n, d = .int q ∧ k = .int q n) ∨ (∃ s, d = .string ∧ k = .str s)) (hb : sameKey k x = some b) :
    Instr.sameNow d (k.real ρ) (x.real ρ) = some b ∧ (b = true → Instr.sameBits 10000 (x.real ρ) (k.real ρ) = true) := by
  rcases hd with ⟨q, n, rfl, rfl⟩ | ⟨s, rfl, rfl⟩
  · cases x <;> simp only [sameKey, reduceCtorEq] at hb
    rename_i k' m
    split at hb
    · rename_i hk
      subst hk
      simp only [Option.some.injEq] at hb
      subst hb
      refine ⟨by simp [AV.real, Instr.sameNow], fun hh => ?_⟩
      have : n = m := by simpa using hh
      subst this
      simp [AV.real, Instr.sameBits]
    · cases hb
  · cases x <;> simp only [sameKey, reduceCtorEq, Option.some.injEq] at hb
    rename_i m
    subst hb
    refine ⟨by simp [AV.real, Instr.sameNow, beq_str], fun hh => ?_⟩
    have : s = m := by simpa using hh
    subst this
    simp [AV.real, Instr.sameBits, beq_str]
theorem put_sound {d : TypeDesc} {k v : AV} (hd : (∃ q n, d = .int q ∧ k = .int q n) ∨ (∃ s, d = .string ∧ k = .str s)) :
    ∀ (es es' : List (AV × AV)) (ents : List MapEntry) (i : Nat), ents.map (fun e => (e.key, e.val)) = es.map (fun e => (e.1.real ρ, e.2.real ρ)) → putA k v es = some es' →
      (∃ j u old, Instr.findNow d (k.real ρ) ents i = some (some (i + j, u)) ∧ ents[j]? = some old ∧ Instr.sameBits 10000 old.key (k.real ρ) = true ∧
        (ents.modify j fun e => { e with key := k.real ρ, val := v.real ρ }).map (fun e => (e.key, e.val)) = es'.map (fun e => (e.1.real ρ, e.2.real ρ))) ∨
      (Instr.findNow d (k.real ρ) ents i = some none ∧ es' = es ++ [(k, v)])
  | [], es', [], i, _, hp => by simp only [putA, Option.some.injEq] at hp; subst hp; exact .inr ⟨rfl, rfl⟩
  | [], es', _ :: _, i, he, _ => by simp at he
  | _ :: _, es', [], i, he, _ => by simp at he
  | e :: es, es', m :: ents, i, he, hp => by
    simp only [List.map_cons, List.cons.injEq, Prod.mk.injEq] at he
    obtain ⟨⟨hk, hv⟩, he⟩ := he
    simp only [putA] at hp
    cases hb : sameKey k e.1 with
    | none => simp [hb] at hp
    | some b =>
      obtain ⟨h1, h2⟩ := sameNow_of (ρ := ρ) hd hb
      rw [hb] at hp
      rw [← hk] at h1 h2
      cases b with
      | true =>
        simp only [Option.some.injEq] at hp
        subst hp
        refine .inl ⟨0, m.val, m, by simp only [Instr.findNow, h1, Nat.add_zero], rfl, h2 rfl, ?_⟩
        simp [List.modify, he]
      | false =>
        simp only [Option.map_eq_some_iff] at hp
        obtain ⟨es2, hes2, rfl⟩ := hp
        rcases put_sound hd es es2 ents (i + 1) he hes2 with ⟨j, u, old, hj, ho, hsb, hm⟩ | ⟨hn, rfl⟩
        · refine .inl ⟨j + 1, u, old, ?_, by simpa using ho, hsb, ?_⟩
          · simp only [Instr.findNow, h1, hj]; congr 3; omega
          · simp only [List.modify_succ_cons, List.map_cons, hm, hk, hv]
        · exact .inr ⟨by simp only [Instr.findNow, h1]; exact hn, rfl⟩
theorem putA_mem : ∀ (es es' : List (AV × AV)) {k v : AV}, putA k v es = some es' → ∀ e ∈ es', e = (k, v) ∨ e ∈ es
  | [], es', k, v, hp => by simp only [putA, Option.some.injEq] at hp; subst hp; intro e he; simpa using he
  | e :: es, es', k, v, hp => by
    simp only [putA] at hp
    split at hp
    · cases hp
      intro x hx
      rcases List.mem_cons.1 hx with rfl | hx
      · exact .inl rfl
      · exact .inr (List.mem_cons_of_mem _ hx)
    · simp only [Option.map_eq_some_iff] at hp
      obtain ⟨es2, h2, rfl⟩ := hp
      intro x hx
      rcases List.mem_cons.1 hx with rfl | hx
      · exact .inr List.mem_cons_self
      · rcases putA_mem es es2 h2 x hx with h3 | h3
        · exact .inl h3
        · exact .inr (List.mem_cons_of_mem _ h3)
    · cases hp
theorem update_sound (hI : Inv ρ B w0 h w) {t : TypeId} {m k v : AV} {h' : AHeap} (hko : k.ok h ρ) (hvo : v.ok h ρ) (hu : updateA P h t m k v = some h') :
    ∃ w', (Instr.mapUpdate t (m.real ρ) (k.real ρ) (v.real ρ)).run P w = .ok () w' ∧ Inv ρ B w0 h' w' ∧ (∀ i, live h i = true → live h' i = true) := by
  unfold updateA at hu
  split at hu
  · rename_i kt et r ht
    split at hu
    · rename_i es hr
      split at hu
      · rename_i hk
        simp only [Option.map_eq_some_iff] at hu
        obtain ⟨es', hes', rfl⟩ := hu
        obtain ⟨hB, ents, clock, hb, hee⟩ := hI.obj r _ hr
        obtain ⟨d, hd, hds⟩ := fits_shape hk
        have hg : (getObj (ρ r).blk).run P w = .ok (.map ents clock) w := by simp [getObj, Sem.run, hb]
        have hset : ∀ o, (setObj (ρ r).blk o).run P w = .ok () { w with heap := w.heap.setIfInBounds (ρ r).blk o } := fun o => by simp [setObj, Sem.run, hb]
        have hlt : (ρ r).blk < w.heap.size := by
          rcases Nat.lt_or_ge (ρ r).blk w.heap.size with q | q
          · exact q
          · simp [Array.getElem?_eq_none q] at hb
        have hlive : ∀ i, live h i = true → live (h.set r (.map es')) i = true := fun i hi => by rw [live_set_there hr rfl rfl]; exact hi
        have fin : ∀ (ents' : Array MapEntry) (clock' : Nat), ents'.toList.map (fun e => (e.key, e.val)) = es'.map (fun e => (e.1.real ρ, e.2.real ρ)) →
            Inv ρ B w0 (h.set r (.map es')) { w with heap := w.heap.setIfInBounds (ρ r).blk (.map ents' clock') } := by
          intro ents' clock' he'
          have ho : ∀ i, i ≠ (ρ r).blk → (w.heap.setIfInBounds (ρ r).blk (Obj.map ents' clock'))[i]? = w.heap[i]? := fun i hi => by
            rw [Array.getElem?_setIfInBounds, if_neg (fun e => hi e.symm)]
          refine hI.put hr rfl (.inl rfl) ⟨rfl, rfl, rfl, by simp, fun i hi => ho i fun e => hB (e ▸ hi)⟩ ho ?_ ?_
          · refine ⟨hB, ents', clock', ?_, he'⟩
            show (w.heap.setIfInBounds (ρ r).blk (Obj.map ents' clock'))[(ρ r).blk]? = _
            rw [Array.getElem?_setIfInBounds, if_pos rfl, if_pos hlt]
          · have hwf := hI.wf r _ hr
            simp only [AObj.refs, List.all_eq_true, Bool.and_eq_true] at hwf ⊢
            intro e he
            rcases putA_mem es es' hes' e he with rfl | he
            · exact ⟨hko, hvo⟩
            · exact hwf e he
        rcases put_sound (ρ := ρ) hds es es' ents.toList 0 hee hes' with ⟨j, u, old, hj, ho, hsb, hm⟩ | ⟨hn, rfl⟩
        · refine ⟨_, ?_, fin (ents.modify j fun e => { e with key := k.real ρ, val := v.real ρ }) clock (by simpa using hm), hlive⟩
          have ho' : ents[j]? = some old := by simpa using ho
          simp only [Instr.mapUpdate, Sem.run_bind, run_underlying ht w, Result.andThen_ok, AV.real, hg, run_checkKey hk _ 9999, Instr.findKey, run_underlying hd w, hj, Nat.zero_add, Sem.run_pure, ho', Option.map_some, Option.getD_some,
            Instr.keyThatStays, hsb, if_true, hset]
        · refine ⟨_, ?_, fin (ents.push { key := k.real ρ, val := v.real ρ, born := clock }) (clock + 1) (by simp [hee]), hlive⟩
          simp only [Instr.mapUpdate, Sem.run_bind, run_underlying ht w, Result.andThen_ok, AV.real, hg, run_checkKey hk _ 9999, Instr.findKey, run_underlying hd w, hn, Sem.run_pure, hset]
      · cases hu
    · cases hu
  · cases hu
theorem drop_sound {d : TypeDesc} {k : AV} (hd : (∃ q n, d = .int q ∧ k = .int q n) ∨ (∃ s, d = .string ∧ k = .str s)) :
    ∀ (es es' : List (AV × AV)) (ents : List MapEntry) (i : Nat), ents.map (fun e => (e.key, e.val)) = es.map (fun e => (e.1.real ρ, e.2.real ρ)) → dropA k es = some es' →
      (∃ j u, Instr.findNow d (k.real ρ) ents i = some (some (i + j, u)) ∧ (ents.eraseIdx j).map (fun e => (e.key, e.val)) = es'.map (fun e => (e.1.real ρ, e.2.real ρ))) ∨
      (Instr.findNow d (k.real ρ) ents i = some none ∧ es' = es)
  | [], es', [], i, _, hp => by simp only [dropA, Option.some.injEq] at hp; subst hp; exact .inr ⟨rfl, rfl⟩
  | [], es', _ :: _, i, he, _ => by simp at he
  | _ :: _, es', [], i, he, _ => by simp at he
  | e :: es, es', m :: ents, i, he, hp => by
    simp only [List.map_cons, List.cons.injEq, Prod.mk.injEq] at he
    obtain ⟨⟨hk, hv⟩, he⟩ := he
    simp only [dropA] at hp
    cases hb : sameKey k e.1 with
    | none => simp [hb] at hp
    | some b =>
      obtain ⟨h1, h2⟩ := sameNow_of (ρ := ρ) hd hb
      rw [hb] at hp
      rw [← hk] at h1 h2
      cases b with
      | true =>
        simp only [Option.some.injEq] at hp
        subst hp
        exact .inl ⟨0, m.val, by simp only [Instr.findNow, h1, Nat.add_zero], by simpa using he⟩
      | false =>
        simp only [Option.map_eq_some_iff] at hp
        obtain ⟨es2, hes2, rfl⟩ := hp
        rcases drop_sound hd es es2 ents (i + 1) he hes2 with ⟨j, u, hj, hm⟩ | ⟨hn, rfl⟩
        · refine .inl ⟨j + 1, u, ?_, ?_⟩
          · simp only [Instr.findNow, h1, hj]; congr 3; omega
          · simp only [List.eraseIdx_cons_succ, List.map_cons, hm, hk, hv]
        · exact .inr ⟨by simp only [Instr.findNow, h1]; exact hn, rfl⟩
theorem dropA_mem : ∀ (es es' : List (AV × AV)) {k : AV}, dropA k es = some es' → ∀ e ∈ es', e ∈ es
  | [], es', k, hp => by simp only [dropA, Option.some.injEq] at hp; subst hp; intro e he; exact he
  | x :: es, es', k, hp => by
    simp only [dropA] at hp
    split at hp
    · cases hp; exact fun e he => List.mem_cons_of_mem _ he
    · simp only [Option.map_eq_some_iff] at hp
      obtain ⟨es2, h2, rfl⟩ := hp
      intro e he
      rcases List.mem_cons.1 he with rfl | he
      · exact List.mem_cons_self
      · exact List.mem_cons_of_mem _ (dropA_mem es es2 h2 e he)
    · cases hp
theorem delete_sound (hI : Inv ρ B w0 h w) {t ty tk : TypeId} {m k : AV} {h' : AHeap} (hu : deleteA P h t m k = some h') :
    ∃ w', (Builtin.delete_ #[t, tk] ty #[m.real ρ, k.real ρ]).run P w = .ok (.tuple #[]) w' ∧ Inv ρ B w0 h' w' ∧ (∀ i, live h i = true → live h' i = true) := by
  unfold deleteA at hu
  split at hu
  · rename_i kt et r ht
    split at hu
    · rename_i es hr
      split at hu
      · rename_i hk
        simp only [Option.map_eq_some_iff] at hu
        obtain ⟨es', hes', rfl⟩ := hu
        obtain ⟨hB, ents, clock, hb, hee⟩ := hI.obj r _ hr
        obtain ⟨d, hd, hds⟩ := fits_shape hk
        have hg : (getObj (ρ r).blk).run P w = .ok (.map ents clock) w := by simp [getObj, Sem.run, hb]
        have hset : ∀ o, (setObj (ρ r).blk o).run P w = .ok () { w with heap := w.heap.setIfInBounds (ρ r).blk o } := fun o => by simp [setObj, Sem.run, hb]
        have hlt : (ρ r).blk < w.heap.size := by
          rcases Nat.lt_or_ge (ρ r).blk w.heap.size with q | q
          · exact q
          · simp [Array.getElem?_eq_none q] at hb
        have hlive : ∀ i, live h i = true → live (h.set r (.map es')) i = true := fun i hi => by rw [live_set_there hr rfl rfl]; exact hi
        have fin : ∀ (ents' : Array MapEntry) (clock' : Nat), ents'.toList.map (fun e => (e.key, e.val)) = es'.map (fun e => (e.1.real ρ, e.2.real ρ)) →
            Inv ρ B w0 (h.set r (.map es')) { w with heap := w.heap.setIfInBounds (ρ r).blk (.map ents' clock') } := by
          intro ents' clock' he'
          have ho : ∀ i, i ≠ (ρ r).blk → (w.heap.setIfInBounds (ρ r).blk (Obj.map ents' clock'))[i]? = w.heap[i]? := fun i hi => by
            rw [Array.getElem?_setIfInBounds, if_neg (fun e => hi e.symm)]
          refine hI.put hr rfl (.inl rfl) ⟨rfl, rfl, rfl, by simp, fun i hi => ho i fun e => hB (e ▸ hi)⟩ ho ?_ ?_
          · refine ⟨hB, ents', clock', ?_, he'⟩
            show (w.heap.setIfInBounds (ρ r).blk (Obj.map ents' clock'))[(ρ r).blk]? = _
            rw [Array.getElem?_setIfInBounds, if_pos rfl, if_pos hlt]
          · have hwf := hI.wf r _ hr
            simp only [AObj.refs, List.all_eq_true, Bool.and_eq_true] at hwf ⊢
            intro e he
            exact hwf e (dropA_mem es es' hes' e he)
        rcases drop_sound (ρ := ρ) hds es es' ents.toList 0 hee hes' with ⟨j, u, hj, hm⟩ | ⟨hn, rfl⟩
        · refine ⟨_, ?_, fin (ents.eraseIdxIfInBounds j) clock (by simpa using hm), hlive⟩
          simp only [Builtin.delete_, List.getElem?_toArray, List.getElem?_cons_zero, List.getElem?_cons_succ, Sem.run_bind, run_underlying ht w, Result.andThen_ok, AV.real, hg, run_checkKey hk _ 9999, Instr.findKey, run_underlying hd w, hj, Nat.zero_add, Sem.run_pure, hset]
        · refine ⟨_, ?_, fin ents clock hee, hlive⟩
          simp only [Builtin.delete_, List.getElem?_toArray, List.getElem?_cons_zero, List.getElem?_cons_succ, Sem.run_bind, run_underlying ht w, Result.andThen_ok, AV.real, hg, run_checkKey hk _ 9999, Instr.findKey, run_underlying hd w, hn, Sem.run_pure, hset]
      · cases hu
    · cases hu
  · cases hu
/-- **An operation that writes.** -/
theorem freeze_sound (hI : Inv ρ B w0 h w) {s d : TypeId} {x v : AV} {h' : AHeap} (hx : x.ok h ρ) (hv : freezeA P h s d x = some (v, h')) :
    ∃ w', (convert s d (x.real ρ)).run P w = .ok (v.real ρ) w' ∧ Inv ρ B w0 h' w' ∧ (∀ i, live h i = true → live h' i = true) ∧ v.ok h' ρ := by
  unfold freezeA at hv
  split at hv
  · rename_i k o n c
    split at hv
    · rename_i e0 e hs hd
      split at hv
      · rename_i he
        split at hv
        · rename_i t sz cs hk
          split at hv
          · rename_i hsd
            cases hv
            obtain ⟨hB, hadr, arr, harr, htake, hsz, hcap, hone, hle⟩ := row_at hI hk
            have hoff : (ρ k).off = 0 := (hI.obj k _ hk).2.1
            have hklt : k < h.length := by
              rcases Nat.lt_or_ge k h.length with q | q
              · exact q
              · simp [List.getElem?_eq_none q] at hk
            have hblt : (ρ k).blk < w.heap.size := by
              rcases Nat.lt_or_ge (ρ k).blk w.heap.size with q | q
              · exact q
              · simp [Array.getElem?_eq_none q] at harr
            have hlive : ∀ i, live (h.set k (.ro cs)) i = live h i := live_set_there hk rfl rfl
            refine ⟨w.freeze ⟨(ρ k).blk, arr.size, none⟩ 1, ?_, ?_, fun i hi => by rw [hlive]; exact hi, ?_⟩
            · have h2 : w.shape? (ρ k).blk = some (t, arr.size) := by
                unfold World.shape?; rw [harr]
              simp only [AV.real, convert, Sem.run_bind, run_underlying hs w, run_underlying hd w, run_underlying he w, Result.andThen_ok, hsd, markStringish, run_shape, h2, Sem.run_pure]
              rfl
            · have hbel : Kept B w (w.freeze ⟨(ρ k).blk, arr.size, none⟩ 1) := Kept.of_put (below_freeze' (B := 0) (Nat.zero_le _) 1) (fun i hi => heap_freeze_other w ⟨(ρ k).blk, arr.size, none⟩ 1 i hi) hB
              have hoth : ∀ i, i ≠ (ρ k).blk → (w.freeze ⟨(ρ k).blk, arr.size, none⟩ 1).heap[i]? = w.heap[i]? := fun i hi => heap_freeze_other w ⟨(ρ k).blk, arr.size, none⟩ 1 i hi
              have old : ∀ i z, i ≠ k → (h.set k (.ro cs))[i]? = some z → h[i]? = some z := fun i z hi hz => by
                rwa [List.getElem?_set_ne (fun e => hi e.symm)] at hz
              have new : ∀ z, (h.set k (.ro cs))[k]? = some z → z = .ro cs := fun z hz => by
                rw [List.getElem?_set_self hklt] at hz; exact (Option.some.inj hz).symm
              refine ⟨hI.below.trans hbel, fun q hq => Nat.lt_of_lt_of_le (hI.size q hq) hbel.size, ?_, ?_, ?_, ?_⟩
              · intro i z hz
                by_cases hi : i = k
                · subst hi
                  rw [new z hz]
                  refine ⟨by rw [size_freeze]; exact hblt, fun j v hj => ?_⟩
                  rw [cell_freeze]
                  have hj' : arr.toList[j]? = some (v.real ρ) := by
                    have h1 := congrArg (·[j]?) htake
                    simp only [List.getElem?_map, hj, Option.map_some] at h1
                    have hjl : j < cs.length := by
                      rcases Nat.lt_or_ge j cs.length with q | q
                      · exact q
                      · simp [List.getElem?_eq_none q] at hj
                    rwa [List.getElem?_take, if_pos hjl] at h1
                  unfold World.cell?
                  rw [harr]
                  simp only [Option.isSome_none, Bool.false_eq_true, if_false, hoff, Nat.zero_add]
                  simpa using hj'
                · have hz' := old i z hi hz
                  have hr := hI.obj i z hz'
                  cases z with
                  | hole => trivial
                  | dead => trivial
                  | ro cs' =>
                    have := hI.sepr k i _ cs' hk hz' rfl
                    exact objRel_kept hbel.size (fun _ => hoth _ (fun e => this e.symm)) hr
                  | row t sz cs => exact objRel_kept hbel.size (fun _ => hoth _ (hI.sep i k _ _ hz' hk rfl rfl hi)) hr
                  | map es => exact objRel_kept hbel.size (fun _ => hoth _ (hI.sep i k _ _ hz' hk rfl rfl hi)) hr
              · intro i j a b ha hb oa ob hij
                by_cases hi : i = k
                · subst hi; rw [new a ha] at oa; cases oa
                · by_cases hj : j = k
                  · subst hj; rw [new b hb] at ob; cases ob
                  · exact hI.sep i j a b (old i a hi ha) (old j b hj hb) oa ob hij
              · intro i j a cs' ha hb oa
                by_cases hi : i = k
                · subst hi; rw [new a ha] at oa; cases oa
                · by_cases hj : j = k
                  · subst hj; exact hI.sep i j a _ (old i a hi ha) hk oa rfl hi
                  · exact hI.sepr i j a cs' (old i a hi ha) (old j _ hj hb) oa
              · intro i z hz
                have hm : ∀ q, live h q = true → live (h.set k (.ro cs)) q = true ∧ (ρ q).cap = (ρ q).cap := fun q hq => ⟨by rw [hlive]; exact hq, rfl⟩
                by_cases hi : i = k
                · subst hi
                  rw [new z hz]
                  have := hI.wf i _ hk
                  exact refs_obj_mono hm (x := .ro cs) this
                · exact refs_obj_mono hm (hI.wf i z (old i z hi hz))
            · exact refs_mono (fun i hi => ⟨by rw [hlive]; exact hi, rfl⟩) _ hx
          · cases hv
        · cases hv
      · cases hv
    · cases hv
  · cases hv
theorem eff_sound (hI : Inv ρ B w0 h w) {a : Act} {env : List AV} (hF : FrameRel ρ env a.tmps) (hok : ∀ v ∈ env, AV.ok h ρ v) {o : Oper} {slot : Nat} (hs : isAlloc P o = true → h[slot]? = some .hole)
    {v : Option AV} {h' : AHeap} (hv : evalEff P h (evalOperand env) slot o = some (v, h')) : Writes P ρ B w0 w h a o v h' := by
  unfold evalEff at hv
  cases hop : o.op <;> simp only [hop, reduceCtorEq] at hv
  case store t p x =>
    simp only [Option.bind_eq_some_iff, Option.map_eq_some_iff] at hv
    obtain ⟨q, hq, u, hu, h1, hst, he⟩ := hv
    cases he
    obtain ⟨w', hr, hI', hl⟩ := store_sound (P := P) hI (operand_ok hok hu) hst
    exact ⟨ρ, w', by simp only [execOp, hop, operand_sound hF hq, operand_sound hF hu, Sem.run_bind, hr, Result.andThen_ok, Sem.run_pure], hI', fun i hi => ⟨hl i hi, rfl⟩, fun u hu => by cases hu⟩
  case convert sT dT x =>
    simp only [Option.bind_eq_some_iff, Option.map_eq_some_iff] at hv
    obtain ⟨u, hu, ⟨r, h1⟩, hst, he⟩ := hv
    cases he
    obtain ⟨w', hr, hI', hl, hro⟩ := freeze_sound (P := P) hI (operand_ok hok hu) hst
    exact ⟨ρ, w', by simp only [execOp, hop, operand_sound hF hu, Sem.run_bind, hr, Result.andThen_ok, Sem.run_pure], hI', fun i hi => ⟨hl i hi, rfl⟩, fun u hu => by cases hu; exact hro⟩
  case mapUpdate t m k x =>
    simp only [Option.bind_eq_some_iff, Option.map_eq_some_iff] at hv
    obtain ⟨q, hq, k', hk, u, hu, h1, hst, he⟩ := hv
    cases he
    obtain ⟨w', hr, hI', hl⟩ := update_sound (P := P) hI (operand_ok hok hk) (operand_ok hok hu) hst
    exact ⟨ρ, w', by simp only [execOp, hop, operand_sound hF hq, operand_sound hF hu, operand_sound hF hk, Sem.run_bind, hr, Result.andThen_ok, Sem.run_pure], hI', fun i hi => ⟨hl i hi, rfl⟩, fun u hu => by cases hu⟩
  case call c =>
    obtain ⟨callee, args, tys⟩ := c
    cases callee <;> try (simp only [reduceCtorEq] at hv)
    rename_i b
    cases b <;> try (simp only [reduceCtorEq] at hv)
    case append =>
      split at hv
      · rename_i s x t u hargs htys
        simp only [Option.bind_eq_some_iff, Option.map_eq_some_iff] at hv
        obtain ⟨q, hq, y, hy, ⟨r, h1⟩, hst, he⟩ := hv
        cases he
        obtain ⟨ρ', w', hr, hI', hl, hro⟩ := append_sound (P := P) (ty := o.type) hI (hs (by simp [isAlloc, hop])) (operand_ok hok hq) (operand_ok hok hy) hst
        have hx' : args = #[s, x] := by apply Array.ext'; simpa using hargs
        have ht' : tys = #[t, u] := by apply Array.ext'; simpa using htys
        subst hx' ht'
        exact ⟨ρ', w', by simp [execOp, hop, resolve, invoke, builtin, operand_sound hF hq, operand_sound hF hy, hr], hI', hl, fun u hu => by cases hu; exact hro⟩
      · cases hv
    case copy =>
      split at hv
      · rename_i s x t u hargs htys
        simp only [Option.bind_eq_some_iff, Option.map_eq_some_iff] at hv
        obtain ⟨q, hq, y, hy, ⟨r, h1⟩, hst, he⟩ := hv
        cases he
        obtain ⟨w', hr, hI', hl, hro⟩ := copy_sound (P := P) (u := u) (ty := o.type) hI (operand_ok hok hy) hst
        have hx' : args = #[s, x] := by apply Array.ext'; simpa using hargs
        have ht' : tys = #[t, u] := by apply Array.ext'; simpa using htys
        subst hx' ht'
        exact ⟨ρ, w', by simp [execOp, hop, resolve, invoke, builtin, operand_sound hF hq, operand_sound hF hy, hr], hI', fun i hi => ⟨hl i hi, rfl⟩, fun u hu => by cases hu; exact hro⟩
      · cases hv
    case delete =>
      split at hv
      · rename_i m x t u hargs htys
        simp only [Option.bind_eq_some_iff, Option.map_eq_some_iff] at hv
        obtain ⟨q, hq, y, hy, h1, hst, he⟩ := hv
        cases he
        obtain ⟨w', hr, hI', hl⟩ := delete_sound (P := P) (tk := u) (ty := o.type) hI hst
        have hx' : args = #[m, x] := by apply Array.ext'; simpa using hargs
        have ht' : tys = #[t, u] := by apply Array.ext'; simpa using htys
        subst hx' ht'
        exact ⟨ρ, w', by simp [execOp, hop, resolve, invoke, builtin, operand_sound hF hq, operand_sound hF hy, hr, AV.real, AV.reals], hI', fun i hi => ⟨hl i hi, rfl⟩, fun u hu => by cases hu; rfl⟩
      · cases hv
end
end Go.Am
