/- Look-ups; every operation that leaves memory alone. -/
import Derived.Test.YtfnlokknpldkgaaAmF
set_option linter.unusedVariables false
set_option linter.unusedSimpArgs false
namespace Go.Am
open Go Go.RowKit
section
variable {P : Program} {ρ : Rho} {B : Fr} {w0 w : World} {h : AHeap}
theorem run_checkKey {kt : TypeId} {k : AV} (hk : fitsKey P kt k = true) (e : Bool) (n : Nat) : (Instr.checkKey e (n + 1) kt (k.real ρ)).run P w = .ok () w := by
  unfold fitsKey at hk
  split at hk
  · rename_i q q' n hu
    simp only [Instr.checkKey, Sem.run_bind, run_underlying hu w, Result.andThen_ok, AV.real]
    rfl
  · rename_i s hu
    simp only [Instr.checkKey, Sem.run_bind, run_underlying hu w, Result.andThen_ok, AV.real]
    rfl
  · cases hk
theorem findNow_sound {d : TypeDesc} {k : AV} (hd : (∃ q n, d = .int q ∧ k = .int q n) ∨ (∃ s, d = .string ∧ k = .str s)) :
    ∀ (es : List (AV × AV)) (ents : List MapEntry) (i : Nat) (r : Option AV), ents.map (fun e => (e.key, e.val)) = es.map (fun e => (e.1.real ρ, e.2.real ρ)) →
      findA k es = some r → ∃ j, Instr.findNow d (k.real ρ) ents i = some (r.map fun v => (j, v.real ρ))
  | [], [], i, r, _, hf => by simp only [findA, Option.some.injEq] at hf; subst hf; exact ⟨0, rfl⟩
  | [], _ :: _, i, r, he, _ => by simp at he
  | _ :: _, [], i, r, he, _ => by simp at he
  | e :: es, m :: ents, i, r, he, hf => by
    simp only [List.map_cons, List.cons.injEq, Prod.mk.injEq] at he
    obtain ⟨⟨hk, hv⟩, he⟩ := he
    simp only [findA] at hf
    have hs : ∀ b, sameKey k e.1 = some b → Instr.sameNow d (k.real ρ) m.key = some b := by
      intro b hb
      rw [hk]
      rcases hd with ⟨q, n, rfl, rfl⟩ | ⟨s, rfl, rfl⟩
      · cases hx : e.1 <;> rw [hx] at hb <;> simp only [sameKey, reduceCtorEq] at hb
        simp only [AV.real, Instr.sameNow]
        exact hb
      · cases hx : e.1 <;> rw [hx] at hb <;> simp only [sameKey, reduceCtorEq] at hb
        simp only [AV.real, Instr.sameNow, beq_str]
        exact hb
    cases hb : sameKey k e.1 with
    | none => simp [hb] at hf
    | some b =>
      have h1 := hs b hb
      rw [hb] at hf
      cases b with
      | true =>
        simp only [Option.some.injEq] at hf
        subst hf
        exact ⟨i, by simp only [Instr.findNow, h1, hv, Option.map_some]⟩
      | false =>
        obtain ⟨j, hj⟩ := findNow_sound hd es ents (i + 1) r he hf
        exact ⟨j, by simp only [Instr.findNow, h1]; exact hj⟩
theorem fits_shape {kt : TypeId} {k : AV} (hk : fitsKey P kt k = true) :
    ∃ d, P.underlying kt = some d ∧ ((∃ q n, d = .int q ∧ k = .int q n) ∨ (∃ s, d = .string ∧ k = .str s)) := by
  unfold fitsKey at hk
  split at hk
  · rename_i q q' n hu
    have : q = q' := by simpa using hk
    subst this
    exact ⟨_, hu, .inl ⟨q, n, rfl, rfl⟩⟩
  · rename_i s hu; exact ⟨_, hu, .inr ⟨s, rfl, rfl⟩⟩
  · cases hk
theorem run_findKey {kt : TypeId} {k : AV} (hk : fitsKey P kt k = true) {es : List (AV × AV)} {ents : List MapEntry} {r : Option AV}
    (he : ents.map (fun e => (e.key, e.val)) = es.map (fun e => (e.1.real ρ, e.2.real ρ))) (hf : findA k es = some r) :
    ∃ j, (Instr.findKey kt (k.real ρ) ents).run P w = .ok (r.map fun v => (j, v.real ρ)) w := by
  obtain ⟨d, hu, hd⟩ := fits_shape hk
  obtain ⟨j, hj⟩ := findNow_sound hd es ents 0 r he hf
  exact ⟨j, by simp only [Instr.findKey, Sem.run_bind, run_underlying hu w, Result.andThen_ok, hj]; rfl⟩
theorem findA_mem : ∀ (es : List (AV × AV)) {k v : AV}, findA k es = some (some v) → ∃ e ∈ es, e.2 = v
  | [], k, v, hf => by simp [findA] at hf
  | e :: es, k, v, hf => by
    simp only [findA] at hf
    split at hf
    · cases hf; exact ⟨e, List.mem_cons_self, rfl⟩
    · obtain ⟨x, hx, rfl⟩ := findA_mem es hf; exact ⟨x, List.mem_cons_of_mem _ hx, rfl⟩
    · cases hf
theorem lookup_sound (hI : Inv ρ B w0 h w) {t : TypeId} {x i v : AV} {ok : Bool} (hv : lookupA P h t x i ok = some v) :
    (Instr.lookup t (x.real ρ) (i.real ρ) ok).run P w = .ok (v.real ρ) w ∧ v.ok h ρ := by
  unfold lookupA at hv
  split at hv
  · rename_i kt et hu
    split at hv
    · rename_i hk
      simp only [Option.map_eq_some_iff] at hv
      obtain ⟨z, hz, rfl⟩ := hv
      obtain ⟨j, hj⟩ := run_findKey (w := w) (ρ := ρ) hk (es := []) (ents := []) (r := none) rfl rfl
      have hzo := zero_ok (h := h) (ρ := ρ) hz
      refine ⟨?_, by cases ok <;> simp_all [AV.ok, AV.refs, AV.refsL]⟩
      simp only [Instr.lookup, Sem.run_bind, run_underlying hu w, Result.andThen_ok, AV.real, Sem.run_pure, run_checkKey hk _ 9999, hj, Option.map_none, run_zero (ρ := ρ) hz]
      cases ok <;> simp [AV.real]
    · cases hv
  · rename_i kt et r hu
    split at hv
    · rename_i hk
      split at hv
      · rename_i es hes
        simp only [Option.bind_eq_some_iff] at hv
        obtain ⟨q, hq, hv⟩ := hv
        obtain ⟨hB, ents, clock, hb, hee⟩ := hI.obj r _ hes
        obtain ⟨j, hj⟩ := run_findKey (w := w) (ρ := ρ) hk hee hq
        have hg : (getObj (ρ r).blk).run P w = .ok (.map ents clock) w := by simp [getObj, Sem.run, hb]
        have hwf := hI.wf r _ hes
        cases q with
        | some u =>
          simp only [Option.some.injEq] at hv
          subst hv
          have huo : u.ok h ρ := by
            obtain ⟨e, he, rfl⟩ := findA_mem es hq
            simp only [AObj.refs, List.all_eq_true, Bool.and_eq_true] at hwf
            exact (hwf e he).2
          refine ⟨?_, by cases ok <;> simp_all [AV.ok, AV.refs, AV.refsL]⟩
          simp only [Instr.lookup, Sem.run_bind, run_underlying hu w, Result.andThen_ok, AV.real, Sem.run_pure, hg, run_checkKey hk _ 9999, hj, Option.map_some]
          cases ok <;> simp [AV.real]
        | none =>
          simp only [Option.map_eq_some_iff] at hv
          obtain ⟨z, hz, rfl⟩ := hv
          have hzo := zero_ok (h := h) (ρ := ρ) hz
          refine ⟨?_, by cases ok <;> simp_all [AV.ok, AV.refs, AV.refsL]⟩
          simp only [Instr.lookup, Sem.run_bind, run_underlying hu w, Result.andThen_ok, AV.real, Sem.run_pure, hg, run_checkKey hk _ 9999, hj, Option.map_none, run_zero (ρ := ρ) hz]
          cases ok <;> simp [AV.real]
      · cases hv
    · cases hv
  · cases hv
theorem toArray_sound {t : TypeId} {x v : AV} (hx : x.ok h ρ) (hv : toArrayA P t x = some v) :
    (Instr.arrayAt t (x.real ρ)).run P w = .ok (v.real ρ) w ∧ v.ok h ρ := by
  unfold toArrayA at hv
  split at hv
  · rename_i n e a len c hu
    split at hv
    · rename_i hle
      cases hv
      obtain ⟨k, o⟩ := a
      refine ⟨?_, ?_⟩
      · simp only [Instr.arrayAt, Sem.run_bind, run_underlying hu w, Result.andThen_ok, real_sl]
        rw [if_neg (by omega)]
        rfl
      · cases c <;> simp only [AV.ok, AV.refs, Bool.and_eq_true] at hx ⊢ <;> exact hx.1
    · cases hv
  · cases hv
theorem minmax_sound {b : Bool} {ts : Array TypeId} {ty : TypeId} {xs : List AV} {v : AV} (hv : minmaxA b xs = some v) :
    ((if b then Builtin.max_ ts ty (xs.map (AV.real ρ)).toArray else Builtin.min_ ts ty (xs.map (AV.real ρ)).toArray)).run P w = .ok (v.real ρ) w ∧ v.ok h ρ := by
  unfold minmaxA at hv
  split at hv
  · rename_i k a k' c
    cases hv
    cases b
    · exact ⟨by simp [AV.real, Builtin.min_, Builtin.min2], rfl⟩
    · exact ⟨by simp [AV.real, Builtin.max_, Builtin.max2], rfl⟩
  · cases hv
theorem operands_sound {a : Act} {env : List AV} (hF : FrameRel ρ env a.tmps) : ∀ (xs : List Operand) (vs : List AV), xs.mapM (evalOperand env) = some vs → xs.map a.eval = vs.map (AV.real ρ)
  | [], vs, hv => by simp at hv; subst hv; rfl
  | x :: xs, vs, hv => by
    simp only [List.mapM_cons, Option.pure_def, Option.bind_eq_bind, Option.bind_eq_some_iff] at hv
    obtain ⟨v, h1, vs', h2, he⟩ := hv
    cases he
    simp [operand_sound hF h1, operands_sound hF xs vs' h2]
theorem operands_ok {env : List AV} (hok : ∀ v ∈ env, AV.ok h ρ v) : ∀ (xs : List Operand) (vs : List AV), xs.mapM (evalOperand env) = some vs → ∀ v ∈ vs, AV.ok h ρ v
  | [], vs, hv => by simp at hv; subst hv; simp
  | x :: xs, vs, hv => by
    simp only [List.mapM_cons, Option.pure_def, Option.bind_eq_bind, Option.bind_eq_some_iff] at hv
    obtain ⟨v, h1, vs', h2, he⟩ := hv
    cases he
    intro u hu
    rcases List.mem_cons.1 hu with rfl | hu
    · exact operand_ok hok h1
    · exact operands_ok hok xs vs' h2 u hu
theorem parts_sound {a : Act} {env : List AV} (hF : FrameRel ρ env a.tmps) : ∀ (ps : List (Nat × Operand)) (vs : List (Nat × AV)), partsA (evalOperand env) ps = some vs →
    ps.map (fun p => (p.1, a.eval p.2)) = vs.map fun p => (p.1, p.2.real ρ)
  | [], vs, hv => by simp [partsA] at hv; subst hv; rfl
  | x :: xs, vs, hv => by
    simp only [partsA, List.mapM_cons, Option.pure_def, Option.bind_eq_bind, Option.bind_eq_some_iff, Option.map_eq_some_iff] at hv
    obtain ⟨v, ⟨u, h1, rfl⟩, vs', h2, he⟩ := hv
    cases he
    simp [operand_sound hF h1, parts_sound hF xs vs' h2]
theorem parts_ok {env : List AV} (hok : ∀ v ∈ env, AV.ok h ρ v) : ∀ (ps : List (Nat × Operand)) (vs : List (Nat × AV)), partsA (evalOperand env) ps = some vs → ∀ p ∈ vs, AV.ok h ρ p.2
  | [], vs, hv => by simp [partsA] at hv; subst hv; simp
  | x :: xs, vs, hv => by
    simp only [partsA, List.mapM_cons, Option.pure_def, Option.bind_eq_bind, Option.bind_eq_some_iff, Option.map_eq_some_iff] at hv
    obtain ⟨v, ⟨u, h1, rfl⟩, vs', h2, he⟩ := hv
    cases he
    intro p hp
    rcases List.mem_cons.1 hp with rfl | hp
    · exact operand_ok hok h1
    · exact parts_ok hok xs vs' h2 p hp
theorem opt_sound {a : Act} {env : List AV} (hF : FrameRel ρ env a.tmps) {x : Option Operand} {v : Option AV} (hv : optA (evalOperand env) x = some v) : x.map a.eval = v.map (AV.real ρ) := by
  cases x with
  | none => simp only [optA, Option.some.injEq] at hv; subst hv; rfl
  | some x =>
    simp only [optA, Option.map_eq_some_iff] at hv
    obtain ⟨u, hu, rfl⟩ := hv
    simp [operand_sound hF hu]
/-- **An operation that leaves memory alone.** -/
theorem pure_sound (hI : Inv ρ B w0 h w) {a : Act} {env : List AV} (hF : FrameRel ρ env a.tmps) (hok : ∀ v ∈ env, AV.ok h ρ v) {o : Oper} {v : AV} (hv : evalPure P h (evalOperand env) o = some v) :
    (execOp a.eval o).run P w = .ok (.value (v.real ρ)) w ∧ v.ok h ρ := by
  unfold evalPure at hv
  cases hop : o.op <;> simp only [hop, reduceCtorEq] at hv
  case move x => exact ⟨by simp [execOp, hop, operand_sound hF hv], operand_ok hok hv⟩
  case assign x => exact ⟨by simp [execOp, hop, operand_sound hF hv], operand_ok hok hv⟩
  case pick c x y =>
    split at hv
    · rename_i t ht
      have hc := operand_sound hF ht
      cases t with
      | true => exact ⟨by simp [execOp, hop, hc, AV.real, asBool, operand_sound hF hv], operand_ok hok hv⟩
      | false => exact ⟨by simp [execOp, hop, hc, AV.real, asBool, operand_sound hF hv], operand_ok hok hv⟩
    · cases hv
  case build t ps =>
    simp only [Option.bind_eq_some_iff] at hv
    obtain ⟨l, hl, hv⟩ := hv
    have h1 := parts_sound hF _ _ hl
    have h2 := build_sound (w := w) (parts_ok hok _ _ hl) hv
    refine ⟨?_, h2.2⟩
    have h3 : (ps.map fun p => (p.1, a.eval p.2)) = (l.map fun p => (p.1, p.2.real ρ)).toArray := by
      apply Array.ext'; simpa using h1
    simp only [execOp, hop, h3, Sem.run_bind, h2.1, Result.andThen_ok, Sem.run_pure]
  case load t x =>
    simp only [Option.bind_eq_some_iff] at hv
    obtain ⟨u, hu, hv⟩ := hv
    have h2 := load_sound hI hv
    exact ⟨by simp only [execOp, hop, operand_sound hF hu, Sem.run_bind, h2.1, Result.andThen_ok, Sem.run_pure], h2.2⟩
  case nilCheck x =>
    simp only [Option.bind_eq_some_iff] at hv
    obtain ⟨u, hu, hv⟩ := hv
    have h1 := operand_sound hF hu
    have h2 := operand_ok hok hu
    unfold nilCheckA at hv
    split at hv
    · rename_i p
      cases hv
      obtain ⟨k, q⟩ := p
      exact ⟨by simp only [execOp, hop, h1, AV.real]; rfl, h2⟩
    · cases hv
      exact ⟨by simp only [execOp, hop, h1, AV.real]; rfl, h2⟩
    · cases hv
  case binOp op t x y yt =>
    simp only [Option.bind_eq_some_iff] at hv
    obtain ⟨u, hu, q, hq, hv⟩ := hv
    obtain ⟨h1, h2, h3⟩ := binH_sound (w := w) (ρ := ρ) (h := h) (xo := x) (yo := y) hI hv
    refine ⟨?_, h3⟩
    simp only [execOp, hop, operand_sound hF hu, operand_sound hF hq, Sem.run_bind, h1, h2, Result.andThen_ok, Sem.run_pure]
  case unOp op t x =>
    simp only [Option.bind_eq_some_iff] at hv
    obtain ⟨u, hu, hv⟩ := hv
    have h2 := unary_sound (P := P) (w := w) (ρ := ρ) (h := h) hv
    exact ⟨by simp only [execOp, hop, operand_sound hF hu, Sem.run_bind, h2.1, Result.andThen_ok, Sem.run_pure], h2.2⟩
  case convert s d x =>
    simp only [Option.bind_eq_some_iff] at hv
    obtain ⟨u, hu, hv⟩ := hv
    have h2 := convert_sound hI hv
    exact ⟨by simp only [execOp, hop, operand_sound hF hu, Sem.run_bind, h2.1, Result.andThen_ok, Sem.run_pure], h2.2⟩
  case sliceToArrayPointer t x =>
    simp only [Option.bind_eq_some_iff] at hv
    obtain ⟨u, hu, hv⟩ := hv
    have h2 := toArray_sound (w := w) (operand_ok hok hu) hv
    exact ⟨by simp only [execOp, hop, operand_sound hF hu, Sem.run_bind, h2.1, Result.andThen_ok, Sem.run_pure], h2.2⟩
  case makeInterface t x =>
    split at hv
    · cases hv
    · rename_i d hnd hd
      simp only [Option.map_eq_some_iff] at hv
      obtain ⟨u, hu, rfl⟩ := hv
      refine ⟨?_, by have := operand_ok hok hu; simpa only [AV.ok, AV.refs] using this⟩
      simp only [execOp, hop, operand_sound hF hu, Sem.run_bind, Instr.makeInterface, run_underlying hd w, Result.andThen_ok]
      cases d <;> first | rfl | (exact absurd hd (hnd _))
    · cases hv
  case makeFunc f x y =>
    cases f <;> simp only [reduceCtorEq, Option.bind_eq_some_iff, Option.map_eq_some_iff] at hv
    rename_i f
    obtain ⟨l, hl, m, hm, rfl⟩ := hv
    have h1 := operands_sound hF _ _ hl
    have h2 := operands_sound hF _ _ hm
    have h3 : x.map a.eval = (l.map (AV.real ρ)).toArray := by apply Array.ext'; simpa using h1
    have h4 : y.map a.eval = (m.map (AV.real ρ)).toArray := by apply Array.ext'; simpa using h2
    refine ⟨?_, ?_⟩
    · simp [execOp, hop, Instr.makeFunc, h3, h4, AV.real]
    · have e1 := operands_ok hok _ _ hl
      have e2 := operands_ok hok _ _ hm
      simp only [AV.ok, AV.refs, refsL_eq, Bool.and_eq_true, List.all_eq_true]
      exact ⟨e1, e2⟩
  case slice t x lo hi mx =>
    simp only [Option.bind_eq_some_iff] at hv
    obtain ⟨u, hu, l, hl, q, hq, m, hm, hv⟩ := hv
    have h2 := slice_sound (w := w) (operand_ok hok hu) hv
    exact ⟨by simp only [execOp, hop, operand_sound hF hu, opt_sound hF hl, opt_sound hF hq, opt_sound hF hm, Sem.run_bind, h2.1, Result.andThen_ok, Sem.run_pure], h2.2⟩
  case fieldAddr s x f =>
    simp only [Option.bind_eq_some_iff] at hv
    obtain ⟨u, hu, hv⟩ := hv
    have h2 := fieldAddr_sound (w := w) (operand_ok hok hu) hv
    exact ⟨by simp only [execOp, hop, operand_sound hF hu, Sem.run_bind, h2.1, Result.andThen_ok, Sem.run_pure], h2.2⟩
  case field t x f =>
    simp only [Option.bind_eq_some_iff] at hv
    obtain ⟨u, hu, hv⟩ := hv
    have h2 := field_sound (w := w) (operand_ok hok hu) hv
    exact ⟨by simp only [execOp, hop, operand_sound hF hu, Sem.run_bind, h2.1, Result.andThen_ok, Sem.run_pure], h2.2⟩
  case indexAddr t x i =>
    simp only [Option.bind_eq_some_iff] at hv
    obtain ⟨u, hu, q, hq, hv⟩ := hv
    have h2 := indexAddr_sound (w := w) (operand_ok hok hu) hv
    exact ⟨by simp only [execOp, hop, operand_sound hF hu, operand_sound hF hq, Sem.run_bind, h2.1, Result.andThen_ok, Sem.run_pure], h2.2⟩
  case index t x i =>
    simp only [Option.bind_eq_some_iff] at hv
    obtain ⟨u, hu, q, hq, hv⟩ := hv
    have h2 := index_sound (w := w) (operand_ok hok hu) hv
    exact ⟨by simp only [execOp, hop, operand_sound hF hu, operand_sound hF hq, Sem.run_bind, h2.1, Result.andThen_ok, Sem.run_pure], h2.2⟩
  case lookup t x i ok =>
    simp only [Option.bind_eq_some_iff] at hv
    obtain ⟨u, hu, q, hq, hv⟩ := hv
    have h2 := lookup_sound hI hv
    exact ⟨by simp only [execOp, hop, operand_sound hF hu, operand_sound hF hq, Sem.run_bind, h2.1, Result.andThen_ok, Sem.run_pure], h2.2⟩
  case extract x i =>
    split at hv
    · rename_i vs hvs
      have h1 := operand_sound hF hvs
      have h2 := operand_ok hok hvs
      have h3 : vs[i]? = some v := by
        split at hv
        · cases hv
        · exact hv
      refine ⟨?_, ?_⟩
      · simp [execOp, hop, h1, AV.real, Instr.extract, h3]
      · simp only [AV.ok, AV.refs, refsL_eq, List.all_eq_true] at h2
        exact h2 v (List.mem_of_getElem? h3)
    · cases hv
  case call c =>
    obtain ⟨callee, args, tys⟩ := c
    cases callee <;> try (simp only [reduceCtorEq] at hv)
    rename_i b
    cases b <;> try (simp only [reduceCtorEq] at hv)
    case len =>
      split at hv
      · rename_i x t hx ht
        simp only [Option.bind_eq_some_iff] at hv
        obtain ⟨u, hu, hv⟩ := hv
        have h2 := len_sound (ty := o.type) hI hv
        refine ⟨?_, h2.2⟩
        have hx' : args = #[x] := by apply Array.ext'; simpa using hx
        have ht' : tys = #[t] := by apply Array.ext'; simpa using ht
        subst hx' ht'
        simp [execOp, hop, resolve, invoke, builtin, operand_sound hF hu, h2.1]
      · cases hv
    case max =>
      simp only [Option.bind_eq_some_iff] at hv
      obtain ⟨l, hl, hv⟩ := hv
      have h1 := operands_sound hF _ _ hl
      have h2 := minmax_sound (P := P) (w := w) (ρ := ρ) (h := h) (ts := tys) (ty := o.type) hv
      refine ⟨?_, h2.2⟩
      have h3 : args.map a.eval = (l.map (AV.real ρ)).toArray := by apply Array.ext'; simpa using h1
      simp only [if_true] at h2
      simp [execOp, hop, resolve, invoke, builtin, h3, h2.1]
    case min =>
      simp only [Option.bind_eq_some_iff] at hv
      obtain ⟨l, hl, hv⟩ := hv
      have h1 := operands_sound hF _ _ hl
      have h2 := minmax_sound (P := P) (w := w) (ρ := ρ) (h := h) (ts := tys) (ty := o.type) hv
      refine ⟨?_, h2.2⟩
      have h3 : args.map a.eval = (l.map (AV.real ρ)).toArray := by apply Array.ext'; simpa using h1
      simp only [Bool.false_eq_true, if_false] at h2
      simp [execOp, hop, resolve, invoke, builtin, h3, h2.1]
end
end Go.Am
