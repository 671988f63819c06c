/- The resolved code as a whole, and functions. -/
import Derived.Test.YtfnlokknpldkgaaAmS
set_option linter.unusedVariables false
set_option linter.unusedSimpArgs false
namespace Go.Am
open Go Go.RowKit
section
variable {P : Program} {S : Specs} {Q : FuncId → Bool}
theorem ops_resolved {ops : Array Oper} : ∀ (l : List Oper) (pl : List PO) (s : Nat) (st st' : St), l.mapM (poOf P ops) = some pl → evalOpsR P S s pl st = some st' → evalOps P S ops s l st = some st'
  | [], pl, s, st, st', hm, he => by simp at hm; subst hm; exact he
  | o :: l, pl, s, st, st', hm, he => by
    simp only [List.mapM_cons, Option.pure_def, Option.bind_eq_bind, Option.bind_eq_some_iff] at hm
    obtain ⟨po, hpo, pl', hpl, he'⟩ := hm
    cases he'
    simp only [evalOpsR, Option.bind_eq_some_iff] at he
    obtain ⟨st1, h1, h2⟩ := he
    simp only [evalOps, Option.bind_eq_some_iff]
    refine ⟨st1, (step_resolved (Q := fun _ => false) hpo h1).1, ?_⟩
    have hal : isAlloc P o = po.ri.isAlloc := by
      simp only [poOf, Option.map_eq_some_iff] at hpo
      obtain ⟨ri, hr, rfl⟩ := hpo
      exact alloc_flag hr
    rw [hal]
    exact ops_resolved l pl' _ st1 st' hpl h2
theorem slot_succ (l : List Oper) (s k : Nat) (o : Oper) (h : l[k]? = some o) : slotOf P l s (k + 1) = if isAlloc P o then slotOf P l s k + 1 else slotOf P l s k := by
  unfold slotOf
  have hk : k < l.length := by
    rcases Nat.lt_or_ge k l.length with q | q
    · exact q
    · simp [List.getElem?_eq_none q] at h
  rw [List.take_succ_eq_append_getElem hk]
  have : l[k] = o := by rw [List.getElem?_eq_getElem hk] at h; exact Option.some.inj h
  rw [this]
  simp only [List.filter_append, List.length_append]
  by_cases ha : isAlloc P o = true <;> simp [ha, Nat.add_assoc]
theorem range_store {o : Oper} {ops : Array Oper} {po : PO} (h : poOf P ops o = some po) {env : List AV} {q : Bool × Nat × Nat × Nat} (hq : rangeR false env po = some q) : isStore o = true := by
  simp only [poOf, Option.map_eq_some_iff] at h
  obtain ⟨ri, hr, hpo⟩ := h
  rw [store_flag hr]
  unfold rangeR at hq
  rw [← hpo] at hq
  simp only at hq
  split at hq
  · rfl
  · cases hq
  · cases hq
theorem load_range {o : Oper} {ops : Array Oper} {po : PO} (h : poOf P ops o = some po) (env : List AV) (hst : isStore o = false) : loadRange P ops env o = rangeR true env po := by
  have hw := wanted_resolved h env
  simp only [poOf, Option.map_eq_some_iff] at h
  obtain ⟨ri, hre, hpo⟩ := h
  have hl := load_flag hre
  have hs := store_flag hre
  rw [hst] at hs
  by_cases hlo : isLoad o = true
  · rw [hlo] at hl
    unfold isLoad at hlo
    cases hop : o.op <;> simp only [hop, Bool.false_eq_true] at hlo
    rename_i t a
    have hre' := hre
    unfold resolve at hre'
    simp only [hop, Option.map_eq_some_iff] at hre'
    obtain ⟨z, hz, rfl⟩ := hre'
    have hri : po.ri = .load z a := by rw [← hpo]
    unfold loadRange rangeR
    rw [hri]
    simp only [hop, if_true]
    rw [hw]
    have hlen : loadLen P t = some (z.getD 1) := by
      unfold aggSz at hz
      unfold loadLen
      cases hg : isAggA P t with
      | none => simp [hg] at hz
      | some g =>
        cases g with
        | false => simp only [hg, Option.some.injEq] at hz; subst hz; rfl
        | true => simp only [hg, Option.map_eq_some_iff] at hz; obtain ⟨n, hn, rfl⟩ := hz; simp [hn]
    rw [hlen]
    cases wantedR env po with
    | none => rfl
    | some b =>
      cases b with
      | false => rfl
      | true =>
        cases evalOperand env a with
        | none => rfl
        | some v =>
          cases v <;> rfl
  · simp only [Bool.not_eq_true] at hlo
    rw [hlo] at hl
    have e1 : loadRange P ops env o = none := by
      unfold loadRange
      unfold isLoad at hlo
      cases hop : o.op <;> simp only [hop, Bool.true_eq_false] at hlo ⊢
    have e2 : rangeR true env po = none := by
      unfold rangeR
      have : po.ri = ri := by rw [← hpo]
      rw [this]
      cases ri <;> first | rfl | (cases hl; done) | (cases hs; done)
    rw [e1, e2]
/-- Which cells a head's step writes or looks at. -/
theorem head_range {ls : List Nat} {k : Nat} {ops : Array Oper} {s : Nat} {o : Oper} {po : PO} (h : poOf P ops o = some po) {st : St} {r : AV × HEff} (hr : headVal P S ops s o st = some r) : rngOf P ops ls k o st r = rangeR (ls.contains k) st.1 po := by
  by_cases hst : isStore o = true
  · have hw := wanted_resolved h st.1
    have h' := h
    simp only [poOf, Option.map_eq_some_iff] at h
    obtain ⟨ri, hre, hpo⟩ := h
    unfold isStore at hst
    unfold resolve at hre
    cases hop : o.op <;> simp only [hop, Bool.false_eq_true] at hst hre
    rename_i t a x
    simp only [Option.map_eq_some_iff] at hre
    obtain ⟨z, hz, rfl⟩ := hre
    have hri : po.ri = .store z a x := by rw [← hpo]
    unfold rangeR
    rw [hri]
    simp only
    rw [← hw]
    unfold headVal at hr
    have ha : isAlloc P o = false := by unfold isAlloc; rw [hop]
    have hs' : isStore o = true := by unfold isStore; rw [hop]
    cases hwt : wantedA ops st.1 o with
    | none => rw [hwt] at hr; cases hr
    | some b =>
      rw [hwt] at hr
      cases b with
      | false =>
        simp only [Option.some.injEq] at hr
        subst hr
        have hl0 : loadRange P ops st.1 o = none := by unfold loadRange; rw [hop]
        show (if ls.contains k = true then loadRange P ops st.1 o else none) = none
        rw [hl0]; split <;> rfl
      | true =>
        simp only [ha, Bool.false_eq_true, if_false, hs', if_true, Option.map_eq_some_iff] at hr
        obtain ⟨⟨k', q, vs⟩, hv, rfl⟩ := hr
        unfold storeVal at hv
        rw [hop] at hv
        simp only [Option.bind_eq_some_iff] at hv
        obtain ⟨p, hp, v, hvv, hv⟩ := hv
        split at hv
        · split at hv
          · simp only [Option.bind_eq_some_iff] at hv
            obtain ⟨z', hz', hv⟩ := hv
            rw [hz] at hz'
            cases hz'
            split at hv
            · rename_i hc
              simp only [Bool.and_eq_true, beq_iff_eq, decide_eq_true_eq] at hc
              simp only [Option.some.injEq, Prod.mk.injEq] at hv
              obtain ⟨rfl, rfl, rfl⟩ := hv
              simp only [rngOf, hp, hc.1.2]
            · cases hv
          · cases hv
        · cases hv
  · simp only [Bool.not_eq_true] at hst
    have hf := headVal_fits hr
    have h2 := load_range h st.1 hst
    have h1 : rangeR false st.1 po = none := by
      cases hq : rangeR false st.1 po with
      | none => rfl
      | some q => exact absurd (range_store h hq) (by rw [hst]; simp)
    obtain ⟨v, e⟩ := r
    unfold rngOf
    split
    · rename_i k q vs he
      have := hf.2.2 k q vs he
      rw [hst] at this
      cases this
    · cases ls.contains k with
      | true => simp only [if_true]; exact h2
      | false => simp only [Bool.false_eq_true, if_false]; exact h1.symm
theorem headStep_of {ls : List Nat} {ops : Array Oper} {k s : Nat} {o : Oper} {po : PO} (h : poOf P ops o = some po) {st st' : St} {log : Log} (hs : headStep0 P S ops s o st = some st') (hl : ∀ q, rangeR (ls.contains k) st.1 po = some q → logOk log q = true) :
    headStep P S ls ops k s o (st, log) = some (st', match rangeR (ls.contains k) st.1 po with | some q => log.set k (some q) | none => log) := by
  unfold headStep0 at hs
  simp only [Option.map_eq_some_iff] at hs
  obtain ⟨r, hr, rfl⟩ := hs
  have hq := head_range (ls := ls) (k := k) h hr
  unfold headStep
  simp only [hr, Option.bind_some, hq]
  cases hx : rangeR (ls.contains k) st.1 po with
  | none => rfl
  | some q => simp only [hl q hx, if_true]
theorem storesOf_cons (o : Oper) (l : List Oper) : storesOf (o :: l) = (if isStore o = true then 1 else 0) + storesOf l := by
  unfold storesOf
  rw [List.filter_cons]
  split <;> simp <;> omega
/-- Few stores: the log never stands against one. -/
theorem head_resolved {ops : Array Oper} (hQ : ∀ g, (S.q g).isSome = Q g) (L : List Oper) (s0 : Nat) : ∀ (l r : List Oper) (pl : List PO) (k : Nat) (st st' : St) (log : Log), L.drop k = l ++ r → (∀ o ∈ l, headableQ Q o = true) → (l ++ r).mapM (poOf P ops) = some pl →
    (storesOf l = 0 ∨ storesOf l ≤ 1 ∧ ∀ x ∈ log, x = none) →
    evalOpsR P S (slotOf P L s0 k) pl st = some st' →
    ∃ st1 pr, evalHead P S [] ops (slotOf P L s0) k l (st, log) = some st1 ∧ r.mapM (poOf P ops) = some pr ∧ evalOpsR P S (slotOf P L s0 (k + l.length)) pr st1.1 = some st'
  | [], r, pl, k, st, st', log, _, _, hm, _, he => ⟨(st, log), pl, rfl, by simpa using hm, by simpa using he⟩
  | o :: l, r, pl, k, st, st', log, hd, hh, hm, hfew, he => by
    simp only [List.cons_append, List.mapM_cons, Option.pure_def, Option.bind_eq_bind, Option.bind_eq_some_iff] at hm
    obtain ⟨po, hpo, pl', hpl, he'⟩ := hm
    cases he'
    simp only [evalOpsR, Option.bind_eq_some_iff] at he
    obtain ⟨st1, h1, h2⟩ := he
    have hal : isAlloc P o = po.ri.isAlloc := by
      simp only [poOf, Option.map_eq_some_iff] at hpo
      obtain ⟨ri, hr, rfl⟩ := hpo
      exact alloc_flag hr
    have hk : L[k]? = some o := by
      have := congrArg (·[0]?) hd
      simpa [List.getElem?_drop] using this
    have hd' : L.drop (k + 1) = l ++ r := by
      have := congrArg List.tail hd
      simpa [List.tail_drop] using this
    rw [← hal, ← slot_succ L s0 k o hk] at h2
    rw [storesOf_cons] at hfew
    have hs1 := headStep_of (ls := []) (k := k) (log := log) hpo ((step_resolved hpo h1).2 hQ (hh o List.mem_cons_self)) (fun q hq => by
      rw [if_pos (range_store hpo hq)] at hfew
      rcases hfew with hfew | hfew
      · omega
      · unfold logOk
        rw [List.all_eq_true]
        intro x hx
        rw [hfew.2 x hx])
    have hnc : ([] : List Nat).contains k = false := rfl
    rw [hnc] at hs1
    obtain ⟨log1, hlog1⟩ : ∃ log1, log1 = (match rangeR false st.1 po with | some q => log.set k (some q) | none => log) := ⟨_, rfl⟩
    rw [← hlog1] at hs1
    obtain ⟨st2, pr, e1, e2, e3⟩ := head_resolved hQ L s0 l r pl' (k + 1) st1 st' log1 hd' (fun o' ho' => hh o' (List.mem_cons_of_mem _ ho')) hpl (by
      cases hq : rangeR false st.1 po with
      | none =>
        rw [hq] at hlog1
        subst hlog1
        rcases hfew with h | h
        · exact .inl (by omega)
        · exact .inr ⟨by omega, h.2⟩
      | some q =>
        have := range_store hpo hq
        rw [if_pos this] at hfew
        exact .inl (by omega)) h2
    refine ⟨st2, pr, ?_, e2, by rw [List.length_cons, show k + (l.length + 1) = k + 1 + l.length by omega]; exact e3⟩
    simp only [evalHead, Option.bind_eq_some_iff]
    exact ⟨_, hs1, e1⟩
/-- A head with its log. -/
theorem head2_resolved {ls : List Nat} {ops : Array Oper} (hQ : ∀ g, (S.q g).isSome = Q g) (L : List Oper) (s0 : Nat) : ∀ (l : List Oper) (pl : List PO) (k : Nat) (x x' : St × Log), (∀ i, i < l.length → L[k + i]? = l[i]?) → (∀ o ∈ l, headableQ Q o = true) → l.mapM (poOf P ops) = some pl →
    evalHeadR P S ls k (slotOf P L s0 k) pl x = some x' → evalHead P S ls ops (slotOf P L s0) k l x = some x'
  | [], pl, k, x, x', _, _, hm, he => by simp at hm; subst hm; exact he
  | o :: l, pl, k, x, x', hL, hh, hm, he => by
    simp only [List.mapM_cons, Option.pure_def, Option.bind_eq_bind, Option.bind_eq_some_iff] at hm
    obtain ⟨po, hpo, pl', hpl, he'⟩ := hm
    cases he'
    have hal : isAlloc P o = po.ri.isAlloc := by
      simp only [poOf, Option.map_eq_some_iff] at hpo
      obtain ⟨ri, hr, rfl⟩ := hpo
      exact alloc_flag hr
    have hk : L[k]? = some o := by simpa using hL 0 (by simp)
    obtain ⟨st, log⟩ := x
    have hstep : ∃ st1 log1, stepR P S (slotOf P L s0 k) po st = some st1 ∧ (∀ q, rangeR (ls.contains k) st.1 po = some q → logOk log q = true) ∧ log1 = (match rangeR (ls.contains k) st.1 po with | some q => log.set k (some q) | none => log) ∧
        evalHeadR P S ls (k + 1) (slotOf P L s0 (k + 1)) pl' (st1, log1) = some x' := by
      rw [slot_succ L s0 k o hk, hal]
      simp only [evalHeadR] at he
      cases hq : rangeR (ls.contains k) st.1 po with
      | none =>
        rw [hq] at he
        simp only [Option.bind_eq_some_iff] at he
        obtain ⟨st1, h1, h2⟩ := he
        exact ⟨st1, log, h1, fun q hq' => (by cases hq'), rfl, h2⟩
      | some q =>
        rw [hq] at he
        simp only at he
        split at he
        · rename_i hok
          simp only [Option.bind_eq_some_iff] at he
          obtain ⟨st1, h1, h2⟩ := he
          exact ⟨st1, _, h1, fun q' hq' => (by cases hq'; exact hok), rfl, h2⟩
        · cases he
    obtain ⟨st1, log1, h1, hlk, hl1, h2⟩ := hstep
    have hs1 := headStep_of (ls := ls) (k := k) (log := log) hpo ((step_resolved hpo h1).2 hQ (hh o List.mem_cons_self)) hlk
    rw [← hl1] at hs1
    simp only [evalHead, Option.bind_eq_some_iff]
    exact ⟨_, hs1, head2_resolved hQ L s0 l pl' (k + 1) _ x' (fun i hi => by have := hL (i + 1) (by simp; omega); simpa [Nat.add_assoc, Nat.add_comm 1 i] using this) (fun o' ho' => hh o' (List.mem_cons_of_mem _ ho')) hpl h2⟩
theorem headLen_eq (hQ : ∀ g, (S.q g).isSome = Q g) (l : List Oper) : headLen S l = (l.takeWhile (headableQ Q)).length := by
  unfold headLen
  congr 2
  funext o
  unfold headable headableQ
  cases o.op with
  | call c =>
    obtain ⟨callee, args, tys⟩ := c
    cases callee with
    | value f => cases f <;> first | rfl | exact hQ _
    | invoke r m => rfl
    | builtin b => cases b <;> rfl
  | _ => rfl
theorem take_while_take {α : Type} (p : α → Bool) : ∀ l : List α, l.take (l.takeWhile p).length = l.takeWhile p
  | [] => rfl
  | x :: l => by
    simp only [List.takeWhile_cons]
    split
    · simp [take_while_take p l]
    · rfl
theorem mapM_len {α β : Type} (f : α → Option β) : ∀ (l : List α) (r : List β), l.mapM f = some r → r.length = l.length
  | [], r, h => by simp at h; subst h; rfl
  | x :: l, r, h => by
    simp only [List.mapM_cons, Option.pure_def, Option.bind_eq_bind, Option.bind_eq_some_iff] at h
    obtain ⟨y, _, r', hr, he⟩ := h
    cases he
    simp [mapM_len f l r' hr]
theorem mapM_take {α β : Type} (f : α → Option β) : ∀ (l : List α) (r : List β) (n : Nat), l.mapM f = some r → (l.take n).mapM f = some (r.take n) ∧ (l.drop n).mapM f = some (r.drop n)
  | [], r, n, h => by simp at h; subst h; simp
  | x :: l, r, 0, h => by simp at h ⊢; exact h
  | x :: l, r, n + 1, h => by
    simp only [List.mapM_cons, Option.pure_def, Option.bind_eq_bind, Option.bind_eq_some_iff] at h
    obtain ⟨y, hy, r', hr, he⟩ := h
    cases he
    obtain ⟨h1, h2⟩ := mapM_take f l r' n hr
    refine ⟨?_, h2⟩
    simp only [List.take_succ_cons, List.mapM_cons, Option.pure_def, Option.bind_eq_bind, hy, h1, Option.bind_some]
theorem region_resolved (hQ : ∀ g, (S.q g).isSome = Q g) {ops : Array Oper} {draw : Bool} {pl : List PO} (hfew : draw = true → storesOf (ops.toList.takeWhile (headableQ Q)) ≤ 1 ∧ loosePart ops = []) (hd : (!draw || drawOk P Q ops) = true) (hm : ops.toList.mapM (poOf P ops) = some pl) {st st' : St}
    (he : evalOpsR P S st.2.length pl (withHoles (nAlloc P ops.toList) st) = some st') : evalRegion P S ops draw st = some st' := by
  unfold evalRegion
  simp only
  cases draw with
  | false => exact ops_resolved _ _ _ _ _ hm he
  | true =>
    obtain ⟨hfew, hls⟩ := hfew rfl
    simp only [Bool.not_true, Bool.false_or, drawOk] at hd
    simp only [if_true]
    rw [headLen_eq hQ, hls]
    have h0 : slotOf P ops.toList st.2.length 0 = st.2.length := by simp [slotOf]
    have hnone : ∀ x ∈ (List.replicate ops.size none : Log), x = none := fun x hx => List.eq_of_mem_replicate hx
    split at hd
    · rename_i hn
      rw [if_pos hn, if_pos hd]
      have h1 : ops.toList.takeWhile (headableQ Q) = ops.toList := by
        have := List.takeWhile_prefix (headableQ Q) (l := ops.toList)
        exact this.eq_of_length hn
      have hall : ∀ o ∈ ops.toList, headableQ Q o = true := by
        intro o ho
        rw [← h1] at ho
        exact List.all_takeWhile (p := headableQ Q) (l := ops.toList) |> fun h => List.all_eq_true.1 h o ho
      rw [h1] at hfew
      obtain ⟨st1, pr, e1, e2, e3⟩ := head_resolved (ops := ops) hQ ops.toList st.2.length ops.toList [] pl 0 _ st' (List.replicate ops.size none) (by simp) hall (by simpa using hm) (.inr ⟨hfew, hnone⟩) (by rw [h0]; exact he)
      simp at e2
      subst e2
      simp only [evalOpsR, Option.some.injEq] at e3
      subst e3
      rw [e1]; rfl
    · rename_i hn
      rw [if_neg hn, if_pos hd]
      have hsplit : ops.toList = ops.toList.takeWhile (headableQ Q) ++ ops.toList.drop (ops.toList.takeWhile (headableQ Q)).length := by
        have h1 := List.take_append_drop (ops.toList.takeWhile (headableQ Q)).length ops.toList
        rw [take_while_take] at h1
        exact h1.symm
      have htake := take_while_take (headableQ Q) ops.toList
      obtain ⟨st1, pr, e1, e2, e3⟩ := head_resolved (ops := ops) hQ ops.toList st.2.length (ops.toList.takeWhile (headableQ Q)) (ops.toList.drop (ops.toList.takeWhile (headableQ Q)).length) pl 0 _ st' (List.replicate ops.size none)
        (by rw [List.drop_zero]; exact hsplit) (fun o ho => List.all_eq_true.1 List.all_takeWhile o ho) (by rw [← hsplit]; exact hm) (.inr ⟨hfew, hnone⟩) (by rw [h0]; exact he)
      rw [htake]
      simp only [Option.bind_eq_some_iff]
      exact ⟨st1, e1, ops_resolved _ _ _ _ _ e2 (by rwa [Nat.zero_add] at e3)⟩
theorem slot_head {ops : Array Oper} (L : List Oper) (s0 : Nat) (n : Nat) : ∀ (l : List Oper) (pl : List PO), L.take n = l → l.mapM (poOf P ops) = some pl → slotOf P L s0 n = s0 + (pl.filter (·.ri.isAlloc)).length := by
  intro l pl hl hm
  unfold slotOf
  rw [hl]
  congr 1
  clear hl
  induction l generalizing pl with
  | nil => simp at hm; subst hm; rfl
  | cons o l ih =>
    simp only [List.mapM_cons, Option.pure_def, Option.bind_eq_bind, Option.bind_eq_some_iff] at hm
    obtain ⟨po, hpo, pl', hpl, he⟩ := hm
    cases he
    have hal : isAlloc P o = po.ri.isAlloc := by
      simp only [poOf, Option.map_eq_some_iff] at hpo
      obtain ⟨ri, hr, rfl⟩ := hpo
      exact alloc_flag hr
    rw [List.filter_cons, List.filter_cons, hal]
    split <;> simp [ih pl' hpl]
theorem region2_resolved (hQ : ∀ g, (S.q g).isSome = Q g) {ops : Array Oper} {pl : List PO} (hd : drawOk P Q ops = true) (hm : ops.toList.mapM (poOf P ops) = some pl) {st st' : St} {n : Nat} (hn0 : n = (ops.toList.takeWhile (headableQ Q)).length)
    (he : ((evalHeadR P S (loosePart ops) 0 st.2.length (pl.take n) (withHoles (nAlloc P ops.toList) st, List.replicate ((pl.take n).length + (pl.drop n).length) none)).bind fun x => evalOpsR P S (st.2.length + ((pl.take n).filter (·.ri.isAlloc)).length) (pl.drop n) x.1) = some st') :
    evalRegion P S ops true st = some st' := by
  have hlen : (pl.take n).length + (pl.drop n).length = ops.size := by
    rw [← List.length_append, List.take_append_drop, mapM_len _ _ _ hm]; simp
  rw [hlen] at he
  simp only [Option.bind_eq_some_iff] at he
  obtain ⟨x, h1, h2⟩ := he
  obtain ⟨hm1, hm2⟩ := mapM_take _ _ _ n hm
  have htake : ops.toList.take n = ops.toList.takeWhile (headableQ Q) := by rw [hn0]; exact take_while_take _ _
  have h0 : slotOf P ops.toList st.2.length 0 = st.2.length := by simp [slotOf]
  have hhead := head2_resolved (P := P) (S := S) (ls := loosePart ops) hQ ops.toList st.2.length (ops.toList.take n) (pl.take n) 0 _ x (fun i hi => by
      rw [Nat.zero_add, List.getElem?_take]; simp at hi; rw [if_pos (by omega)])
    (fun o ho => by rw [htake] at ho; exact List.all_eq_true.1 List.all_takeWhile o ho) hm1 (by rw [h0]; exact h1)
  have htail := ops_resolved _ _ _ _ _ hm2 h2
  rw [← slot_head (ops := ops) ops.toList st.2.length n _ _ rfl hm1] at htail
  unfold evalRegion
  simp only [if_true]
  rw [headLen_eq hQ, ← hn0]
  simp only [drawOk] at hd
  rw [← hn0] at hd
  split at hd
  · rename_i hn
    rw [if_pos hn, if_pos hd]
    have e1 : ops.toList.take n = ops.toList := by rw [hn]; exact List.take_length
    have e2 : ops.toList.drop n = [] := by rw [hn]; exact List.drop_length
    rw [e1] at hhead
    rw [e2] at htail
    simp only [evalOps, Option.some.injEq] at htail
    rw [hhead, ← htail]; rfl
  · rename_i hn
    rw [if_neg hn, if_pos hd]
    simp only [Option.bind_eq_some_iff]
    exact ⟨x, hhead, htail⟩
theorem find_resolved : ∀ (c : Code) (pc : PC), comp P Q c = some pc → ∀ l, match findLabel c l with
    | some r => ∃ pr, findP pc l = some pr ∧ comp P Q r = some pr
    | none => findP pc l = none
  | .seq a b, pc, hc, l => by
    simp only [comp, Option.bind_eq_some_iff, Option.map_eq_some_iff] at hc
    obtain ⟨pa, ha, pb, hb, rfl⟩ := hc
    have h1 := find_resolved a pa ha l
    have h2 := find_resolved b pb hb l
    simp only [findLabel, findP]
    cases hfa : findLabel a l with
    | some r =>
      rw [hfa] at h1
      obtain ⟨pr, e1, e2⟩ := h1
      exact ⟨.seq pr pb, by rw [e1], by simp [comp, e2, hb]⟩
    | none =>
      rw [hfa] at h1
      simp only at h1 ⊢
      rw [h1]
      exact h2
  | .label l', pc, hc, l => by
    simp only [comp, Option.some.injEq] at hc
    subst hc
    simp only [findLabel, findP]
    split
    · rename_i r h
      split at h
      · rename_i hh; cases h; exact ⟨.skip, by simp [hh], rfl⟩
      · cases h
    · rename_i h
      split at h
      · cases h
      · rename_i hh; simp [hh]
  | .skip, pc, hc, l => by simp only [comp, Option.some.injEq] at hc; subst hc; rfl
  | .region id ops draw, pc, hc, l => by
    simp only [comp] at hc
    split at hc
    · simp only [Option.map_eq_some_iff] at hc; obtain ⟨_, _, rfl⟩ := hc; rfl
    split at hc
    · split at hc
      · simp only [Option.map_eq_some_iff] at hc; obtain ⟨_, _, rfl⟩ := hc; rfl
      · cases hc
    · split at hc
      · simp only [Option.map_eq_some_iff] at hc; obtain ⟨_, _, rfl⟩ := hc; rfl
      · cases hc
  | .cond c a b, pc, hc, l => by
    simp only [comp, Option.bind_eq_some_iff, Option.map_eq_some_iff] at hc
    obtain ⟨pa, ha, pb, hb, rfl⟩ := hc; rfl
  | .block id a, pc, hc, l => by simp only [comp, Option.map_eq_some_iff] at hc; obtain ⟨_, _, rfl⟩ := hc; rfl
  | .loop a, pc, hc, l => by simp only [comp, Option.map_eq_some_iff] at hc; obtain ⟨_, _, rfl⟩ := hc; rfl
  | .exit id, pc, hc, l => by simp only [comp, Option.some.injEq] at hc; subst hc; rfl
  | .goto q, pc, hc, l => by simp only [comp, Option.some.injEq] at hc; subst hc; rfl
  | .scope a, pc, hc, l => by simp only [comp, Option.map_eq_some_iff] at hc; obtain ⟨_, _, rfl⟩ := hc; rfl
  | .ret, pc, hc, l => by simp only [comp, Option.some.injEq] at hc; subst hc; rfl
  | .rangeFunc _ _ _ _, pc, hc, l => by simp only [comp, Option.bind_eq_some_iff, Option.map_eq_some_iff] at hc; obtain ⟨_, _, _, _, rfl⟩ := hc; rfl
  | .refuse _, pc, hc, l => by simp [comp] at hc
end
/-- A function with its code resolved. -/
structure PF where
  body : PC
  ntmps : Nat
  results : List ResultVar
def compF (P : Program) (Q : FuncId → Bool) (fn : Func) : Option PF := fn.body.bind fun c => (comp P Q c).map fun pc => ⟨pc, fn.ntmps, fn.results.toList⟩
end Go.Am
