/- Written by merging: Tj Tk Tl Tm Tn To Tp. -/
import Derived.Test.YtncmgbbbekabdaaMf
namespace Go.Proofs.Ytncmgbbbekabdaa
open Go Go.Am Go.RowKit
set_option maxRecDepth 100000
set_option linter.unusedVariables false
set_option linter.unusedSimpArgs false

theorem rotL_some {T : TT} (h : T.pt ≠ none) : (rotL T).pt ≠ none := by
  unfold rotL; split
  · simp [TT.pt]
  · exact h
theorem rotR_some {T : TT} (h : T.pt ≠ none) : (rotR T).pt ≠ none := by
  unfold rotR; split
  · simp [TT.pt]
  · exact h
theorem bal_cases (k : Nat) (id : Int) (l r : TT) : bal (.node k id l r) = .node k id l r ∨ bal (.node k id l r) = rotL (.node k id l r) ∨ bal (.node k id l r) = rotL (.node k id l (rotR r)) ∨ bal (.node k id l r) = rotR (.node k id l r) ∨ bal (.node k id l r) = rotR (.node k id (rotL l) r) := by
  cases l <;> cases r <;> simp only [bal] <;> (repeat' split) <;> simp only [true_or, or_true]
theorem bal_some {T : TT} (h : T.pt ≠ none) : (bal T).pt ≠ none := by
  cases T with
  | nil => exact absurd rfl h
  | node k id l r =>
    have hn : ∀ l r, (TT.node k id l r).pt ≠ none := fun l r => by simp [TT.pt]
    rcases bal_cases k id l r with e | e | e | e | e <;> rw [e]
    · exact hn _ _
    · exact rotL_some (hn _ _)
    · exact rotL_some (hn _ _)
    · exact rotR_some (hn _ _)
    · exact rotR_some (hn _ _)
theorem pt_some {T : TT} (h : T.pt ≠ none) : ∃ a, T.pt = some (a, 0) := by
  cases T with
  | nil => exact absurd rfl h
  | node k id l r => exact ⟨k, rfl⟩
theorem rotL_ids (T : TT) : (rotL T).ids = T.ids := by
  unfold rotL; split <;> simp [TT.ids]
theorem rotR_ids (T : TT) : (rotR T).ids = T.ids := by
  unfold rotR; split <;> simp [TT.ids]
theorem bal_ids (T : TT) : (bal T).ids = T.ids := by
  cases T with
  | nil => rfl
  | node k id l r =>
    rcases bal_cases k id l r with e | e | e | e | e <;> rw [e]
    · rw [rotL_ids]
    · rw [rotL_ids]; simp only [TT.ids, rotR_ids]
    · rw [rotR_ids]
    · rw [rotR_ids]; simp only [TT.ids, rotL_ids]
theorem bal_n (T : TT) : (bal T).n = T.n := by rw [← TT.n_ids, ← TT.n_ids, bal_ids]
def VN (a : Nat) : AV := .ptr (some (a, 0))
def P39n (vs : List AV) (h : AHeap) (a : Nat) (h' : AHeap) : Prop := ∀ t m lk ctx T, vs = [.ptr (some (t, 0)), .ptr T.pt] → T.pt ≠ none → T.n ≤ 800000 → Maps h (rZ t m lk ctx (T.n : Nat) T) →
  (bal T).pt = some (a, 0) ∧ ∃ lk', Tr h h' (rZ t m lk ctx (T.n : Nat) T) (rC t m lk' (bal T).pt ctx ++ rT (upC ctx) (bal T))
theorem bal_can' {h : AHeap} {t m : Nat} {lk : Int} {ctx : List Fr} {T : TT} (hn : T.pt ≠ none) (hb : T.n ≤ 800000) (hM : Maps h (rZ t m lk ctx (T.n : Nat) T)) : ComesTo Try.prog 39 VN P39n [.ptr (some (t, 0)), .ptr T.pt] h := by
  obtain ⟨p, h', hp, hs⟩ := bal_can hn hb hM
  obtain ⟨rfl, _⟩ := hp t m lk ctx T rfl hn hb hM
  obtain ⟨a, ha⟩ := pt_some (bal_some hn)
  rw [ha] at hs
  exact ⟨a, h', fun t' m' lk' ctx' T' e hn' hb' hM' => by
    obtain ⟨e1, e2⟩ := hp t' m' lk' ctx' T' e hn' hb' hM'
    exact ⟨by rw [← e1, ha], e2⟩, hs⟩
/-- What mend makes of a tree: from a place upwards. -/
def upF : List Fr → TT → TT
  | [], T => T
  | f :: fs, T => upF fs (bal (f.fill T))
def ctxN : List Fr → Nat
  | [] => 0
  | f :: fs => f.sib.n + 1 + ctxN fs
theorem fill_n (f : Fr) (T : TT) : (f.fill T).n = T.n + f.sib.n + 1 := by
  unfold Fr.fill; split <;> simp only [TT.n] <;> omega
theorem fill_some (f : Fr) (T : TT) : (f.fill T).pt = some (f.k, 0) := by unfold Fr.fill; split <;> rfl
/-- The ids ahead and behind. -/
def ctxL : List Fr → List Int
  | [] => []
  | f :: fs => ctxL fs ++ (if f.left then [] else f.sib.ids ++ [f.id])
def ctxR : List Fr → List Int
  | [] => []
  | f :: fs => (if f.left then f.id :: f.sib.ids else []) ++ ctxR fs
theorem fill_ids (f : Fr) (T : TT) : (f.fill T).ids = (if f.left then [] else f.sib.ids ++ [f.id]) ++ T.ids ++ (if f.left then f.id :: f.sib.ids else []) := by
  unfold Fr.fill
  cases f.left <;> simp [TT.ids]
theorem upF_ids : ∀ (ctx : List Fr) (T : TT), (upF ctx T).ids = ctxL ctx ++ T.ids ++ ctxR ctx
  | [], T => by simp [upF, ctxL, ctxR]
  | f :: fs, T => by
    rw [upF, upF_ids fs, bal_ids, fill_ids]
    simp [ctxL, ctxR]
noncomputable def tM : List TbG := [TC Try.prog 39 VN P39n]
theorem tabsM : TabsOK tbQ tM [] := by
  refine ⟨tabsQ.q, tabsQ.qq, fun x hx => ?_, fun x hx => ?_, fun _ h => (by cases h), rfl⟩
  · simp only [tM, List.mem_cons, List.not_mem_nil, or_false] at hx
    subst hx; exact csem_full ht39 VN P39n
  · simp only [tM, List.mem_cons, List.not_mem_nil, or_false] at hx
    subst hx; exact TC_ok _ _ _ _
def e35 (t : Nat) (p : Pt) : List AV := envOf 35 [(0, .ptr (some (t, 0))), (1, .ptr p)]
def n35 : Tidy := ⟨dropT 35 [0, 1], .all⟩
def x35 : Tidy := ⟨dropT 35 [], .all⟩
noncomputable def C35 (b : Nat) : Cfg := { CT tbQ tM [(13, i64), (21, .ptrV), (26, .ptrV), (9, .ptrV)] with b0 := b }
theorem mend_vcn (h : AHeap) (t b : Nat) (K : AExit → St → Prop) : (K (AExit.exit 0) (envOf 35 [], h)) = (wpP Try.prog (C35 b) 40 (.inl p35_l0) (e35 t none, h) (postW (C35 b) n35 x35 K)) := by kernel_rfl
theorem mend_vc (h : AHeap) (t n b : Nat) (K : AExit → St → Prop) : (∃ (n_1 : Int), (Option.bind (cellsAt h t) fun (x : List AV) => partR none x 2) = some (AV.int .i64 n_1) ∧ ∃ (t_1 : TypeId), ∃ (s : Nat), ∃ (cs : List AV), h[t]? = some (AObj.row t_1 s cs) ∧ chkW (decide (3 ≤ List.length cs)) (∃ (p : Option (Nat × Nat)), (Option.bind (cellsAt (List.set h t (AObj.row t_1 s (spliceA cs 2 (AV.cells (AV.int .i64 (IntKind.wrap .i64 (n_1 + 1))))))) n) fun (x : List AV) => partR none x 3) = some (AV.ptr p) ∧ ∃ (n_2 : Int), TbE.s { f := 27, s := sSize, r := Rs.of (Rs1.one i64) } [AV.ptr p] (List.set h t (AObj.row t_1 s (spliceA cs 2 (AV.cells (AV.int .i64 (IntKind.wrap .i64 (n_1 + 1))))))) = some (AV.int .i64 n_2) ∧ ∃ (p : Option (Nat × Nat)), (Option.bind (cellsAt (List.set h t (AObj.row t_1 s (spliceA cs 2 (AV.cells (AV.int .i64 (IntKind.wrap .i64 (n_1 + 1))))))) n) fun (x : List AV) => partR none x 4) = some (AV.ptr p) ∧ ∃ (n_3 : Int), TbE.s { f := 27, s := sSize, r := Rs.of (Rs1.one i64) } [AV.ptr p] (List.set h t (AObj.row t_1 s (spliceA cs 2 (AV.cells (AV.int .i64 (IntKind.wrap .i64 (n_1 + 1))))))) = some (AV.int .i64 n_3) ∧ ∃ (t_2 : TypeId), ∃ (s_1 : Nat), ∃ (cs_1 : List AV), (List.set h t (AObj.row t_1 s (spliceA cs 2 (AV.cells (AV.int .i64 (IntKind.wrap .i64 (n_1 + 1)))))))[n]? = some (AObj.row t_2 s_1 cs_1) ∧ chkW (decide (2 ≤ List.length cs_1)) (ComesTo Try.prog 39 VN P39n ([] ++ List.reverse [AV.ptr (some (n, 0)), AV.ptr (some (t, 0))] ++ []) (List.set (List.set h t (AObj.row t_1 s (spliceA cs 2 (AV.cells (AV.int .i64 (IntKind.wrap .i64 (n_1 + 1))))))) n (AObj.row t_2 s_1 (spliceA cs_1 1 (AV.cells (AV.int .i64 (IntKind.wrap .i64 (IntKind.wrap .i64 (n_2 + n_3) + 1))))))) ∧ ∀ (a : Nat) (h' : AHeap), P39n [AV.ptr (some (t, 0)), AV.ptr (some (n, 0))] (List.set (List.set h t (AObj.row t_1 s (spliceA cs 2 (AV.cells (AV.int .i64 (IntKind.wrap .i64 (n_1 + 1))))))) n (AObj.row t_2 s_1 (spliceA cs_1 1 (AV.cells (AV.int .i64 (IntKind.wrap .i64 (IntKind.wrap .i64 (n_2 + n_3) + 1))))))) a h' → ∃ (p : Option (Nat × Nat)), (Option.bind (cellsAt h' a) fun (x : List AV) => partR none x 2) = some (AV.ptr p) ∧ K AExit.normal (envOf 35 [(0, AV.ptr (some (t, 0))), (1, AV.ptr p)], h')))) = (wpP Try.prog (C35 b) 40 (.inl p35_l0) (e35 t (some (n, 0)), h) (postW (C35 b) n35 x35 K)) := by kernel_rfl
/-- From a place one up. -/
theorem rZ_up {t m : Nat} {lk : Int} {f : Fr} {fs : List Fr} {T : TT} : (rC t m lk T.pt (f :: fs) ++ rT (some (f.k, 0)) T).Perm (rZ t m lk fs f.sz (f.fill T)) := by
  obtain ⟨k, id, left, sib, sz⟩ := f
  cases left
  · exact (perm_of fun a => by simp only [Fr.fill, cnt_cons, cnt_append, cnt_nil, rT, rTs, rC, rZ, pt_node, Fr.row, Bool.false_eq_true, if_false]; omega)
  · exact (perm_of fun a => by simp only [Fr.fill, cnt_cons, cnt_append, cnt_nil, rT, rTs, rC, rZ, pt_node, Fr.row, if_true]; omega)
def P35 (vs : List AV) (h : AHeap) (_ : Unit) (h' : AHeap) : Prop := ∀ t m lk ctx sz T, vs = [.ptr (some (t, 0)), .ptr T.pt] → (T.pt ≠ none ∨ ctx = []) → T.n + ctxN ctx ≤ 800000 → Maps h (rZ t m lk ctx sz T) →
  ∃ lk', Tr h h' (rZ t m lk ctx sz T) (rC t m lk' (upF ctx (bal T)).pt [] ++ rT none (upF ctx (bal T)))
/-- Under way: at a place; or at the end. -/
def J35 (t m : Nat) (h0 : AHeap) (L0 : Rws) (F : TT) (s : AHeap × Pt × Nat) : Prop :=
  (∃ lk ctx sz T, T.pt = s.2.1 ∧ T.pt ≠ none ∧ T.n + ctxN ctx ≤ 800000 ∧ upF ctx (bal T) = F ∧ s.2.2 = ctx.length + 1 ∧ Tr h0 s.1 L0 (rZ t m lk ctx sz T)) ∨
  (s.2.1 = none ∧ s.2.2 = 0 ∧ ∃ lk, Tr h0 s.1 L0 (rC t m lk F.pt [] ++ rT none F))
theorem mend_loop {t m : Nat} {h0 : AHeap} {L0 : Rws} {F : TT} {b : Nat} (s : AHeap × Pt × Nat) (hs : J35 t m h0 L0 F s) : W Try.prog (C35 b).S b (.inl (.loop p35_l0)) (e35 t s.2.1, s.1) fun e st => e = .exit 0 ∧ ∃ lk, Tr h0 st.2 L0 (rC t m lk F.pt [] ++ rT none F) := by
  refine W_rounds (C := C35 b) (CU_cw (ks := []) tabsM) (a := p35_l0) (no_parts rfl) (fun s : AHeap × Pt × Nat => (e35 t s.2.1, s.1)) (J35 t m h0 L0 F) (fun s => s.2.2) (fun _ e st => e = .exit 0 ∧ ∃ lk, Tr h0 st.2 L0 (rC t m lk F.pt [] ++ rT none F)) n35 x35 ?_ s hs
  rintro ⟨h, p, n⟩ hJ
  refine ⟨40, ?_⟩
  rcases hJ with ⟨lk, ctx, sz, T, rfl, hn, hb, hF, rfl, hT⟩ | ⟨rfl, rfl, lk, hT⟩
  · cases T with
    | nil => exact absurd rfl hn
    | node k id l r =>
      simp only [TT.n] at hb
      dsimp only at hT ⊢
      rw [pt_node, ← mend_vc]
      obtain ⟨p0, ht, hl⟩ := look_tr hT.b
      have T1 := hl (IntKind.wrap .i64 (lk + 1))
      have hM1 := T1.b
      have r1 := hM1.row k _ (List.mem_append_right _ List.mem_cons_self)
      have s1 := size_at (u := some (k, 0)) (T := l) fun x hx => hM1.row x.1 x.2 (List.mem_append_right _ (List.mem_cons_of_mem _ (List.mem_append_left _ hx)))
      have s2 := size_at (u := some (k, 0)) (T := r) fun x hx => hM1.row x.1 x.2 (List.mem_append_right _ (List.mem_cons_of_mem _ (List.mem_append_right _ hx)))
      have T2 := Tr.set (k := k) (o := nd id sz (upC ctx) l.pt r.pt) (R := rC t m (IntKind.wrap .i64 (lk + 1)) (some (k, 0)) ctx ++ (rT (some (k, 0)) l ++ rT (some (k, 0)) r)) hM1 (perm_of fun a => by simp only [cnt_cons, cnt_append, cnt_nil, pt_nil, rT, rTs, rC, rZ, pt_node, Fr.row, upC_cons, upC_nil, TT.n, Bool.false_eq_true, if_false, if_true]; omega) (nd id (l.n + r.n + 1 : Nat) (upC ctx) l.pt r.pt)
      have M2 : Maps _ (rZ t m (IntKind.wrap .i64 (lk + 1)) ctx ((TT.node k id l r).n : Nat) (.node k id l r)) := T2.b.perm (perm_of fun a => by simp only [cnt_cons, cnt_append, cnt_nil, pt_nil, rT, rTs, rC, rZ, pt_node, Fr.row, upC_cons, upC_nil, TT.n, Bool.false_eq_true, if_false, if_true]; omega)
      have ew : IntKind.wrap .i64 (IntKind.wrap .i64 (((l.n : Nat) : Int) + ((r.n : Nat) : Int)) + 1) = ((l.n + r.n + 1 : Nat) : Int) := by
        rw [wrap_small (n := ((l.n : Nat) : Int) + ((r.n : Nat) : Int)) (by omega) (by omega), wrap_small (by omega) (by omega)]; omega
      refine ⟨lk, fld ht rfl, 58, 3, _, ht, chkI rfl ⟨l.pt, fld r1 rfl, _, s1, r.pt, fld r1 rfl, _, s2, 66, 5, _, r1, chkI rfl ?_⟩⟩
      rw [ew]
      refine ⟨bal_can' hn (by simp only [TT.n]; omega) M2, fun a h3 hp => ?_⟩
      obtain ⟨ha, lk3, T3⟩ := hp t m _ ctx _ rfl hn (by simp only [TT.n]; omega) M2
      have TT3 : Tr h0 h3 L0 _ := hT.trans (T1.trans ((T2.perm (.refl _) (perm_of fun a => by simp only [cnt_cons, cnt_append, cnt_nil, pt_nil, rT, rTs, rC, rZ, pt_node, Fr.row, upC_cons, upC_nil, TT.n, Bool.false_eq_true, if_false, if_true]; omega)).trans T3))
      have hroot : ∃ (sz' : Int) (l' r' : TT), h3[a]? = some (nd sz' (l'.n + r'.n + 1 : Nat) (upC ctx) l'.pt r'.pt) := by
        cases hbal : bal (.node k id l r) with
        | nil => rw [hbal] at ha; cases ha
        | node a' aid al ar =>
          rw [hbal] at ha T3
          cases ha
          exact ⟨aid, al, ar, T3.b.row _ _ (List.mem_append_right _ List.mem_cons_self)⟩
      obtain ⟨sz', l', r', hr⟩ := hroot
      refine ⟨upC ctx, fld hr rfl, ?_⟩
      cases ctx with
      | nil =>
        refine ⟨(h3, none, 0), rfl, .inr ⟨rfl, rfl, lk3, ?_⟩, by simp, fun _ _ h => h⟩
        rw [← hF]
        exact TT3
      | cons f fs =>
        refine ⟨(h3, some (f.k, 0), fs.length + 1), rfl, .inl ⟨lk3, fs, f.sz, f.fill (bal (.node k id l r)), fill_some _ _, by rw [fill_some]; simp, ?_, hF, rfl, TT3.perm (.refl _) rZ_up⟩, by simp, fun _ _ h => h⟩
        rw [fill_n, bal_n]
        simp only [ctxN, TT.n] at hb ⊢
        omega
  · show wpP Try.prog (C35 b) 40 (.inl p35_l0) (e35 t none, h) _
    rw [← mend_vcn]
    exact ⟨rfl, lk, hT⟩
theorem mend_can {h : AHeap} {t m : Nat} {lk : Int} {ctx : List Fr} {sz : Int} {T : TT} (hn : T.pt ≠ none ∨ ctx = []) (hb : T.n + ctxN ctx ≤ 800000) (hM : Maps h (rZ t m lk ctx sz T)) : ComesTo Try.prog 35 V0 P35 [.ptr (some (t, 0)), .ptr T.pt] h := by
  suffices hs : ∃ v h', (v = AV.tup [] ∧ ∃ lk', Tr h h' (rZ t m lk ctx sz T) (rC t m lk' (upF ctx (bal T)).pt [] ++ rT none (upF ctx (bal T)))) ∧ CallSem Try.prog 35 [.ptr (some (t, 0)), .ptr T.pt] h v h' by
    obtain ⟨v, h', ⟨rfl, ht⟩, hs⟩ := hs
    refine ⟨(), h', fun t' m' lk' ctx' sz' T' e hn' hb' hM' => ?_, hs⟩
    simp only [List.cons.injEq, AV.ptr.injEq, Option.some.injEq, Prod.mk.injEq, and_true] at e
    obtain ⟨rfl, ep⟩ := e
    by_cases hp : T.pt = none
    · have h1 : T = .nil := by cases T with | nil => rfl | node => cases hp
      have h2 : T' = .nil := by cases T' with | nil => rfl | node => rw [hp] at ep; cases ep
      subst h1 h2
      have c1 : ctx = [] := hn.resolve_left (by simp [TT.pt])
      have c2 : ctx' = [] := hn'.resolve_left (by simp [TT.pt])
      subst c1 c2
      have g1 := hM.row t _ List.mem_cons_self
      have g2 := hM'.row t _ List.mem_cons_self
      rw [g1] at g2
      simp only [trow, Option.some.injEq, AObj.row.injEq, true_and, List.cons.injEq, AV.map.injEq, AV.int.injEq, and_true] at g2
      obtain ⟨rfl, rfl⟩ := g2
      exact ht
    · obtain ⟨rfl, rfl, rfl, rfl, rfl⟩ := zip_one hM hM' ep hp
      exact ht
  refine sem_of_W mixed (SU_ok tabsM) (CU_q (ks := [])) ht35 c35 ?_
  have hJ : J35 t m h (rZ t m lk ctx sz T) (upF ctx (bal T)) (h, T.pt, if T.pt = none then 0 else ctx.length + 1) := by
    by_cases hp : T.pt = none
    · rw [if_pos hp]
      have h1 : T = .nil := by cases T with | nil => rfl | node => cases hp
      have c1 : ctx = [] := hn.resolve_left (fun g => g hp)
      subst h1 c1
      exact .inr ⟨rfl, rfl, lk, Tr.refl hM⟩
    · rw [if_neg hp]
      exact .inl ⟨lk, ctx, sz, T, rfl, hp, hb, rfl, rfl, Tr.refl hM⟩
  refine W_block (W_mono (mend_loop _ hJ) fun e st hk => ?_)
  obtain ⟨rfl, lk', ht⟩ := hk
  exact ⟨rfl, lk', ht⟩
/-- What is around the place where an id is put in. -/
def insC : Nat → TT → List Fr → List Fr
  | _, .nil, ctx => ctx
  | at', .node k id l r, ctx => if at' > l.n then insC (at' - (l.n + 1)) r (⟨k, id, false, l, (l.n + r.n + 1 : Nat)⟩ :: ctx) else insC at' l (⟨k, id, true, r, (l.n + r.n + 1 : Nat)⟩ :: ctx)
theorem insC_L : ∀ (T : TT) (i : Nat) (ctx : List Fr), i ≤ T.n → ctxL (insC i T ctx) = ctxL ctx ++ T.ids.take i ∧ ctxR (insC i T ctx) = T.ids.drop i ++ ctxR ctx
  | .nil, i, ctx, h => by simp [insC, TT.ids]
  | .node k id l r, i, ctx, h => by
    simp only [TT.n] at h
    have hl := TT.n_ids l
    unfold insC
    split
    · rename_i hi
      obtain ⟨h1, h2⟩ := insC_L r (i - (l.n + 1)) (⟨k, id, false, l, (l.n + r.n + 1 : Nat)⟩ :: ctx) (by omega)
      rw [h1, h2]
      simp only [ctxL, ctxR, TT.ids, Bool.false_eq_true, if_false, List.nil_append]
      have e : l.ids ++ id :: r.ids = (l.ids ++ [id]) ++ r.ids := by simp
      have hlen : (l.ids ++ [id]).length = l.n + 1 := by simp [hl]
      obtain ⟨j, hj⟩ : ∃ j, i = (l.ids ++ [id]).length + j := ⟨i - (l.n + 1), by omega⟩
      have hj2 : i - (l.n + 1) = j := by omega
      rw [hj2, e, hj, List.take_length_add_append, List.drop_length_add_append]
      simp
    · rename_i hi
      obtain ⟨h1, h2⟩ := insC_L l i (⟨k, id, true, r, (l.n + r.n + 1 : Nat)⟩ :: ctx) (by omega)
      rw [h1, h2]
      simp only [ctxL, ctxR, TT.ids, if_true, List.append_nil]
      rw [List.take_append_of_le_length (by omega), List.drop_append_of_le_length (by omega)]
      simp
theorem insC_n : ∀ (T : TT) (i : Nat) (ctx : List Fr), ctxN (insC i T ctx) = T.n + ctxN ctx
  | .nil, i, ctx => by simp [insC, TT.n]
  | .node k id l r, i, ctx => by
    unfold insC
    split
    · rw [insC_n]; simp only [ctxN, TT.n]; omega
    · rw [insC_n]; simp only [ctxN, TT.n]; omega
noncomputable def tP : List TbG := [TC Try.prog 35 V0 P35]
theorem tabsP : TabsOK tbQ tP [] := by
  refine ⟨tabsQ.q, tabsQ.qq, fun x hx => ?_, fun x hx => ?_, fun _ h => (by cases h), rfl⟩
  · simp only [tP, List.mem_cons, List.not_mem_nil, or_false] at hx
    subst hx; exact csem_full ht35 V0 P35
  · simp only [tP, List.mem_cons, List.not_mem_nil, or_false] at hx
    subst hx; exact TC_ok _ _ _ _
def e25 (t : Nat) (i : Int) (x n : Nat) : List AV := envOf 71 [(0, .ptr (some (t, 0))), (1, .int .i64 i), (2, .ptr (some (x, 0))), (6, .ptr (some (n, 0)))]
def o25 (t n : Nat) : List AV := envOf 71 [(0, .ptr (some (t, 0))), (6, .ptr (some (n, 0)))]
def n25 : Tidy := ⟨dropT 71 [0, 1, 2, 6], .all⟩
def x25 : Tidy := ⟨dropT 71 [0, 6], .all⟩
def T25 (t : Nat) (i : Int) (x : Nat) (X : AHeap → Nat → Prop) (Y : AHeap → Nat → Prop) (st : St) (K : AExit → St → Prop) : Prop := ∃ H n, st = (e25 t i x n, H) ∧ X H n ∧ ∀ H' n', Y H' n' → K (.exit 0) (o25 t n', H')
def k25 : List (Nat × K1) := [(12, i64), (19, .ptr), (28, .ptrS), (32, i64), (39, .ptrV), (56, .ptr), (67, .ptrS)]
noncomputable def C25 (t : Nat) (i : Int) (x : Nat) (X : AHeap → Nat → Prop) (Y : AHeap → Nat → Prop) : Cfg := { CT tbQ tP k25 with
  lw := fun id => if id = 4 then some (T25 t i x X Y) else none
  F := fun id => if id = 4 then n25 else ⟨[], .all⟩ }
noncomputable def B25 (b : Nat) : Cfg := { CT tbQ tP k25 with b0 := b }
theorem put_vc (h : AHeap) (t x : Nat) (i : Int) (X Y : AHeap → Nat → Prop) (R : AV → AHeap → Prop) : (∃ (n : Int), (Option.bind (cellsAt h t) fun (x : List AV) => partR none x 2) = some (AV.int .i64 n) ∧ ∃ (t_1 : TypeId), ∃ (s : Nat), ∃ (cs : List AV), h[t]? = some (AObj.row t_1 s cs) ∧ chkW (decide (3 ≤ List.length cs)) (∃ (b : Bool), askB b (∃ (k : Nat), ∃ (o : Nat), (Option.bind (cellsAt (List.set h t (AObj.row t_1 s (spliceA cs 2 (AV.cells (AV.int .i64 (IntKind.wrap .i64 (n + 1))))))) t) fun (x : List AV) => partR none x 0) = some (AV.ptr (some (k, o))) ∧ ∃ (k : Nat), ∃ (o : Nat), (Option.bind (cellsAt (List.set h t (AObj.row t_1 s (spliceA cs 2 (AV.cells (AV.int .i64 (IntKind.wrap .i64 (n + 1))))))) t) fun (x : List AV) => partR none x 0) = some (AV.ptr (some (k, o))) ∧ ∃ (H : AHeap), ∃ (n_1 : Nat), (envOf 71 [(0, AV.ptr (some (t, 0))), (1, AV.int .i64 i), (2, AV.ptr (some (x, 0))), (6, AV.ptr (some (k, o)))], List.set h t (AObj.row t_1 s (spliceA cs 2 (AV.cells (AV.int .i64 (IntKind.wrap .i64 (n + 1))))))) = (envOf 71 [(0, AV.ptr (some (t, 0))), (1, AV.int .i64 i), (2, AV.ptr (some (x, 0))), (6, AV.ptr (some (n_1, 0)))], H) ∧ X H n_1 ∧ ∀ (H' : AHeap) (n' : Nat), Y H' n' → ComesTo Try.prog 35 V0 P35 ([] ++ List.reverse [AV.ptr (some (n', 0)), AV.ptr (some (t, 0))] ++ []) H' ∧ ∀ (a : Unit) (h' : AHeap), P35 [AV.ptr (some (t, 0)), AV.ptr (some (n', 0))] H' a h' → R (AV.tup []) h') ((Option.bind (cellsAt (List.set h t (AObj.row t_1 s (spliceA cs 2 (AV.cells (AV.int .i64 (IntKind.wrap .i64 (n + 1))))))) t) fun (x : List AV) => partR none x 0) = some (AV.ptr none) ∧ ∃ (t_2 : TypeId), ∃ (s_1 : Nat), ∃ (cs_1 : List AV), (List.set h t (AObj.row t_1 s (spliceA cs 2 (AV.cells (AV.int .i64 (IntKind.wrap .i64 (n + 1)))))))[t]? = some (AObj.row t_2 s_1 cs_1) ∧ chkW (decide (1 ≤ List.length cs_1)) (R (AV.tup []) (List.set (List.set h t (AObj.row t_1 s (spliceA cs 2 (AV.cells (AV.int .i64 (IntKind.wrap .i64 (n + 1))))))) t (AObj.row t_2 s_1 (spliceA cs_1 0 (AV.cells (AV.ptr (some (x, 0))))))))))) = (wpF Try.prog (C25 t i x X Y) 40 p25 [(.ptr (some (t, 0))), .int .i64 i, (.ptr (some (x, 0)))] h R) := by kernel_rfl
theorem put_body (h : AHeap) (t x n : Nat) (i : Int) (b : Nat) (K : AExit → St → Prop) : (∃ (n_1 : Int), (Option.bind (cellsAt h t) fun (x : List AV) => partR none x 2) = some (AV.int .i64 n_1) ∧ ∃ (t_1 : TypeId), ∃ (s : Nat), ∃ (cs : List AV), h[t]? = some (AObj.row t_1 s cs) ∧ chkW (decide (3 ≤ List.length cs)) (∃ (p : Option (Nat × Nat)), (Option.bind (cellsAt (List.set h t (AObj.row t_1 s (spliceA cs 2 (AV.cells (AV.int .i64 (IntKind.wrap .i64 (n_1 + 1))))))) n) fun (x : List AV) => partR none x 3) = some (AV.ptr p) ∧ ∃ (n_2 : Int), TbE.s { f := 27, s := sSize, r := Rs.of (Rs1.one i64) } [AV.ptr p] (List.set h t (AObj.row t_1 s (spliceA cs 2 (AV.cells (AV.int .i64 (IntKind.wrap .i64 (n_1 + 1))))))) = some (AV.int .i64 n_2) ∧ askB (decide (i > n_2)) (∃ (b : Bool), askB b (∃ (k : Nat), ∃ (o : Nat), (Option.bind (cellsAt (List.set h t (AObj.row t_1 s (spliceA cs 2 (AV.cells (AV.int .i64 (IntKind.wrap .i64 (n_1 + 1))))))) n) fun (x : List AV) => partR none x 4) = some (AV.ptr (some (k, o))) ∧ ∃ (k : Nat), ∃ (o : Nat), (Option.bind (cellsAt (List.set h t (AObj.row t_1 s (spliceA cs 2 (AV.cells (AV.int .i64 (IntKind.wrap .i64 (n_1 + 1))))))) n) fun (x : List AV) => partR none x 4) = some (AV.ptr (some (k, o))) ∧ K AExit.normal (envOf 71 [(0, AV.ptr (some (t, 0))), (1, AV.int .i64 (IntKind.wrap .i64 (i - IntKind.wrap .i64 (n_2 + 1)))), (2, AV.ptr (some (x, 0))), (6, AV.ptr (some (k, o)))], List.set h t (AObj.row t_1 s (spliceA cs 2 (AV.cells (AV.int .i64 (IntKind.wrap .i64 (n_1 + 1)))))))) ((Option.bind (cellsAt (List.set h t (AObj.row t_1 s (spliceA cs 2 (AV.cells (AV.int .i64 (IntKind.wrap .i64 (n_1 + 1))))))) n) fun (x : List AV) => partR none x 4) = some (AV.ptr none) ∧ ∃ (t_2 : TypeId), ∃ (s_1 : Nat), ∃ (cs_1 : List AV), (List.set h t (AObj.row t_1 s (spliceA cs 2 (AV.cells (AV.int .i64 (IntKind.wrap .i64 (n_1 + 1)))))))[n]? = some (AObj.row t_2 s_1 cs_1) ∧ chkW (decide (5 ≤ List.length cs_1)) (∃ (t_3 : TypeId), ∃ (s_2 : Nat), ∃ (cs_2 : List AV), (List.set (List.set h t (AObj.row t_1 s (spliceA cs 2 (AV.cells (AV.int .i64 (IntKind.wrap .i64 (n_1 + 1))))))) n (AObj.row t_2 s_1 (spliceA cs_1 4 (AV.cells (AV.ptr (some (x, 0)))))))[x]? = some (AObj.row t_3 s_2 cs_2) ∧ chkW (decide (3 ≤ List.length cs_2)) (K (AExit.exit 0) (envOf 71 [(0, AV.ptr (some (t, 0))), (6, AV.ptr (some (n, 0)))], List.set (List.set (List.set h t (AObj.row t_1 s (spliceA cs 2 (AV.cells (AV.int .i64 (IntKind.wrap .i64 (n_1 + 1))))))) n (AObj.row t_2 s_1 (spliceA cs_1 4 (AV.cells (AV.ptr (some (x, 0))))))) x (AObj.row t_3 s_2 (spliceA cs_2 2 (AV.cells (AV.ptr (some (n, 0))))))))))) (∃ (b : Bool), askB b (∃ (k : Nat), ∃ (o : Nat), (Option.bind (cellsAt (List.set h t (AObj.row t_1 s (spliceA cs 2 (AV.cells (AV.int .i64 (IntKind.wrap .i64 (n_1 + 1))))))) n) fun (x : List AV) => partR none x 3) = some (AV.ptr (some (k, o))) ∧ ∃ (k : Nat), ∃ (o : Nat), (Option.bind (cellsAt (List.set h t (AObj.row t_1 s (spliceA cs 2 (AV.cells (AV.int .i64 (IntKind.wrap .i64 (n_1 + 1))))))) n) fun (x : List AV) => partR none x 3) = some (AV.ptr (some (k, o))) ∧ K AExit.normal (envOf 71 [(0, AV.ptr (some (t, 0))), (1, AV.int .i64 i), (2, AV.ptr (some (x, 0))), (6, AV.ptr (some (k, o)))], List.set h t (AObj.row t_1 s (spliceA cs 2 (AV.cells (AV.int .i64 (IntKind.wrap .i64 (n_1 + 1)))))))) ((Option.bind (cellsAt (List.set h t (AObj.row t_1 s (spliceA cs 2 (AV.cells (AV.int .i64 (IntKind.wrap .i64 (n_1 + 1))))))) n) fun (x : List AV) => partR none x 3) = some (AV.ptr none) ∧ ∃ (t_2 : TypeId), ∃ (s_1 : Nat), ∃ (cs_1 : List AV), (List.set h t (AObj.row t_1 s (spliceA cs 2 (AV.cells (AV.int .i64 (IntKind.wrap .i64 (n_1 + 1)))))))[n]? = some (AObj.row t_2 s_1 cs_1) ∧ chkW (decide (4 ≤ List.length cs_1)) (∃ (t_3 : TypeId), ∃ (s_2 : Nat), ∃ (cs_2 : List AV), (List.set (List.set h t (AObj.row t_1 s (spliceA cs 2 (AV.cells (AV.int .i64 (IntKind.wrap .i64 (n_1 + 1))))))) n (AObj.row t_2 s_1 (spliceA cs_1 3 (AV.cells (AV.ptr (some (x, 0)))))))[x]? = some (AObj.row t_3 s_2 cs_2) ∧ chkW (decide (3 ≤ List.length cs_2)) (K (AExit.exit 0) (envOf 71 [(0, AV.ptr (some (t, 0))), (6, AV.ptr (some (n, 0)))], List.set (List.set (List.set h t (AObj.row t_1 s (spliceA cs 2 (AV.cells (AV.int .i64 (IntKind.wrap .i64 (n_1 + 1))))))) n (AObj.row t_2 s_1 (spliceA cs_1 3 (AV.cells (AV.ptr (some (x, 0))))))) x (AObj.row t_3 s_2 (spliceA cs_2 2 (AV.cells (AV.ptr (some (n, 0))))))))))))) = (wpP Try.prog (B25 b) 40 (.inl p25_l0) (e25 t i x n, h) (postW (B25 b) n25 x25 K)) := by kernel_rfl
def leaf (x : Nat) (xid : Int) : TT := .node x xid .nil .nil
/-- A place in a tree, and a node that hangs nowhere yet. -/
def rP (t m : Nat) (lk : Int) (ctx : List Fr) (T : TT) (x : Nat) (xid : Int) : Rws := rC t m lk T.pt ctx ++ (rT (upC ctx) T ++ [(x, nd xid (0 + 0 + 1 : Nat) none none none)])
def Y25 (t m x : Nat) (xid : Int) (h0 : AHeap) (L0 : Rws) (C0 : List Fr) (H : AHeap) (n : Nat) : Prop := ∃ lk f fs, C0 = f :: fs ∧ f.k = n ∧ Tr h0 H L0 (rZ t m lk fs f.sz (f.fill (leaf x xid)))
def J25 (t m x : Nat) (xid : Int) (h0 : AHeap) (L0 : Rws) (C0 : List Fr) (s : AHeap × Int × Nat × Nat) : Prop :=
  ∃ lk ctx T, ∃ i : Nat, s.2.1 = i ∧ T.pt = some (s.2.2.1, 0) ∧ s.2.2.2 = T.n ∧ i ≤ T.n ∧ T.n + ctxN ctx ≤ 700000 ∧ insC i T ctx = C0 ∧ Tr h0 s.1 L0 (rP t m lk ctx T x xid)
theorem look_tr' {h : AHeap} {t m : Nat} {lk : Int} {ctx : List Fr} {T : TT} {x : Nat} {xid : Int} (hM : Maps h (rP t m lk ctx T x xid)) :
    ∃ p0, h[t]? = some (trow p0 m lk) ∧ ∀ lk', Tr h (h.set t (trow p0 m lk')) (rP t m lk ctx T x xid) (rP t m lk' ctx T x xid) := look_tr hM
theorem put_loop {t m x : Nat} {xid : Int} {h0 : AHeap} {L0 : Rws} {C0 : List Fr} {b : Nat} (s : AHeap × Int × Nat × Nat) (hs : J25 t m x xid h0 L0 C0 s) :
    W Try.prog (B25 b).S b (.inl (.loop p25_l0)) (e25 t s.2.1 x s.2.2.1, s.1) fun e st => e = .exit 0 ∧ ∃ H n, st = (o25 t n, H) ∧ Y25 t m x xid h0 L0 C0 H n := by
  refine W_rounds (C := B25 b) (CU_cw (ks := []) tabsP) (a := p25_l0) (no_parts rfl) (fun s : AHeap × Int × Nat × Nat => (e25 t s.2.1 x s.2.2.1, s.1)) (J25 t m x xid h0 L0 C0) (fun s => s.2.2.2) (fun _ e st => e = .exit 0 ∧ ∃ H n, st = (o25 t n, H) ∧ Y25 t m x xid h0 L0 C0 H n) n25 x25 ?_ s hs
  rintro ⟨h, i', n, mm⟩ ⟨lk, ctx, T, i, rfl, hp, rfl, hi, hb, hC, hT⟩
  refine ⟨40, ?_⟩
  dsimp only at hp hT ⊢
  cases T with
  | nil => cases hp
  | node k id l r =>
    simp only [TT.pt, Option.some.injEq, Prod.mk.injEq, and_true] at hp
    subst hp
    simp only [TT.n] at hi hb
    rw [← put_body]
    obtain ⟨p0, ht, hl⟩ := look_tr' hT.b
    have T1 := hl (IntKind.wrap .i64 (lk + 1))
    have TT1 := hT.trans T1
    have hM1 := T1.b
    have r1 := hM1.row k _ (List.mem_append_right _ (List.mem_append_left _ List.mem_cons_self))
    have s1 := size_at (u := some (k, 0)) (T := l) fun y hy => hM1.row y.1 y.2 (List.mem_append_right _ (List.mem_append_left _ (List.mem_cons_of_mem _ (List.mem_append_left _ hy))))
    have hx := hM1.row x _ (List.mem_append_right _ (List.mem_append_right _ List.mem_cons_self))
    refine ⟨lk, fld ht rfl, 58, 3, _, ht, chkI rfl ⟨l.pt, fld r1 rfl, _, s1, askI (fun hc => ?_) (fun hc => ?_)⟩⟩
    · simp only [decide_eq_true_eq] at hc
      have hc' : i > l.n := by omega
      have eC : insC (i - (l.n + 1)) r (⟨k, id, false, l, (l.n + r.n + 1 : Nat)⟩ :: ctx) = C0 := by rw [← hC, insC, if_pos hc']
      have ew : IntKind.wrap .i64 ((i : Int) - IntKind.wrap .i64 (((l.n : Nat) : Int) + 1)) = ((i - (l.n + 1) : Nat) : Int) := by
        rw [wrap_small (n := ((l.n : Nat) : Int) + 1) (by omega) (by omega), wrap_small (by omega) (by omega)]; omega
      cases r with
      | node rk rid rl rr =>
        refine ⟨true, rk, 0, fld r1 rfl, rk, 0, fld r1 rfl, ⟨(_, _, rk, (TT.node rk rid rl rr).n), rfl, ⟨IntKind.wrap .i64 (lk + 1), _, .node rk rid rl rr, i - (l.n + 1), ew, rfl, rfl, ?_, ?_, eC, TT1.perm (.refl _) (perm_of fun a => by simp only [cnt_cons, cnt_append, cnt_nil, pt_nil, rP, rT, rTs, rC, rZ, pt_node, Fr.row, upC_cons, upC_nil, TT.n, Bool.false_eq_true, if_false, if_true]; omega)⟩, ?_, fun _ _ h => h⟩⟩
        · simp only [TT.n] at hi ⊢; omega
        · simp only [ctxN, TT.n] at hb ⊢; omega
        · show (TT.node rk rid rl rr).n < (TT.node k id l (TT.node rk rid rl rr)).n
          simp only [TT.n]; omega
      | nil =>
        have T2 := Tr.set (k := k) (o := nd id (l.n + 0 + 1 : Nat) (upC ctx) l.pt none) (R := rC t m (IntKind.wrap .i64 (lk + 1)) (some (k, 0)) ctx ++ (rT (some (k, 0)) l ++ [(x, nd xid (0 + 0 + 1 : Nat) none none none)])) hM1 (perm_of fun a => by simp only [cnt_cons, cnt_append, cnt_nil, pt_nil, rP, rT, rTs, rC, rZ, pt_node, Fr.row, upC_cons, upC_nil, TT.n, Bool.false_eq_true, if_false, if_true]; omega) (nd id (l.n + 0 + 1 : Nat) (upC ctx) l.pt (some (x, 0)))
        have T3 := Tr.set (k := x) (o := nd xid (0 + 0 + 1 : Nat) none none none) (R := (k, nd id (l.n + 0 + 1 : Nat) (upC ctx) l.pt (some (x, 0))) :: (rC t m (IntKind.wrap .i64 (lk + 1)) (some (k, 0)) ctx ++ rT (some (k, 0)) l)) T2.b (perm_of fun a => by simp only [cnt_cons, cnt_append, cnt_nil, pt_nil, rP, rT, rTs, rC, rZ, pt_node, Fr.row, upC_cons, upC_nil, TT.n, Bool.false_eq_true, if_false, if_true]; omega) (nd xid (0 + 0 + 1 : Nat) (some (k, 0)) none none)
        have hx2 := T2.b.row x _ (List.mem_cons_of_mem _ (List.mem_append_right _ (List.mem_append_right _ List.mem_cons_self)))
        refine ⟨false, fld r1 rfl, 66, 5, _, r1, chkI rfl ⟨66, 5, _, hx2, chkI rfl ⟨rfl, _, k, rfl, IntKind.wrap .i64 (lk + 1), _, ctx, eC.symm, rfl, ?_⟩⟩⟩
        exact (TT1.trans (T2.trans T3)).perm (.refl _) (by unfold leaf Fr.fill; exact (perm_of fun a => by simp only [cnt_cons, cnt_append, cnt_nil, pt_nil, rP, rT, rTs, rC, rZ, pt_node, Fr.row, upC_cons, upC_nil, TT.n, Bool.false_eq_true, if_false, if_true]; omega))
    · simp only [decide_eq_false_iff_not] at hc
      have hc' : ¬ i > l.n := by omega
      have eC : insC i l (⟨k, id, true, r, (l.n + r.n + 1 : Nat)⟩ :: ctx) = C0 := by rw [← hC, insC, if_neg hc']
      cases l with
      | node lk' lid ll lr =>
        refine ⟨true, lk', 0, fld r1 rfl, lk', 0, fld r1 rfl, ⟨(_, _, lk', (TT.node lk' lid ll lr).n), rfl, ⟨IntKind.wrap .i64 (lk + 1), _, .node lk' lid ll lr, i, rfl, rfl, rfl, ?_, ?_, eC, TT1.perm (.refl _) (perm_of fun a => by simp only [cnt_cons, cnt_append, cnt_nil, pt_nil, rP, rT, rTs, rC, rZ, pt_node, Fr.row, upC_cons, upC_nil, TT.n, Bool.false_eq_true, if_false, if_true]; omega)⟩, ?_, fun _ _ h => h⟩⟩
        · omega
        · simp only [ctxN, TT.n] at hb ⊢; omega
        · show (TT.node lk' lid ll lr).n < (TT.node k id (TT.node lk' lid ll lr) r).n
          simp only [TT.n]; omega
      | nil =>
        have T2 := Tr.set (k := k) (o := nd id (0 + r.n + 1 : Nat) (upC ctx) none r.pt) (R := rC t m (IntKind.wrap .i64 (lk + 1)) (some (k, 0)) ctx ++ (rT (some (k, 0)) r ++ [(x, nd xid (0 + 0 + 1 : Nat) none none none)])) hM1 (perm_of fun a => by simp only [cnt_cons, cnt_append, cnt_nil, pt_nil, rP, rT, rTs, rC, rZ, pt_node, Fr.row, upC_cons, upC_nil, TT.n, Bool.false_eq_true, if_false, if_true]; omega) (nd id (0 + r.n + 1 : Nat) (upC ctx) (some (x, 0)) r.pt)
        have T3 := Tr.set (k := x) (o := nd xid (0 + 0 + 1 : Nat) none none none) (R := (k, nd id (0 + r.n + 1 : Nat) (upC ctx) (some (x, 0)) r.pt) :: (rC t m (IntKind.wrap .i64 (lk + 1)) (some (k, 0)) ctx ++ rT (some (k, 0)) r)) T2.b (perm_of fun a => by simp only [cnt_cons, cnt_append, cnt_nil, pt_nil, rP, rT, rTs, rC, rZ, pt_node, Fr.row, upC_cons, upC_nil, TT.n, Bool.false_eq_true, if_false, if_true]; omega) (nd xid (0 + 0 + 1 : Nat) (some (k, 0)) none none)
        have hx2 := T2.b.row x _ (List.mem_cons_of_mem _ (List.mem_append_right _ (List.mem_append_right _ List.mem_cons_self)))
        refine ⟨false, fld r1 rfl, 66, 5, _, r1, chkI rfl ⟨66, 5, _, hx2, chkI rfl ⟨rfl, _, k, rfl, IntKind.wrap .i64 (lk + 1), _, ctx, eC.symm, rfl, ?_⟩⟩⟩
        exact (TT1.trans (T2.trans T3)).perm (.refl _) (by unfold leaf Fr.fill; exact (perm_of fun a => by simp only [cnt_cons, cnt_append, cnt_nil, pt_nil, rP, rT, rTs, rC, rZ, pt_node, Fr.row, upC_cons, upC_nil, TT.n, Bool.false_eq_true, if_false, if_true]; omega))
/-- A tree with an id more. -/
def insF (i : Nat) (T : TT) (x : Nat) (xid : Int) : TT := upF (insC i T []) (leaf x xid)
theorem insF_ids {i : Nat} {T : TT} {x : Nat} {xid : Int} (h : i ≤ T.n) : (insF i T x xid).ids = T.ids.take i ++ xid :: T.ids.drop i := by
  obtain ⟨h1, h2⟩ := insC_L T i [] h
  unfold insF
  rw [upF_ids, h1, h2]
  simp [ctxL, ctxR, leaf, TT.ids]
/-- A tree's rows, its own among them. -/
def rW (t m : Nat) (lk : Int) (T : TT) : Rws := rC t m lk T.pt [] ++ rT none T
theorem rW_one {h : AHeap} {t m m' : Nat} {lk lk' : Int} {T T' : TT} {A B : Rws} (hM : Maps h (rW t m lk T ++ A)) (hM' : Maps h (rW t m' lk' T' ++ B)) : m = m' ∧ lk = lk' ∧ T = T' := by
  have g1 := hM.left.row t _ List.mem_cons_self
  have g2 := hM'.left.row t _ List.mem_cons_self
  rw [g1] at g2
  simp only [trow, Option.some.injEq, AObj.row.injEq, true_and, List.cons.injEq, AV.ptr.injEq, AV.map.injEq, AV.int.injEq, and_true] at g2
  obtain ⟨e, rfl, rfl⟩ := g2
  exact ⟨rfl, rfl, (rT_one (fun x hx => hM.left.row x.1 x.2 (List.mem_append_right _ hx)) (fun x hx => hM'.left.row x.1 x.2 (List.mem_append_right _ hx)) e).1⟩
def xrow (x : Nat) (xid : Int) : Nat × AObj := (x, nd xid (0 + 0 + 1 : Nat) none none none)
def P25 (vs : List AV) (h : AHeap) (_ : Unit) (h' : AHeap) : Prop := ∀ t m lk T x xid (i : Nat), vs = [.ptr (some (t, 0)), .int .i64 i, .ptr (some (x, 0))] → i ≤ T.n → T.n ≤ 600000 → Maps h (rW t m lk T ++ [xrow x xid]) →
  ∃ lk', Tr h h' (rW t m lk T ++ [xrow x xid]) (rW t m lk' (insF i T x xid))
theorem put_can {h : AHeap} {t m : Nat} {lk : Int} {T : TT} {x : Nat} {xid : Int} {i : Nat} (hi : i ≤ T.n) (hb : T.n ≤ 600000) (hM : Maps h (rW t m lk T ++ [xrow x xid])) : ComesTo Try.prog 25 V0 P25 [.ptr (some (t, 0)), .int .i64 i, .ptr (some (x, 0))] h := by
  suffices hs : ∃ v h', (v = AV.tup [] ∧ ∃ lk', Tr h h' (rW t m lk T ++ [xrow x xid]) (rW t m lk' (insF i T x xid))) ∧ CallSem Try.prog 25 [.ptr (some (t, 0)), .int .i64 i, .ptr (some (x, 0))] h v h' by
    obtain ⟨v, h', ⟨rfl, ht⟩, hs⟩ := hs
    refine ⟨(), h', fun t' m' lk' T' x' xid' i' e hi' hb' hM' => ?_, hs⟩
    simp only [List.cons.injEq, AV.ptr.injEq, AV.int.injEq, Option.some.injEq, Prod.mk.injEq, and_true, true_and] at e
    obtain ⟨rfl, e1, rfl⟩ := e
    obtain rfl : i = i' := by omega
    obtain ⟨rfl, rfl, rfl⟩ := rW_one hM hM'
    have g1 := hM.row x _ (List.mem_append_right _ List.mem_cons_self)
    have g2 := hM'.row x _ (List.mem_append_right _ List.mem_cons_self)
    rw [g1] at g2
    simp only [nd, Option.some.injEq, AObj.row.injEq, true_and, List.cons.injEq, AV.int.injEq, and_true] at g2
    subst g2
    exact ht
  have M0 : Maps h (rP t m lk [] T x xid) := hM.perm (by unfold rW xrow; exact (perm_of fun a => by simp only [cnt_cons, cnt_append, cnt_nil, pt_nil, rP, rT, rTs, rC, rZ, pt_node, Fr.row, upC_cons, upC_nil, TT.n, Bool.false_eq_true, if_false, if_true]; omega))
  obtain ⟨p0, ht, hl⟩ := look_tr' M0
  have T1 := hl (IntKind.wrap .i64 (lk + 1))
  have hM1 := T1.b
  have e0 : p0 = T.pt := by
    have g2 := M0.row t _ (List.mem_append_left _ List.mem_cons_self)
    rw [ht] at g2
    simp only [trow, Option.some.injEq, AObj.row.injEq, true_and, List.cons.injEq, AV.ptr.injEq, and_true] at g2
    exact g2
  have rt := hM1.row t _ (List.mem_append_left _ List.mem_cons_self)
  refine sem_vc mixed (C := C25 t i x (fun H n => ∃ mm, J25 t m x xid h (rP t m lk [] T x xid) (insC i T []) (H, (i : Int), n, mm)) (Y25 t m x xid h (rP t m lk [] T x xid) (insC i T []))) (SU_ok tabsP) (CU_q (ks := [])) (CU_cw (ks := []) tabsP) ht25 c25 ?_ (put_vc h t x i _ _ _) ?_
  · refine one_part rfl (part_loop (id := 4) rfl rfl fun st K hT => ?_)
    obtain ⟨H, n, rfl, ⟨mm, hJ⟩, hk⟩ := hT
    refine W_mono (put_loop _ hJ) fun e st hq => ?_
    obtain ⟨rfl, H', n', rfl, hY⟩ := hq
    exact hk H' n' hY
  · refine ⟨lk, fld ht rfl, 58, 3, _, ht, chkI rfl ?_⟩
    subst e0
    cases T with
    | nil =>
      have T2 := Tr.set (k := t) (o := trow none m (IntKind.wrap .i64 (lk + 1))) (R := [(x, nd xid (0 + 0 + 1 : Nat) none none none)]) hM1 (perm_of fun a => by simp only [cnt_cons, cnt_append, cnt_nil, pt_nil, rP, rT, rTs, rC, rZ, pt_node, Fr.row, upC_cons, upC_nil, TT.n, Bool.false_eq_true, if_false, if_true]; omega) (trow (some (x, 0)) m (IntKind.wrap .i64 (lk + 1)))
      refine ⟨false, fld rt rfl, 58, 3, _, rt, chkI rfl ⟨rfl, IntKind.wrap .i64 (lk + 1), ?_⟩⟩
      exact (T1.trans T2).perm (by unfold rW xrow; exact (perm_of fun a => by simp only [cnt_cons, cnt_append, cnt_nil, pt_nil, rP, rT, rTs, rC, rZ, pt_node, Fr.row, upC_cons, upC_nil, TT.n, Bool.false_eq_true, if_false, if_true]; omega)) (by unfold rW insF; simp only [insC, upF, leaf]; exact (perm_of fun a => by simp only [cnt_cons, cnt_append, cnt_nil, pt_nil, rP, rT, rTs, rC, rZ, pt_node, Fr.row, upC_cons, upC_nil, TT.n, Bool.false_eq_true, if_false, if_true]; omega))
    | node k id l r =>
      refine ⟨true, k, 0, fld rt rfl, k, 0, fld rt rfl, _, k, rfl, ⟨(TT.node k id l r).n, IntKind.wrap .i64 (lk + 1), [], .node k id l r, i, rfl, rfl, rfl, hi, by simp only [ctxN]; omega, rfl, T1⟩, fun H' n' hY => ?_⟩
      obtain ⟨lk2, f, fs, hC, rfl, T2⟩ := hY
      have hn := insC_n (.node k id l r) i []
      rw [hC] at hn
      simp only [ctxN] at hn
      have hfb : (f.fill (leaf x xid)).n + ctxN fs ≤ 800000 := by
        rw [fill_n]; simp only [leaf, TT.n]; simp only [TT.n] at hn hb; omega
      have hfp : (f.fill (leaf x xid)).pt = some (f.k, 0) := fill_some _ _
      have hcan := mend_can (T := f.fill (leaf x xid)) (.inl (by rw [hfp]; simp)) hfb T2.b
      rw [hfp] at hcan
      refine ⟨hcan, fun _ h3 hp => ?_⟩
      obtain ⟨lk3, T3⟩ := hp t m lk2 fs f.sz (f.fill (leaf x xid)) (by rw [hfp]) (.inl (by rw [hfp]; simp)) hfb T2.b
      refine ⟨rfl, lk3, ?_⟩
      have eF : insF i (.node k id l r) x xid = upF fs (bal (f.fill (leaf x xid))) := by unfold insF; rw [hC]; rfl
      rw [eF]
      exact (T2.trans T3).perm (by unfold rW xrow; exact (perm_of fun a => by simp only [cnt_cons, cnt_append, cnt_nil, pt_nil, rP, rT, rTs, rC, rZ, pt_node, Fr.row, upC_cons, upC_nil, TT.n, Bool.false_eq_true, if_false, if_true]; omega)) (.refl _)

end Go.Proofs.Ytncmgbbbekabdaa
