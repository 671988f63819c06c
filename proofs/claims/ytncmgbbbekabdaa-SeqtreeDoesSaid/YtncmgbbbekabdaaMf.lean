/- Written by merging: Te Tf Tg Th Ti. -/
import Derived.Test.YtncmgbbbekabdaaMe
namespace Go.Proofs.Ytncmgbbbekabdaa
open Go Go.Am Go.RowKit
set_option maxRecDepth 100000
set_option linter.unusedVariables false
set_option linter.unusedSimpArgs false
noncomputable def tR : List TbG := [TC Try.prog 36 V0 P36, TC Try.prog 43 V0 P43]
theorem left_vc (h : AHeap) (t n : Nat) (R : AV → AHeap → Prop) : (∃ (k : Nat), ∃ (o : Nat), (Option.bind (cellsAt h n) fun (x : List AV) => partR none x 4) = some (AV.ptr (some (k, o))) ∧ ComesTo Try.prog 36 V0 P36 ([] ++ List.reverse [AV.ptr (some (k, o)), AV.ptr (some (n, 0)), AV.ptr (some (t, 0))] ++ []) h ∧ ∀ (a : Unit) (h' : AHeap), P36 [AV.ptr (some (t, 0)), AV.ptr (some (n, 0)), AV.ptr (some (k, o))] h a h' → ∃ (p : Option (Nat × Nat)), (Option.bind (cellsAt h' n) fun (x : List AV) => partR none x 3) = some (AV.ptr p) ∧ ∃ (p_1 : Option (Nat × Nat)), (Option.bind (cellsAt h' k) fun (x : List AV) => partR none x (o + 3)) = some (AV.ptr p_1) ∧ ComesTo Try.prog 43 V0 P43 ([] ++ List.reverse [AV.ptr p_1, AV.ptr p, AV.ptr (some (n, 0))] ++ []) h' ∧ ∀ (a : Unit) (h'_1 : AHeap), P43 [AV.ptr (some (n, 0)), AV.ptr p, AV.ptr p_1] h' a h'_1 → ∃ (p : Option (Nat × Nat)), (Option.bind (cellsAt h'_1 k) fun (x : List AV) => partR none x (o + 4)) = some (AV.ptr p) ∧ ComesTo Try.prog 43 V0 P43 ([] ++ List.reverse [AV.ptr p, AV.ptr (some (n, 0)), AV.ptr (some (k, o))] ++ []) h'_1 ∧ ∀ (a : Unit) (h' : AHeap), P43 [AV.ptr (some (k, o)), AV.ptr (some (n, 0)), AV.ptr p] h'_1 a h' → ∃ (n : Int), (Option.bind (cellsAt h' t) fun (x : List AV) => partR none x 2) = some (AV.int .i64 n) ∧ ∃ (t_1 : TypeId), ∃ (s : Nat), ∃ (cs : List AV), h'[t]? = some (AObj.row t_1 s cs) ∧ chkW (decide (3 ≤ List.length cs)) (R (AV.ptr (some (k, o))) (List.set h' t (AObj.row t_1 s (spliceA cs 2 (AV.cells (AV.int .i64 (IntKind.wrap .i64 (n + 3))))))))) = (wpF Try.prog (CT tbQ tR [(9, .ptrS), (18, .ptrV), (22, .ptrV), (29, .ptrV), (34, i64)]) 30 p42 [(.ptr (some (t, 0))), (.ptr (some (n, 0)))] h R) := by kernel_rfl
theorem right_vc (h : AHeap) (t n : Nat) (R : AV → AHeap → Prop) : (∃ (k : Nat), ∃ (o : Nat), (Option.bind (cellsAt h n) fun (x : List AV) => partR none x 3) = some (AV.ptr (some (k, o))) ∧ ComesTo Try.prog 36 V0 P36 ([] ++ List.reverse [AV.ptr (some (k, o)), AV.ptr (some (n, 0)), AV.ptr (some (t, 0))] ++ []) h ∧ ∀ (a : Unit) (h' : AHeap), P36 [AV.ptr (some (t, 0)), AV.ptr (some (n, 0)), AV.ptr (some (k, o))] h a h' → ∃ (p : Option (Nat × Nat)), (Option.bind (cellsAt h' k) fun (x : List AV) => partR none x (o + 4)) = some (AV.ptr p) ∧ ∃ (p_1 : Option (Nat × Nat)), (Option.bind (cellsAt h' n) fun (x : List AV) => partR none x 4) = some (AV.ptr p_1) ∧ ComesTo Try.prog 43 V0 P43 ([] ++ List.reverse [AV.ptr p_1, AV.ptr p, AV.ptr (some (n, 0))] ++ []) h' ∧ ∀ (a : Unit) (h'_1 : AHeap), P43 [AV.ptr (some (n, 0)), AV.ptr p, AV.ptr p_1] h' a h'_1 → ∃ (p : Option (Nat × Nat)), (Option.bind (cellsAt h'_1 k) fun (x : List AV) => partR none x (o + 3)) = some (AV.ptr p) ∧ ComesTo Try.prog 43 V0 P43 ([] ++ List.reverse [AV.ptr (some (n, 0)), AV.ptr p, AV.ptr (some (k, o))] ++ []) h'_1 ∧ ∀ (a : Unit) (h' : AHeap), P43 [AV.ptr (some (k, o)), AV.ptr p, AV.ptr (some (n, 0))] h'_1 a h' → ∃ (n : Int), (Option.bind (cellsAt h' t) fun (x : List AV) => partR none x 2) = some (AV.int .i64 n) ∧ ∃ (t_1 : TypeId), ∃ (s : Nat), ∃ (cs : List AV), h'[t]? = some (AObj.row t_1 s cs) ∧ chkW (decide (3 ≤ List.length cs)) (R (AV.ptr (some (k, o))) (List.set h' t (AObj.row t_1 s (spliceA cs 2 (AV.cells (AV.int .i64 (IntKind.wrap .i64 (n + 3))))))))) = (wpF Try.prog (CT tbQ tR [(9, .ptrS), (18, .ptrV), (22, .ptrV), (21, .ptrV), (27, .ptrV), (28, .ptrV), (29, .ptrV), (34, i64)]) 30 p41 [(.ptr (some (t, 0))), (.ptr (some (n, 0)))] h R) := by kernel_rfl
/-- The tree's own row among what is around a place. -/
theorem rC_top (t m : Nat) : ∀ (ctx : List Fr) (p : Pt), ∃ p0 R, ∀ lk, (rC t m lk p ctx).Perm ((t, trow p0 m lk) :: R)
  | [], p => ⟨p, [], fun lk => .refl _⟩
  | f :: fs, p => by
    obtain ⟨p0, R, h⟩ := rC_top t m fs (some (f.k, 0))
    refine ⟨p0, (f.k, f.row (upC fs) p) :: (rT (some (f.k, 0)) f.sib ++ R), fun lk => ?_⟩
    have h1 := h lk
    refine perm_of fun a => ?_
    have h2 := cnt_perm h1 a
    simp only [cnt_cons, cnt_append, rC] at h2 ⊢
    omega
theorem zip_one {h : AHeap} {t m m' : Nat} {lk lk' : Int} {ctx ctx' : List Fr} {sz sz' : Int} {T T' : TT} (hM : Maps h (rZ t m lk ctx sz T)) (hM' : Maps h (rZ t m' lk' ctx' sz' T')) (hp : T.pt = T'.pt) (hn : T.pt ≠ none) : ctx = ctx' ∧ m = m' ∧ lk = lk' ∧ sz = sz' ∧ T = T' := by
  cases T with
  | nil => exact absurd rfl hn
  | node k id l r =>
    cases T' with
    | nil => cases hp
    | node k' id' l' r' =>
      simp only [TT.pt, Option.some.injEq, Prod.mk.injEq, and_true] at hp
      subst hp
      have g1 := hM.row k _ (List.mem_append_right _ List.mem_cons_self)
      have g2 := hM'.row k _ (List.mem_append_right _ List.mem_cons_self)
      rw [g1] at g2
      simp only [nd, Option.some.injEq, AObj.row.injEq, true_and, List.cons.injEq, AV.int.injEq, AV.ptr.injEq, and_true] at g2
      obtain ⟨rfl, rfl, eu, e1, e2⟩ := g2
      have n1 := hM.nd
      have n2 := hM'.nd
      simp only [rZ, rTs] at n1 n2
      rw [keys_append, List.nodup_append] at n1 n2
      obtain ⟨rfl, rfl, rfl⟩ := rC_one hM.left hM'.left (fun hk => n1.2.2 k hk k List.mem_cons_self rfl) (fun hk => n2.2.2 k hk k List.mem_cons_self rfl) eu
      obtain ⟨rfl, _⟩ := rT_one (fun x hx => hM.row x.1 x.2 (List.mem_append_right _ (List.mem_cons_of_mem _ (List.mem_append_left _ hx)))) (fun x hx => hM'.row x.1 x.2 (List.mem_append_right _ (List.mem_cons_of_mem _ (List.mem_append_left _ hx)))) e1
      obtain ⟨rfl, _⟩ := rT_one (fun x hx => hM.row x.1 x.2 (List.mem_append_right _ (List.mem_cons_of_mem _ (List.mem_append_right _ hx)))) (fun x hx => hM'.row x.1 x.2 (List.mem_append_right _ (List.mem_cons_of_mem _ (List.mem_append_right _ hx)))) e2
      exact ⟨rfl, rfl, rfl, rfl, rfl⟩
theorem tabsR : TabsOK tbQ tR [] := by
  refine ⟨tabsQ.q, tabsQ.qq, fun x hx => ?_, fun x hx => ?_, fun _ h => (by cases h), rfl⟩
  · simp only [tR, List.mem_cons, List.not_mem_nil, or_false] at hx
    rcases hx with rfl | rfl
    · exact csem_full ht36 V0 P36
    · exact csem_full ht43 V0 P43
  · simp only [tR, List.mem_cons, List.not_mem_nil, or_false] at hx
    rcases hx with rfl | rfl <;> exact TC_ok _ _ _ _
/-- What was looked at is counted. -/
theorem look_tr {h : AHeap} {t m : Nat} {lk : Int} {p : Pt} {ctx : List Fr} {F : Rws} (hM : Maps h (rC t m lk p ctx ++ F)) :
    ∃ p0, h[t]? = some (trow p0 m lk) ∧ ∀ lk', Tr h (h.set t (trow p0 m lk')) (rC t m lk p ctx ++ F) (rC t m lk' p ctx ++ F) := by
  obtain ⟨p0, R, hp⟩ := rC_top t m ctx p
  refine ⟨p0, hM.row t _ (List.mem_append_left _ ((hp lk).mem_iff.2 List.mem_cons_self)), fun lk' => ?_⟩
  refine (Tr.set (R := R ++ F) hM ((hp lk).append_right F) (trow p0 m lk')).perm (.refl _) ?_
  exact ((hp lk').append_right F).symm
def VP (p : Pt) : AV := .ptr p
def P42 (vs : List AV) (h : AHeap) (p : Pt) (h' : AHeap) : Prop := ∀ t m lk ctx sz k id l rk rid rl rr, vs = [.ptr (some (t, 0)), .ptr (some (k, 0))] → l.n + rl.n + rr.n ≤ 900000 → Maps h (rZ t m lk ctx sz (.node k id l (.node rk rid rl rr))) →
  p = some (rk, 0) ∧ ∃ lk', Tr h h' (rZ t m lk ctx sz (.node k id l (.node rk rid rl rr))) (rC t m lk' (some (rk, 0)) ctx ++ rT (upC ctx) (.node rk rid (.node k id l rl) rr))
theorem left_can {h : AHeap} {t m : Nat} {lk : Int} {ctx : List Fr} {sz : Int} {k : Nat} {id : Int} {l : TT} {rk : Nat} {rid : Int} {rl rr : TT} (hb : l.n + rl.n + rr.n ≤ 900000) (hM : Maps h (rZ t m lk ctx sz (.node k id l (.node rk rid rl rr)))) :
    ComesTo Try.prog 42 VP P42 [.ptr (some (t, 0)), .ptr (some (k, 0))] h := by
  suffices hs : ∃ v h', (v = AV.ptr (some (rk, 0)) ∧ ∃ lk', Tr h h' (rZ t m lk ctx sz (.node k id l (.node rk rid rl rr))) (rC t m lk' (some (rk, 0)) ctx ++ rT (upC ctx) (.node rk rid (.node k id l rl) rr))) ∧ CallSem Try.prog 42 [.ptr (some (t, 0)), .ptr (some (k, 0))] h v h' by
    obtain ⟨v, h', ⟨rfl, ht⟩, hs⟩ := hs
    refine ⟨some (rk, 0), h', fun t' m' lk' ctx' sz' k' id' l' rk' rid' rl' rr' e hb' hM' => ?_, hs⟩
    simp only [List.cons.injEq, AV.ptr.injEq, Option.some.injEq, Prod.mk.injEq, and_true] at e
    obtain ⟨rfl, rfl⟩ := e
    obtain ⟨rfl, rfl, rfl, rfl, e⟩ := zip_one hM hM' rfl (by simp [TT.pt])
    simp only [TT.node.injEq, true_and] at e
    obtain ⟨rfl, rfl, rfl, rfl, rfl, rfl⟩ := e
    exact ⟨rfl, ht⟩
  have r0 := hM.row k _ (List.mem_append_right _ List.mem_cons_self)
  have M1 : Maps h (((k, nd id sz (upC ctx) l.pt (some (rk, 0))) :: (rC t m lk (some (k, 0)) ctx ++ rT (some (k, 0)) (.node rk rid rl rr))) ++ rT (some (k, 0)) l) := hM.perm (perm_of fun a => by simp only [cnt_cons, cnt_append, cnt_nil, pt_nil, rT, rTs, rC, rZ, pt_node, Fr.row, upC_cons, upC_nil, TT.n, Bool.false_eq_true, if_false, if_true]; omega)
  refine sem tabsR ht42 c42 rfl (left_vc h t k _) ⟨rk, 0, fld r0 rfl, repl_can (N := .node rk rid rl rr) M1.left, fun _ h1 hp => ?_⟩
  have T1 : Tr h h1 _ _ := hp t m lk ctx k id sz l.pt (some (rk, 0)) (.node rk rid rl rr) (some (k, 0)) rfl M1.left
  have T1' := T1.frame M1
  have q1 := T1'.b.row k _ List.mem_cons_self
  have q2 : h1[rk]? = some (nd rid (rl.n + rr.n + 1 : Nat) (upC ctx) rl.pt rr.pt) := T1'.b.row rk _ (List.mem_append_left _ (List.mem_cons_of_mem _ (List.mem_append_right _ List.mem_cons_self)))
  have M2 : Maps h1 (((k, nd id sz (upC ctx) l.pt (some (rk, 0))) :: (rT (some (k, 0)) l ++ rT (some (rk, 0)) rl)) ++ ((rk, nd rid (rl.n + rr.n + 1 : Nat) (upC ctx) rl.pt rr.pt) :: (rT (some (rk, 0)) rr ++ rC t m lk (some (rk, 0)) ctx))) := T1'.b.perm (perm_of fun a => by simp only [cnt_cons, cnt_append, cnt_nil, pt_nil, rT, rTs, rC, rZ, pt_node, Fr.row, upC_cons, upC_nil, TT.n, Bool.false_eq_true, if_false, if_true]; omega)
  refine ⟨l.pt, fld q1 rfl, rl.pt, fld q2 rfl, joins_can (L := l) (R := rl) (by omega) M2.left, fun _ h2 hp2 => ?_⟩
  have T2 := (hp2 k id sz (upC ctx) l.pt (some (rk, 0)) l rl (some (k, 0)) (some (rk, 0)) rfl (by omega) M2.left).frame M2
  have q3 := T2.b.row rk _ (List.mem_append_right _ List.mem_cons_self)
  have M3 : Maps h2 (((rk, nd rid (rl.n + rr.n + 1 : Nat) (upC ctx) rl.pt rr.pt) :: (rT (upC ctx) (.node k id l rl) ++ rT (some (rk, 0)) rr)) ++ rC t m lk (some (rk, 0)) ctx) := T2.b.perm (perm_of fun a => by simp only [cnt_cons, cnt_append, cnt_nil, pt_nil, rT, rTs, rC, rZ, pt_node, Fr.row, upC_cons, upC_nil, TT.n, Bool.false_eq_true, if_false, if_true]; omega)
  refine ⟨rr.pt, fld q3 rfl, joins_can (L := .node k id l rl) (R := rr) (by simp only [TT.n]; omega) M3.left, fun _ h3 hp3 => ?_⟩
  have T3 := (hp3 rk rid _ (upC ctx) rl.pt rr.pt (.node k id l rl) rr (upC ctx) (some (rk, 0)) rfl (by simp only [TT.n]; omega) M3.left).frame M3
  have M4 : Maps h3 (rC t m lk (some (rk, 0)) ctx ++ rT (upC ctx) (.node rk rid (.node k id l rl) rr)) := T3.b.perm (perm_of fun a => by simp only [cnt_cons, cnt_append, cnt_nil, pt_nil, rT, rTs, rC, rZ, pt_node, Fr.row, upC_cons, upC_nil, TT.n, Bool.false_eq_true, if_false, if_true]; omega)
  obtain ⟨p0, ht, hl⟩ := look_tr M4
  refine ⟨lk, fld ht rfl, 58, 3, _, ht, chkI rfl ⟨rfl, IntKind.wrap .i64 (lk + 3), ?_⟩⟩
  have T4 := hl (IntKind.wrap .i64 (lk + 3))
  have A1 := T1'.perm (M := rZ t m lk ctx sz (.node k id l (.node rk rid rl rr))) (perm_of fun a => by simp only [cnt_cons, cnt_append, cnt_nil, pt_nil, rT, rTs, rC, rZ, pt_node, Fr.row, upC_cons, upC_nil, TT.n, Bool.false_eq_true, if_false, if_true]; omega) (M' := ((k, nd id sz (upC ctx) l.pt (some (rk, 0))) :: (rT (some (k, 0)) l ++ rT (some (rk, 0)) rl)) ++ ((rk, nd rid (rl.n + rr.n + 1 : Nat) (upC ctx) rl.pt rr.pt) :: (rT (some (rk, 0)) rr ++ rC t m lk (some (rk, 0)) ctx))) (perm_of fun a => by simp only [cnt_cons, cnt_append, cnt_nil, pt_nil, rT, rTs, rC, rZ, pt_node, Fr.row, upC_cons, upC_nil, TT.n, Bool.false_eq_true, if_false, if_true]; omega)
  have A2 := A1.trans T2 |>.perm (.refl _) (M' := ((rk, nd rid (rl.n + rr.n + 1 : Nat) (upC ctx) rl.pt rr.pt) :: (rT (upC ctx) (.node k id l rl) ++ rT (some (rk, 0)) rr)) ++ rC t m lk (some (rk, 0)) ctx) (perm_of fun a => by simp only [cnt_cons, cnt_append, cnt_nil, pt_nil, rT, rTs, rC, rZ, pt_node, Fr.row, upC_cons, upC_nil, TT.n, Bool.false_eq_true, if_false, if_true]; omega)
  have A3 := A2.trans T3 |>.perm (.refl _) (M' := rC t m lk (some (rk, 0)) ctx ++ rT (upC ctx) (.node rk rid (.node k id l rl) rr)) (perm_of fun a => by simp only [cnt_cons, cnt_append, cnt_nil, pt_nil, rT, rTs, rC, rZ, pt_node, Fr.row, upC_cons, upC_nil, TT.n, Bool.false_eq_true, if_false, if_true]; omega)
  exact A3.trans T4
def P41 (vs : List AV) (h : AHeap) (p : Pt) (h' : AHeap) : Prop := ∀ t m lk ctx sz k id ak aid al ar r, vs = [.ptr (some (t, 0)), .ptr (some (k, 0))] → al.n + ar.n + r.n ≤ 900000 → Maps h (rZ t m lk ctx sz (.node k id (.node ak aid al ar) r)) →
  p = some (ak, 0) ∧ ∃ lk', Tr h h' (rZ t m lk ctx sz (.node k id (.node ak aid al ar) r)) (rC t m lk' (some (ak, 0)) ctx ++ rT (upC ctx) (.node ak aid al (.node k id ar r)))
theorem right_can {h : AHeap} {t m : Nat} {lk : Int} {ctx : List Fr} {sz : Int} {k : Nat} {id : Int} {ak : Nat} {aid : Int} {al ar r : TT} (hb : al.n + ar.n + r.n ≤ 900000) (hM : Maps h (rZ t m lk ctx sz (.node k id (.node ak aid al ar) r))) :
    ComesTo Try.prog 41 VP P41 [.ptr (some (t, 0)), .ptr (some (k, 0))] h := by
  suffices hs : ∃ v h', (v = AV.ptr (some (ak, 0)) ∧ ∃ lk', Tr h h' (rZ t m lk ctx sz (.node k id (.node ak aid al ar) r)) (rC t m lk' (some (ak, 0)) ctx ++ rT (upC ctx) (.node ak aid al (.node k id ar r)))) ∧ CallSem Try.prog 41 [.ptr (some (t, 0)), .ptr (some (k, 0))] h v h' by
    obtain ⟨v, h', ⟨rfl, ht⟩, hs⟩ := hs
    refine ⟨some (ak, 0), h', fun t' m' lk' ctx' sz' k' id' ak' aid' al' ar' r' e hb' hM' => ?_, hs⟩
    simp only [List.cons.injEq, AV.ptr.injEq, Option.some.injEq, Prod.mk.injEq, and_true] at e
    obtain ⟨rfl, rfl⟩ := e
    obtain ⟨rfl, rfl, rfl, rfl, e⟩ := zip_one hM hM' rfl (by simp [TT.pt])
    simp only [TT.node.injEq, true_and] at e
    obtain ⟨rfl, ⟨rfl, rfl, rfl, rfl⟩, rfl⟩ := e
    exact ⟨rfl, ht⟩
  have r0 := hM.row k _ (List.mem_append_right _ List.mem_cons_self)
  have M1 : Maps h (((k, nd id sz (upC ctx) (some (ak, 0)) r.pt) :: (rC t m lk (some (k, 0)) ctx ++ rT (some (k, 0)) (.node ak aid al ar))) ++ rT (some (k, 0)) r) := hM.perm (perm_of fun a => by simp only [cnt_cons, cnt_append, cnt_nil, pt_nil, rT, rTs, rC, rZ, pt_node, Fr.row, upC_cons, upC_nil, TT.n, Bool.false_eq_true, if_false, if_true]; omega)
  refine sem tabsR ht41 c41 rfl (right_vc h t k _) ⟨ak, 0, fld r0 rfl, repl_can (N := .node ak aid al ar) M1.left, fun _ h1 hp => ?_⟩
  have T1 : Tr h h1 _ _ := hp t m lk ctx k id sz (some (ak, 0)) r.pt (.node ak aid al ar) (some (k, 0)) rfl M1.left
  have T1' := T1.frame M1
  have q1 := T1'.b.row k _ List.mem_cons_self
  have q2 : h1[ak]? = some (nd aid (al.n + ar.n + 1 : Nat) (upC ctx) al.pt ar.pt) := T1'.b.row ak _ (List.mem_append_left _ (List.mem_cons_of_mem _ (List.mem_append_right _ List.mem_cons_self)))
  have M2 : Maps h1 (((k, nd id sz (upC ctx) (some (ak, 0)) r.pt) :: (rT (some (ak, 0)) ar ++ rT (some (k, 0)) r)) ++ ((ak, nd aid (al.n + ar.n + 1 : Nat) (upC ctx) al.pt ar.pt) :: (rT (some (ak, 0)) al ++ rC t m lk (some (ak, 0)) ctx))) := T1'.b.perm (perm_of fun a => by simp only [cnt_cons, cnt_append, cnt_nil, pt_nil, rT, rTs, rC, rZ, pt_node, Fr.row, upC_cons, upC_nil, TT.n, Bool.false_eq_true, if_false, if_true]; omega)
  refine ⟨ar.pt, fld q2 rfl, r.pt, fld q1 rfl, joins_can (L := ar) (R := r) (by omega) M2.left, fun _ h2 hp2 => ?_⟩
  have T2 := (hp2 k id sz (upC ctx) (some (ak, 0)) r.pt ar r (some (ak, 0)) (some (k, 0)) rfl (by omega) M2.left).frame M2
  have q3 := T2.b.row ak _ (List.mem_append_right _ List.mem_cons_self)
  have M3 : Maps h2 (((ak, nd aid (al.n + ar.n + 1 : Nat) (upC ctx) al.pt ar.pt) :: (rT (some (ak, 0)) al ++ rT (upC ctx) (.node k id ar r))) ++ rC t m lk (some (ak, 0)) ctx) := T2.b.perm (perm_of fun a => by simp only [cnt_cons, cnt_append, cnt_nil, pt_nil, rT, rTs, rC, rZ, pt_node, Fr.row, upC_cons, upC_nil, TT.n, Bool.false_eq_true, if_false, if_true]; omega)
  refine ⟨al.pt, fld q3 rfl, joins_can (L := al) (R := .node k id ar r) (by simp only [TT.n]; omega) M3.left, fun _ h3 hp3 => ?_⟩
  have T3 := (hp3 ak aid _ (upC ctx) al.pt ar.pt al (.node k id ar r) (some (ak, 0)) (upC ctx) rfl (by simp only [TT.n]; omega) M3.left).frame M3
  have M4 : Maps h3 (rC t m lk (some (ak, 0)) ctx ++ rT (upC ctx) (.node ak aid al (.node k id ar r))) := T3.b.perm (perm_of fun a => by simp only [cnt_cons, cnt_append, cnt_nil, pt_nil, rT, rTs, rC, rZ, pt_node, Fr.row, upC_cons, upC_nil, TT.n, Bool.false_eq_true, if_false, if_true]; omega)
  obtain ⟨p0, ht, hl⟩ := look_tr M4
  refine ⟨lk, fld ht rfl, 58, 3, _, ht, chkI rfl ⟨rfl, IntKind.wrap .i64 (lk + 3), ?_⟩⟩
  have T4 := hl (IntKind.wrap .i64 (lk + 3))
  have A1 := T1'.perm (M := rZ t m lk ctx sz (.node k id (.node ak aid al ar) r)) (perm_of fun a => by simp only [cnt_cons, cnt_append, cnt_nil, pt_nil, rT, rTs, rC, rZ, pt_node, Fr.row, upC_cons, upC_nil, TT.n, Bool.false_eq_true, if_false, if_true]; omega) (M' := ((k, nd id sz (upC ctx) (some (ak, 0)) r.pt) :: (rT (some (ak, 0)) ar ++ rT (some (k, 0)) r)) ++ ((ak, nd aid (al.n + ar.n + 1 : Nat) (upC ctx) al.pt ar.pt) :: (rT (some (ak, 0)) al ++ rC t m lk (some (ak, 0)) ctx))) (perm_of fun a => by simp only [cnt_cons, cnt_append, cnt_nil, pt_nil, rT, rTs, rC, rZ, pt_node, Fr.row, upC_cons, upC_nil, TT.n, Bool.false_eq_true, if_false, if_true]; omega)
  have A2 := A1.trans T2 |>.perm (.refl _) (M' := ((ak, nd aid (al.n + ar.n + 1 : Nat) (upC ctx) al.pt ar.pt) :: (rT (some (ak, 0)) al ++ rT (upC ctx) (.node k id ar r))) ++ rC t m lk (some (ak, 0)) ctx) (perm_of fun a => by simp only [cnt_cons, cnt_append, cnt_nil, pt_nil, rT, rTs, rC, rZ, pt_node, Fr.row, upC_cons, upC_nil, TT.n, Bool.false_eq_true, if_false, if_true]; omega)
  have A3 := A2.trans T3 |>.perm (.refl _) (M' := rC t m lk (some (ak, 0)) ctx ++ rT (upC ctx) (.node ak aid al (.node k id ar r))) (perm_of fun a => by simp only [cnt_cons, cnt_append, cnt_nil, pt_nil, rT, rTs, rC, rZ, pt_node, Fr.row, upC_cons, upC_nil, TT.n, Bool.false_eq_true, if_false, if_true]; omega)
  exact A3.trans T4
noncomputable def tB : List TbG := [TC Try.prog 42 VP P42, TC Try.prog 41 VP P41]
theorem bal_vc (h : AHeap) (t n : Nat) (R : AV → AHeap → Prop) : (∃ (p : Option (Nat × Nat)), (Option.bind (cellsAt h n) fun (x : List AV) => partR none x 4) = some (AV.ptr p) ∧ ∃ (n_1 : Int), TbE.s { f := 40, s := sWeight, r := Rs.of (Rs1.one i64) } [AV.ptr p] h = some (AV.int .i64 n_1) ∧ ∃ (p : Option (Nat × Nat)), (Option.bind (cellsAt h n) fun (x : List AV) => partR none x 3) = some (AV.ptr p) ∧ ∃ (n_2 : Int), TbE.s { f := 40, s := sWeight, r := Rs.of (Rs1.one i64) } [AV.ptr p] h = some (AV.int .i64 n_2) ∧ askB (decide (n_1 > IntKind.wrap .i64 (3 * n_2))) (∃ (k : Nat), ∃ (o : Nat), (Option.bind (cellsAt h n) fun (x : List AV) => partR none x 4) = some (AV.ptr (some (k, o))) ∧ ∃ (p : Option (Nat × Nat)), (Option.bind (cellsAt h k) fun (x : List AV) => partR none x (o + 3)) = some (AV.ptr p) ∧ ∃ (n_3 : Int), TbE.s { f := 40, s := sWeight, r := Rs.of (Rs1.one i64) } [AV.ptr p] h = some (AV.int .i64 n_3) ∧ ∃ (k : Nat), ∃ (o : Nat), (Option.bind (cellsAt h n) fun (x : List AV) => partR none x 4) = some (AV.ptr (some (k, o))) ∧ ∃ (p : Option (Nat × Nat)), (Option.bind (cellsAt h k) fun (x : List AV) => partR none x (o + 4)) = some (AV.ptr p) ∧ ∃ (n_4 : Int), TbE.s { f := 40, s := sWeight, r := Rs.of (Rs1.one i64) } [AV.ptr p] h = some (AV.int .i64 n_4) ∧ askB (decide (n_3 ≥ IntKind.wrap .i64 (2 * n_4))) (∃ (k : Nat), ∃ (o : Nat), (Option.bind (cellsAt h n) fun (x : List AV) => partR none x 4) = some (AV.ptr (some (k, o))) ∧ ComesTo Try.prog 41 VP P41 ([] ++ List.reverse [AV.ptr (some (k, o)), AV.ptr (some (t, 0))] ++ []) h ∧ ∀ (a : Pt) (h' : AHeap), P41 [AV.ptr (some (t, 0)), AV.ptr (some (k, o))] h a h' → ComesTo Try.prog 42 VP P42 ([] ++ List.reverse [AV.ptr (some (n, 0)), AV.ptr (some (t, 0))] ++ []) h' ∧ ∀ (a : Pt) (h'_1 : AHeap), P42 [AV.ptr (some (t, 0)), AV.ptr (some (n, 0))] h' a h'_1 → R (AV.ptr a) h'_1) (ComesTo Try.prog 42 VP P42 ([] ++ List.reverse [AV.ptr (some (n, 0)), AV.ptr (some (t, 0))] ++ []) h ∧ ∀ (a : Pt) (h' : AHeap), P42 [AV.ptr (some (t, 0)), AV.ptr (some (n, 0))] h a h' → R (AV.ptr a) h')) (∃ (p : Option (Nat × Nat)), (Option.bind (cellsAt h n) fun (x : List AV) => partR none x 3) = some (AV.ptr p) ∧ ∃ (n_3 : Int), TbE.s { f := 40, s := sWeight, r := Rs.of (Rs1.one i64) } [AV.ptr p] h = some (AV.int .i64 n_3) ∧ ∃ (p : Option (Nat × Nat)), (Option.bind (cellsAt h n) fun (x : List AV) => partR none x 4) = some (AV.ptr p) ∧ ∃ (n_4 : Int), TbE.s { f := 40, s := sWeight, r := Rs.of (Rs1.one i64) } [AV.ptr p] h = some (AV.int .i64 n_4) ∧ askB (decide (n_3 > IntKind.wrap .i64 (3 * n_4))) (∃ (k : Nat), ∃ (o : Nat), (Option.bind (cellsAt h n) fun (x : List AV) => partR none x 3) = some (AV.ptr (some (k, o))) ∧ ∃ (p : Option (Nat × Nat)), (Option.bind (cellsAt h k) fun (x : List AV) => partR none x (o + 4)) = some (AV.ptr p) ∧ ∃ (n_5 : Int), TbE.s { f := 40, s := sWeight, r := Rs.of (Rs1.one i64) } [AV.ptr p] h = some (AV.int .i64 n_5) ∧ ∃ (k : Nat), ∃ (o : Nat), (Option.bind (cellsAt h n) fun (x : List AV) => partR none x 3) = some (AV.ptr (some (k, o))) ∧ ∃ (p : Option (Nat × Nat)), (Option.bind (cellsAt h k) fun (x : List AV) => partR none x (o + 3)) = some (AV.ptr p) ∧ ∃ (n_6 : Int), TbE.s { f := 40, s := sWeight, r := Rs.of (Rs1.one i64) } [AV.ptr p] h = some (AV.int .i64 n_6) ∧ askB (decide (n_5 ≥ IntKind.wrap .i64 (2 * n_6))) (∃ (k : Nat), ∃ (o : Nat), (Option.bind (cellsAt h n) fun (x : List AV) => partR none x 3) = some (AV.ptr (some (k, o))) ∧ ComesTo Try.prog 42 VP P42 ([] ++ List.reverse [AV.ptr (some (k, o)), AV.ptr (some (t, 0))] ++ []) h ∧ ∀ (a : Pt) (h' : AHeap), P42 [AV.ptr (some (t, 0)), AV.ptr (some (k, o))] h a h' → ComesTo Try.prog 41 VP P41 ([] ++ List.reverse [AV.ptr (some (n, 0)), AV.ptr (some (t, 0))] ++ []) h' ∧ ∀ (a : Pt) (h'_1 : AHeap), P41 [AV.ptr (some (t, 0)), AV.ptr (some (n, 0))] h' a h'_1 → R (AV.ptr a) h'_1) (ComesTo Try.prog 41 VP P41 ([] ++ List.reverse [AV.ptr (some (n, 0)), AV.ptr (some (t, 0))] ++ []) h ∧ ∀ (a : Pt) (h' : AHeap), P41 [AV.ptr (some (t, 0)), AV.ptr (some (n, 0))] h a h' → R (AV.ptr a) h')) (R (AV.ptr (some (n, 0))) h))) = (wpF Try.prog (CT tbQ tB [(9, .ptrV), (14, .ptrV), (24, .ptrV), (32, .ptrV), (49, .ptrV), (54, .ptrV), (64, .ptrV), (72, .ptrV), (21, .ptrS), (29, .ptrS), (40, .ptrS), (61, .ptrS), (69, .ptrS), (80, .ptrS)]) 40 p39 [(.ptr (some (t, 0))), (.ptr (some (n, 0)))] h R) := by kernel_rfl
def rotL : TT → TT
  | .node k id l (.node rk rid rl rr) => .node rk rid (.node k id l rl) rr
  | T => T
def rotR : TT → TT
  | .node k id (.node ak aid al ar) r => .node ak aid al (.node k id ar r)
  | T => T
/-- What balance makes of a tree. -/
def bal : TT → TT
  | .nil => .nil
  | .node k id l r =>
    if r.n + 1 > 3 * (l.n + 1) then
      match r with
      | .nil => .node k id l .nil
      | .node rk rid rl rr => if rl.n + 1 ≥ 2 * (rr.n + 1) then rotL (.node k id l (rotR (.node rk rid rl rr))) else rotL (.node k id l (.node rk rid rl rr))
    else if l.n + 1 > 3 * (r.n + 1) then
      match l with
      | .nil => .node k id .nil r
      | .node ak aid al ar => if ar.n + 1 ≥ 2 * (al.n + 1) then rotR (.node k id (rotL (.node ak aid al ar)) r) else rotR (.node k id (.node ak aid al ar) r)
    else .node k id l r
theorem tabsB : TabsOK tbQ tB [] := by
  refine ⟨tabsQ.q, tabsQ.qq, fun x hx => ?_, fun x hx => ?_, fun _ h => (by cases h), rfl⟩
  · simp only [tB, List.mem_cons, List.not_mem_nil, or_false] at hx
    rcases hx with rfl | rfl
    · exact csem_full ht42 VP P42
    · exact csem_full ht41 VP P41
  · simp only [tB, List.mem_cons, List.not_mem_nil, or_false] at hx
    rcases hx with rfl | rfl <;> exact TC_ok _ _ _ _
theorem weight_at {h : AHeap} {u : Pt} {T : TT} (hb : T.n ≤ 1000000) (hx : ∀ x ∈ rT u T, h[x.1]? = some x.2) : sWeight [.ptr T.pt] h = some (.int .i64 (T.n + 1 : Nat)) := by
  unfold sWeight
  rw [size_at hx]
  show some (AV.int .i64 _) = _
  rw [wrap_small (by omega) (by omega)]
  rfl
def P39 (vs : List AV) (h : AHeap) (p : Pt) (h' : AHeap) : Prop := ∀ t m lk ctx T, vs = [.ptr (some (t, 0)), .ptr T.pt] → T.pt ≠ none → T.n ≤ 800000 → Maps h (rZ t m lk ctx (T.n : Nat) T) →
  p = (bal T).pt ∧ ∃ lk', Tr h h' (rZ t m lk ctx (T.n : Nat) T) (rC t m lk' (bal T).pt ctx ++ rT (upC ctx) (bal T))
theorem bal_can {h : AHeap} {t m : Nat} {lk : Int} {ctx : List Fr} {T : TT} (hn : T.pt ≠ none) (hb : T.n ≤ 800000) (hM : Maps h (rZ t m lk ctx (T.n : Nat) T)) : ComesTo Try.prog 39 VP P39 [.ptr (some (t, 0)), .ptr T.pt] h := by
  suffices hs : ∃ v h', (v = AV.ptr (bal T).pt ∧ ∃ lk', Tr h h' (rZ t m lk ctx (T.n : Nat) T) (rC t m lk' (bal T).pt ctx ++ rT (upC ctx) (bal T))) ∧ CallSem Try.prog 39 [.ptr (some (t, 0)), .ptr T.pt] h v h' by
    obtain ⟨v, h', ⟨rfl, ht⟩, hs⟩ := hs
    refine ⟨(bal T).pt, h', fun t' m' lk' ctx' T' e hn' hb' hM' => ?_, hs⟩
    simp only [List.cons.injEq, AV.ptr.injEq, Option.some.injEq, Prod.mk.injEq, and_true] at e
    obtain ⟨rfl, ep⟩ := e
    obtain ⟨rfl, rfl, rfl, -, rfl⟩ := zip_one hM hM' ep hn
    exact ⟨rfl, ht⟩
  cases T with
  | nil => exact absurd rfl hn
  | node k id l r =>
    simp only [TT.n] at hb
    have r0 : h[k]? = some (nd id (l.n + r.n + 1 : Nat) (upC ctx) l.pt r.pt) := hM.row k _ (List.mem_append_right _ List.mem_cons_self)
    have al : ∀ x ∈ rT (some (k, 0)) l, h[x.1]? = some x.2 := fun x hx => hM.row x.1 x.2 (List.mem_append_right _ (List.mem_cons_of_mem _ (List.mem_append_left _ hx)))
    have ar : ∀ x ∈ rT (some (k, 0)) r, h[x.1]? = some x.2 := fun x hx => hM.row x.1 x.2 (List.mem_append_right _ (List.mem_cons_of_mem _ (List.mem_append_right _ hx)))
    have wl := weight_at (by omega) al
    have wr := weight_at (by omega) ar
    refine sem tabsB ht39 c39 rfl (bal_vc h t k _) ⟨r.pt, fld r0 rfl, _, wr, l.pt, fld r0 rfl, _, wl, askI (fun hc => ?_) (fun hc => ?_)⟩
    · rw [wrap_small (by omega) (by omega)] at hc
      simp only [decide_eq_true_eq] at hc
      have hc' : r.n + 1 > 3 * (l.n + 1) := by omega
      cases r with
      | nil => simp only [TT.n] at hc'; omega
      | node rk rid rl rr =>
        simp only [TT.n] at hb hc'
        have r1 := ar _ List.mem_cons_self
        have wrl := weight_at (T := rl) (by omega) fun x hx => ar x (List.mem_cons_of_mem _ (List.mem_append_left _ hx))
        have wrr := weight_at (T := rr) (by omega) fun x hx => ar x (List.mem_cons_of_mem _ (List.mem_append_right _ hx))
        refine ⟨rk, 0, fld r0 rfl, rl.pt, fld r1 rfl, _, wrl, rk, 0, fld r0 rfl, rr.pt, fld r1 rfl, _, wrr, askI (fun hd => ?_) (fun hd => ?_)⟩
        · rw [wrap_small (by omega) (by omega)] at hd
          simp only [decide_eq_true_eq] at hd
          have hd' : rl.n + 1 ≥ 2 * (rr.n + 1) := by omega
          cases rl with
          | nil => simp only [TT.n] at hd'; omega
          | node xk xid xl xr =>
            simp only [TT.n] at hb
            have eb : bal (.node k id l (.node rk rid (.node xk xid xl xr) rr)) = .node xk xid (.node k id l xl) (.node rk rid xr rr) := by
              simp only [bal, if_pos (show (TT.node rk rid (.node xk xid xl xr) rr).n + 1 > 3 * (l.n + 1) from hc'), if_pos hd', rotL, rotR]
            have M1 : Maps h (rZ t m lk (⟨k, id, false, l, ((TT.node k id l (.node rk rid (.node xk xid xl xr) rr)).n : Nat)⟩ :: ctx) ((TT.node rk rid (.node xk xid xl xr) rr).n : Nat) (.node rk rid (.node xk xid xl xr) rr)) := hM.perm (perm_of fun a => by simp only [cnt_cons, cnt_append, cnt_nil, pt_nil, rT, rTs, rC, rZ, pt_node, Fr.row, upC_cons, upC_nil, TT.n, Bool.false_eq_true, if_false, if_true]; omega)
            refine ⟨rk, 0, fld r0 rfl, right_can (by omega) M1, fun a1 h1 hp1 => ?_⟩
            obtain ⟨rfl, lk1, T1⟩ := hp1 _ _ _ _ _ _ _ _ _ _ _ _ rfl (by omega) M1
            have M2 : Maps h1 (rZ t m lk1 ctx ((TT.node k id l (.node rk rid (.node xk xid xl xr) rr)).n : Nat) (.node k id l (.node xk xid xl (.node rk rid xr rr)))) := T1.b.perm (perm_of fun a => by simp only [cnt_cons, cnt_append, cnt_nil, pt_nil, rT, rTs, rC, rZ, pt_node, Fr.row, upC_cons, upC_nil, TT.n, Bool.false_eq_true, if_false, if_true]; omega)
            refine ⟨left_can (by simp only [TT.n]; omega) M2, fun a2 h2 hp2 => ?_⟩
            obtain ⟨rfl, lk2, T2⟩ := hp2 _ _ _ _ _ _ _ _ _ _ _ _ rfl (by simp only [TT.n]; omega) M2
            rw [eb]
            exact ⟨rfl, lk2, (T1.perm (perm_of fun a => by simp only [cnt_cons, cnt_append, cnt_nil, pt_nil, rT, rTs, rC, rZ, pt_node, Fr.row, upC_cons, upC_nil, TT.n, Bool.false_eq_true, if_false, if_true]; omega) (perm_of fun a => by simp only [cnt_cons, cnt_append, cnt_nil, pt_nil, rT, rTs, rC, rZ, pt_node, Fr.row, upC_cons, upC_nil, TT.n, Bool.false_eq_true, if_false, if_true]; omega)).trans T2⟩
        · rw [wrap_small (by omega) (by omega)] at hd
          simp only [decide_eq_false_iff_not] at hd
          have hd' : ¬ rl.n + 1 ≥ 2 * (rr.n + 1) := by omega
          have eb : bal (.node k id l (.node rk rid rl rr)) = .node rk rid (.node k id l rl) rr := by
            simp only [bal, if_pos (show (TT.node rk rid rl rr).n + 1 > 3 * (l.n + 1) from hc'), if_neg hd', rotL]
          refine ⟨left_can (by omega) hM, fun a2 h2 hp2 => ?_⟩
          obtain ⟨rfl, lk2, T2⟩ := hp2 _ _ _ _ _ _ _ _ _ _ _ _ rfl (by omega) hM
          rw [eb]
          exact ⟨rfl, lk2, T2⟩
    · rw [wrap_small (by omega) (by omega)] at hc
      simp only [decide_eq_false_iff_not] at hc
      have hc' : ¬ r.n + 1 > 3 * (l.n + 1) := by omega
      refine ⟨l.pt, fld r0 rfl, _, wl, r.pt, fld r0 rfl, _, wr, askI (fun hd => ?_) (fun hd => ?_)⟩
      · rw [wrap_small (by omega) (by omega)] at hd
        simp only [decide_eq_true_eq] at hd
        have hd' : l.n + 1 > 3 * (r.n + 1) := by omega
        cases l with
        | nil => simp only [TT.n] at hd'; omega
        | node ak aid a1 a2 =>
          simp only [TT.n] at hb hd' hc'
          have r1 := al _ List.mem_cons_self
          have wal := weight_at (T := a1) (by omega) fun x hx => al x (List.mem_cons_of_mem _ (List.mem_append_left _ hx))
          have war := weight_at (T := a2) (by omega) fun x hx => al x (List.mem_cons_of_mem _ (List.mem_append_right _ hx))
          refine ⟨ak, 0, fld r0 rfl, a2.pt, fld r1 rfl, _, war, ak, 0, fld r0 rfl, a1.pt, fld r1 rfl, _, wal, askI (fun he => ?_) (fun he => ?_)⟩
          · rw [wrap_small (by omega) (by omega)] at he
            simp only [decide_eq_true_eq] at he
            have he' : a2.n + 1 ≥ 2 * (a1.n + 1) := by omega
            cases a2 with
            | nil => simp only [TT.n] at he'; omega
            | node xk xid xl xr =>
              simp only [TT.n] at hb
              have eb : bal (.node k id (.node ak aid a1 (.node xk xid xl xr)) r) = .node xk xid (.node ak aid a1 xl) (.node k id xr r) := by
                simp only [bal, if_neg (show ¬ r.n + 1 > 3 * ((TT.node ak aid a1 (.node xk xid xl xr)).n + 1) from hc'), if_pos (show (TT.node ak aid a1 (.node xk xid xl xr)).n + 1 > 3 * (r.n + 1) from hd'), if_pos he', rotL, rotR]
              have M1 : Maps h (rZ t m lk (⟨k, id, true, r, ((TT.node k id (.node ak aid a1 (.node xk xid xl xr)) r).n : Nat)⟩ :: ctx) ((TT.node ak aid a1 (.node xk xid xl xr)).n : Nat) (.node ak aid a1 (.node xk xid xl xr))) := hM.perm (perm_of fun a => by simp only [cnt_cons, cnt_append, cnt_nil, pt_nil, rT, rTs, rC, rZ, pt_node, Fr.row, upC_cons, upC_nil, TT.n, Bool.false_eq_true, if_false, if_true]; omega)
              refine ⟨ak, 0, fld r0 rfl, left_can (by omega) M1, fun a3 h1 hp1 => ?_⟩
              obtain ⟨rfl, lk1, T1⟩ := hp1 _ _ _ _ _ _ _ _ _ _ _ _ rfl (by omega) M1
              have M2 : Maps h1 (rZ t m lk1 ctx ((TT.node k id (.node ak aid a1 (.node xk xid xl xr)) r).n : Nat) (.node k id (.node xk xid (.node ak aid a1 xl) xr) r)) := T1.b.perm (perm_of fun a => by simp only [cnt_cons, cnt_append, cnt_nil, pt_nil, rT, rTs, rC, rZ, pt_node, Fr.row, upC_cons, upC_nil, TT.n, Bool.false_eq_true, if_false, if_true]; omega)
              refine ⟨right_can (by simp only [TT.n]; omega) M2, fun a4 h2 hp2 => ?_⟩
              obtain ⟨rfl, lk2, T2⟩ := hp2 _ _ _ _ _ _ _ _ _ _ _ _ rfl (by simp only [TT.n]; omega) M2
              rw [eb]
              exact ⟨rfl, lk2, (T1.perm (perm_of fun a => by simp only [cnt_cons, cnt_append, cnt_nil, pt_nil, rT, rTs, rC, rZ, pt_node, Fr.row, upC_cons, upC_nil, TT.n, Bool.false_eq_true, if_false, if_true]; omega) (perm_of fun a => by simp only [cnt_cons, cnt_append, cnt_nil, pt_nil, rT, rTs, rC, rZ, pt_node, Fr.row, upC_cons, upC_nil, TT.n, Bool.false_eq_true, if_false, if_true]; omega)).trans T2⟩
          · rw [wrap_small (by omega) (by omega)] at he
            simp only [decide_eq_false_iff_not] at he
            have he' : ¬ a2.n + 1 ≥ 2 * (a1.n + 1) := by omega
            have eb : bal (.node k id (.node ak aid a1 a2) r) = .node ak aid a1 (.node k id a2 r) := by
              simp only [bal, if_neg (show ¬ r.n + 1 > 3 * ((TT.node ak aid a1 a2).n + 1) from hc'), if_pos (show (TT.node ak aid a1 a2).n + 1 > 3 * (r.n + 1) from hd'), if_neg he', rotR]
            refine ⟨right_can (by omega) hM, fun a3 h2 hp2 => ?_⟩
            obtain ⟨rfl, lk2, T2⟩ := hp2 _ _ _ _ _ _ _ _ _ _ _ _ rfl (by omega) hM
            rw [eb]
            exact ⟨rfl, lk2, T2⟩
      · rw [wrap_small (by omega) (by omega)] at hd
        simp only [decide_eq_false_iff_not] at hd
        have hd' : ¬ l.n + 1 > 3 * (r.n + 1) := by omega
        have eb : bal (.node k id l r) = .node k id l r := by
          simp only [bal, if_neg hc', if_neg hd']
        rw [eb]
        exact ⟨rfl, lk, Tr.refl hM⟩

end Go.Proofs.Ytncmgbbbekabdaa
