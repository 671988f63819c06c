/- Written by merging: Ub Uc Ud Ue. -/
import Derived.Test.YtncmgbbbekabdaaMi
namespace Go.Proofs.Ytncmgbbbekabdaa
open Go Go.Am Go.RowKit
set_option maxRecDepth 100000
set_option linter.unusedVariables false
set_option linter.unusedSimpArgs false
noncomputable def tD : List TbG := [TC Try.prog 28 VI P28, TC Try.prog 31 V0 P31]
noncomputable def CD (ks : List (Nat × K1)) (a : Nat) : Cfg := { CT tbQ tD ks with kd := fun t => if t = a then .agg [.ptrS] else kdOf ks t }
theorem del_vc (h : AHeap) (t : Nat) (id : Int) (R : AV → AHeap → Prop) : (∃ (b : Bool), askB b (TbE.s { f := 24, s := sNone, r := Rs.of (Rs1.one K1.bool) } [AV.ptr (some (t, 0))] h = some (AV.bool true) ∧ R (AV.tup [AV.int .i64 0, AV.int .i64 2]) h) (TbE.s { f := 24, s := sNone, r := Rs.of (Rs1.one K1.bool) } [AV.ptr (some (t, 0))] h = some (AV.bool false) ∧ ∃ (m : Nat), (Option.bind (cellsAt (h ++ List.replicate (0 + 1) AObj.hole) t) fun (x : List AV) => partR none x 1) = some (AV.map (some m)) ∧ ∃ (es : List (AV × AV)), (h ++ List.replicate (0 + 1) AObj.hole)[m]? = some (AObj.map es) ∧ ∃ (b : Bool), askB b (∃ (k : Nat), ∃ (o : Nat), findA (AV.int .i64 id) es = some (some (AV.agg [AV.ptr (some (k, o))])) ∧ chkW (isHole (h ++ List.replicate (0 + 1) AObj.hole) (List.length h)) (∃ (t_1 : TypeId), ∃ (s : Nat), ∃ (cs : List AV), (List.set (h ++ List.replicate (0 + 1) AObj.hole) (List.length h) (AObj.row 63 (List.length (AV.cells (AV.agg [AV.ptr none]))) (AV.cells (AV.agg [AV.ptr none]))))[List.length h]? = some (AObj.row t_1 s cs) ∧ chkW (decide (1 ≤ List.length cs)) (∃ (k_1 : Nat), ∃ (o_1 : Nat), (Option.bind (cellsAt (List.set (List.set (h ++ List.replicate (0 + 1) AObj.hole) (List.length h) (AObj.row 63 (List.length (AV.cells (AV.agg [AV.ptr none]))) (AV.cells (AV.agg [AV.ptr none])))) (List.length h) (AObj.row t_1 s (spliceA cs 0 (AV.cells (AV.agg [AV.ptr (some (k, o))]))))) (List.length h)) fun (x : List AV) => partR none x 0) = some (AV.ptr (some (k_1, o_1))) ∧ ComesTo Try.prog 28 VI P28 ([] ++ List.reverse [AV.ptr (some (k_1, o_1)), AV.ptr (some (t, 0))] ++ []) (List.set (List.set (h ++ List.replicate (0 + 1) AObj.hole) (List.length h) (AObj.row 63 (List.length (AV.cells (AV.agg [AV.ptr none]))) (AV.cells (AV.agg [AV.ptr none])))) (List.length h) (AObj.row t_1 s (spliceA cs 0 (AV.cells (AV.agg [AV.ptr (some (k, o))]))))) ∧ ∀ (a : Int) (h' : AHeap), P28 [AV.ptr (some (t, 0)), AV.ptr (some (k_1, o_1))] (List.set (List.set (h ++ List.replicate (0 + 1) AObj.hole) (List.length h) (AObj.row 63 (List.length (AV.cells (AV.agg [AV.ptr none]))) (AV.cells (AV.agg [AV.ptr none])))) (List.length h) (AObj.row t_1 s (spliceA cs 0 (AV.cells (AV.agg [AV.ptr (some (k, o))]))))) a h' → ∃ (k : Nat), ∃ (o : Nat), (Option.bind (cellsAt h' (List.length h)) fun (x : List AV) => partR none x 0) = some (AV.ptr (some (k, o))) ∧ ComesTo Try.prog 31 V0 P31 ([] ++ List.reverse [AV.ptr (some (k, o)), AV.ptr (some (t, 0))] ++ []) h' ∧ ∀ (a_2 : Unit) (h'_1 : AHeap), P31 [AV.ptr (some (t, 0)), AV.ptr (some (k, o))] h' a_2 h'_1 → ∃ (m : Nat), (Option.bind (cellsAt h'_1 t) fun (x : List AV) => partR none x 1) = some (AV.map (some m)) ∧ ∃ (es : List (AV × AV)), ∃ (es' : List (AV × AV)), h'_1[m]? = some (AObj.map es) ∧ dropA (AV.int .i64 id) es = some es' ∧ R (AV.tup [AV.int .i64 a, AV.int .i64 0]) (List.set h'_1 m (AObj.map es'))))) (findA (AV.int .i64 id) es = some none ∧ chkW (isHole (h ++ List.replicate (0 + 1) AObj.hole) (List.length h)) (∃ (t : TypeId), ∃ (s : Nat), ∃ (cs : List AV), (List.set (h ++ List.replicate (0 + 1) AObj.hole) (List.length h) (AObj.row 63 (List.length (AV.cells (AV.agg [AV.ptr none]))) (AV.cells (AV.agg [AV.ptr none]))))[List.length h]? = some (AObj.row t s cs) ∧ chkW (decide (1 ≤ List.length cs)) (R (AV.tup [AV.int .i64 0, AV.int .i64 4]) (List.set (List.set (h ++ List.replicate (0 + 1) AObj.hole) (List.length h) (AObj.row 63 (List.length (AV.cells (AV.agg [AV.ptr none]))) (AV.cells (AV.agg [AV.ptr none])))) (List.length h) (AObj.row t s (spliceA cs 0 (AV.cells (AV.agg [AV.ptr none])))))))))) = (wpF Try.prog (CD [(15, .mapS), (33, .mapS), (24, .ptrS), (28, .ptrS)] 17) 60 p16 [(.ptr (some (t, 0))), .int .i64 id] h R) := by kernel_rfl
theorem tabsD : TabsOK tbQ tD [] := by
  refine ⟨tabsQ.q, tabsQ.qq, fun x hx => ?_, fun x hx => ?_, fun _ h => (by cases h), rfl⟩
  · simp only [tD, List.mem_cons, List.not_mem_nil, or_false] at hx
    rcases hx with rfl | rfl
    · exact csem_full ht28 VI P28
    · exact csem_full ht31 V0 P31
  · simp only [tD, List.mem_cons, List.not_mem_nil, or_false] at hx
    rcases hx with rfl | rfl <;> exact TC_ok _ _ _ _
/-- What Delete answers. -/
def delR (zs : List Int) (id : Int) : (Int × Int) × List Int := if id ∈ zs then (((zs.idxOf id : Nat), 0), zs.erase id) else ((0, 4), zs)
theorem delR_at {A B : List Int} {id : Int} (h : id ∉ A) : delR (A ++ id :: B) id = ((((A.length : Nat) : Int), 0), A ++ B) := by
  unfold delR
  rw [if_pos (by simp), List.idxOf_append, if_neg h, List.idxOf_cons_self, List.erase_append_right _ h, List.erase_cons_head]
  simp
def VII (a : Int × Int) : AV := .tup [.int .i64 a.1, .int .i64 a.2]
def P16 (vs : List AV) (h : AHeap) (a : Int × Int) (h' : AHeap) : Prop := ∀ t T m lk qs (id : Int), vs = [.ptr (some (t, 0)), .int .i64 id] → Good T qs → Maps h (rA t m lk T qs) →
  a = (delR T.ids id).1 ∧ ∃ T' lk' qs', Good T' qs' ∧ T'.ids = (delR T.ids id).2 ∧ Tr h h' (rA t m lk T qs) (rA t m lk' T' qs')
theorem del_can {h : AHeap} {t m : Nat} {lk : Int} {T : TT} {qs : List (Nat × Int)} {id : Int} (g : Good T qs) (hM : Maps h (rA t m lk T qs)) : ComesTo Try.prog 16 VII P16 [.ptr (some (t, 0)), .int .i64 id] h := by
  suffices hs : ∃ v h', (∃ a : Int × Int, v = VII a ∧ a = (delR T.ids id).1 ∧ ∃ T' lk' qs', Good T' qs' ∧ T'.ids = (delR T.ids id).2 ∧ Tr h h' (rA t m lk T qs) (rA t m lk' T' qs')) ∧ CallSem Try.prog 16 [.ptr (some (t, 0)), .int .i64 id] h v h' by
    obtain ⟨v, h', ⟨a, rfl, ht⟩, hs⟩ := hs
    refine ⟨a, h', fun t' T' m' lk' qs' id' e g' hM' => ?_, hs⟩
    simp only [List.cons.injEq, AV.ptr.injEq, AV.int.injEq, Option.some.injEq, Prod.mk.injEq, and_true, true_and] at e
    obtain ⟨rfl, rfl⟩ := e
    obtain ⟨rfl, rfl, rfl, rfl⟩ := rA_one hM hM'
    exact ht
  refine sem_vc mixed (C := CD [(15, .mapS), (33, .mapS), (24, .ptrS), (28, .ptrS)] 17) (SU_ok tabsD) (CU_q (ks := [])) (CU_cw (ks := []) tabsD) ht16 c16 (no_parts rfl) (del_vc h t id _) ?_
  have g0 := Grow.app h (List.replicate (0 + 1) AObj.hole)
  have sl : ∀ x : AObj, (h ++ List.replicate (0 + 1) AObj.hole).set h.length x = h ++ [x] := fun x => by rw [repl1, set_b0]; rfl
  have hole : isHole (h ++ List.replicate (0 + 1) AObj.hole) h.length = true := by unfold isHole; rw [repl1, get_b0]; rfl
  have rowx : ∀ x : AObj, (h ++ [x])[h.length]? = some x := fun x => by rw [get_b0]; rfl
  have sl2 : ∀ x y : AObj, (h ++ [x]).set h.length y = h ++ [y] := fun x y => by rw [set_b0]; rfl
  refine ⟨false, rA_none hM, m, fld (g0 _ _ (rA_t hM)) rfl, _, g0 _ _ (rA_m hM), ?_⟩
  by_cases hm : id ∈ T.ids
  · obtain ⟨⟨k, id'⟩, hq, rfl⟩ := List.mem_map.1 (g.mem.2 hm)
    obtain ⟨ctx, l, r, hplug, hperm⟩ := zip_of (t := t) (m := m) T [] (g.p.mem_iff.1 hq)
    have hpp := plug_pairs ctx (.node k id' l r)
    rw [hplug] at hpp
    have hpn := plug_n ctx (.node k id' l r)
    rw [hplug] at hpn
    simp only [plug] at hpp hpn
    have gn := g.n
    simp only [TT.n] at hpn
    have hz : ∀ lk qs, (rA t m lk T qs).Perm (rZ t m lk ctx ((TT.node k id' l r).n : Nat) (.node k id' l r) ++ [(m, AObj.map (qs.map ent))]) := fun lk qs => by
      unfold rA rW rZ
      rw [rTs_n]
      exact (hperm lk).symm.append_right _
    refine ⟨true, k, 0, find_some g.nd2 hq, chkI hole ⟨63, 1, [.ptr none], by rw [sl]; exact rowx _, chkI rfl ?_⟩⟩
    rw [sl, sl2]
    have N := new_tr hM (AObj.row 63 1 (spliceA [.ptr none] 0 (AV.cells (AV.agg [.ptr (some (k, 0))]))))
    have M1 : Maps _ (rZ t m lk ctx ((TT.node k id' l r).n : Nat) (.node k id' l r) ++ ([(m, AObj.map (qs.map ent))] ++ [(h.length, AObj.row 63 1 (spliceA [.ptr none] 0 (AV.cells (AV.agg [.ptr (some (k, 0))]))))])) := N.b.perm (((List.Perm.cons _ (hz lk qs))).trans (perm_of fun a => by simp only [cnt_cons, cnt_append, cnt_nil, pt_nil, rT, rTs, rC, rZ, pt_node, Fr.row, upC_cons, upC_nil, TT.n, Bool.false_eq_true, if_false, if_true]; omega))
    refine ⟨k, 0, fld (rowx _) rfl, place_can (by omega) M1.left, fun c h2 hp => ?_⟩
    obtain ⟨rfl, lk2, T2⟩ := hp t m lk ctx _ k id' l r rfl (by omega) M1.left
    have T2' := T2.frame M1
    have rx := T2'.b.row h.length _ (List.mem_append_right _ (List.mem_append_right _ List.mem_cons_self))
    have M2 : Maps h2 ((rZ t m lk2 ctx ((TT.node k id' l r).n : Nat) (.node k id' l r) ++ [(m, AObj.map (qs.map ent))]) ++ [(h.length, AObj.row 63 1 (spliceA [.ptr none] 0 (AV.cells (AV.agg [.ptr (some (k, 0))]))))]) := T2'.b.perm (by rw [List.append_assoc])
    have hqp : qs.Perm (pL ctx ++ (l.pairs ++ (k, id') :: r.pairs) ++ pR ctx) := by
      have := g.p
      rw [hpp] at this
      exact this
    refine ⟨k, 0, fld rx rfl, cut_can (by omega) M2.left hqp g.nd2, fun _ h3 hp3 => ?_⟩
    obtain ⟨T', lk3, qs', e1, e2, T3⟩ := hp3 t m lk2 ctx _ k id' l r qs rfl (by omega) M2.left hqp g.nd2
    have T3' := T3.frame M2
    have eT : T.ids = (pL ctx ++ l.pairs).map (·.2) ++ id' :: (r.pairs ++ pR ctx).map (·.2) := by
      rw [← TT.pairs_ids, hpp]; simp [TT.pairs]
    have eT' : T'.ids = (pL ctx ++ l.pairs).map (·.2) ++ (r.pairs ++ pR ctx).map (·.2) := by
      rw [e1]; simp
    have hperm' : (id' :: T'.ids).Perm T.ids := by
      rw [eT, eT']
      exact List.perm_middle.symm
    have hnd' : (id' :: T'.ids).Nodup := hperm'.nodup_iff.2 g.nd
    have hnd2 : (qs'.map (·.2)).Nodup := by
      have := (e2.map (·.2)).nodup_iff
      rw [this, List.map_cons, TT.pairs_ids]
      exact hnd'
    obtain ⟨qa, qb, hqs, hdrop⟩ := drop_old (k0 := k) hnd2 (e2.mem_iff.2 List.mem_cons_self)
    have rt := T3.b.row t _ (List.mem_append_left _ List.mem_cons_self)
    have rm := T3.b.row m _ (List.mem_append_right _ List.mem_cons_self)
    have T4 := Tr.set (k := m) (o := .map (qs'.map ent)) (R := rW t m lk3 T' ++ [(h.length, AObj.row 63 1 (spliceA [.ptr none] 0 (AV.cells (AV.agg [.ptr (some (k, 0))]))))]) T3'.b (perm_of fun a => by simp only [cnt_cons, cnt_append, cnt_nil]; omega) (.map ((qa ++ qb).map ent))
    have hA : id' ∉ (pL ctx ++ l.pairs).map (·.2) := fun hx => by
      have := g.nd
      rw [eT, List.nodup_append] at this
      exact this.2.2 _ hx _ List.mem_cons_self rfl
    have eR : delR T.ids id' = (((((((pL ctx ++ l.pairs).map (·.2)).length : Nat)) : Int), 0), T'.ids) := by
      rw [eT, eT']
      exact delR_at hA
    refine ⟨m, fld rt rfl, _, _, rm, hdrop, (((pL ctx).length + l.n : Nat), 0), rfl, ?_, T', lk3, qa ++ qb, ⟨?_, ?_, ?_, ?_⟩, ?_, ?_⟩
    · rw [eR]
      simp [TT.pairs_n]
    · have h1 : ((k, id') :: (qa ++ qb)).Perm ((k, id') :: T'.pairs) := (List.perm_middle.symm.trans (by rw [← hqs])).trans e2
      exact h1.cons_inv
    · exact (List.nodup_cons.1 hnd').2
    · exact fun z hz => g.rg z (hperm'.mem_iff.1 (List.mem_cons_of_mem _ hz))
    · have := hperm'.length_eq
      simp only [List.length_cons, TT.n_ids] at this
      omega
    · rw [eR]
    · have A1 := N.perm (.refl _) (M' := rZ t m lk ctx ((TT.node k id' l r).n : Nat) (.node k id' l r) ++ ([(m, AObj.map (qs.map ent))] ++ [(h.length, AObj.row 63 1 (spliceA [.ptr none] 0 (AV.cells (AV.agg [.ptr (some (k, 0))]))))])) (((List.Perm.cons _ (hz lk qs))).trans (perm_of fun a => by simp only [cnt_cons, cnt_append, cnt_nil, pt_nil, rT, rTs, rC, rZ, pt_node, Fr.row, upC_cons, upC_nil, TT.n, Bool.false_eq_true, if_false, if_true]; omega))
      have A2 := (A1.trans T2').perm (.refl _) (M' := (rZ t m lk2 ctx ((TT.node k id' l r).n : Nat) (.node k id' l r) ++ [(m, AObj.map (qs.map ent))]) ++ [(h.length, AObj.row 63 1 (spliceA [.ptr none] 0 (AV.cells (AV.agg [.ptr (some (k, 0))]))))]) (by rw [List.append_assoc])
      have A3 := ((A2.trans T3').trans T4).perm (.refl _) (M' := [(h.length, AObj.row 63 1 (spliceA [.ptr none] 0 (AV.cells (AV.agg [.ptr (some (k, 0))]))))] ++ rA t m lk3 T' (qa ++ qb)) (perm_of fun a => by simp only [rA, cnt_cons, cnt_append, cnt_nil]; omega)
      exact A3.drop
  · have hm2 : id ∉ qs.map (·.2) := fun e => hm (g.mem.1 e)
    refine ⟨false, find_none hm2, chkI hole ⟨63, 1, [.ptr none], by rw [sl]; exact rowx _, chkI rfl ?_⟩⟩
    rw [sl, sl2]
    exact ⟨(0, 4), rfl, by unfold delR; rw [if_neg hm], T, lk, qs, g, by unfold delR; rw [if_neg hm], junk_tr hM _⟩
noncomputable def tMv : List TbG := [TC Try.prog 16 VII P16, TC Try.prog 9 VI P9]
noncomputable def CM (ks : List (Nat × K1)) (a : Nat) : Cfg := { CT tbQ tMv ks with kd := fun t => if t = a then .agg [.ptrS] else kdOf ks t }
theorem move_vc (h : AHeap) (t : Nat) (id to : Int) (R : AV → AHeap → Prop) : (∃ (b : Bool), askB b (TbE.s { f := 24, s := sNone, r := Rs.of (Rs1.one K1.bool) } [AV.ptr (some (t, 0))] h = some (AV.bool true) ∧ R (AV.tup [AV.int .i64 0, AV.int .i64 2]) h) (TbE.s { f := 24, s := sNone, r := Rs.of (Rs1.one K1.bool) } [AV.ptr (some (t, 0))] h = some (AV.bool false) ∧ ∃ (m : Nat), (Option.bind (cellsAt (h ++ List.replicate (0 + 1) AObj.hole) t) fun (x : List AV) => partR none x 1) = some (AV.map (some m)) ∧ ∃ (es : List (AV × AV)), (h ++ List.replicate (0 + 1) AObj.hole)[m]? = some (AObj.map es) ∧ ∃ (b : Bool), askB b (∃ (k : Nat), ∃ (o : Nat), findA (AV.int .i64 id) es = some (some (AV.agg [AV.ptr (some (k, o))])) ∧ chkW (isHole (h ++ List.replicate (0 + 1) AObj.hole) (List.length h)) (∃ (t_1 : TypeId), ∃ (s : Nat), ∃ (cs : List AV), (List.set (h ++ List.replicate (0 + 1) AObj.hole) (List.length h) (AObj.row 63 (List.length (AV.cells (AV.agg [AV.ptr none]))) (AV.cells (AV.agg [AV.ptr none]))))[List.length h]? = some (AObj.row t_1 s cs) ∧ chkW (decide (1 ≤ List.length cs)) (askB (decide (to < 0)) (R (AV.tup [AV.int .i64 0, AV.int .i64 1]) (List.set (List.set (h ++ List.replicate (0 + 1) AObj.hole) (List.length h) (AObj.row 63 (List.length (AV.cells (AV.agg [AV.ptr none]))) (AV.cells (AV.agg [AV.ptr none])))) (List.length h) (AObj.row t_1 s (spliceA cs 0 (AV.cells (AV.agg [AV.ptr (some (k, o))])))))) (∃ (n : Int), TbE.s { f := 10, s := sLen, r := Rs.of (Rs1.one i64) } [AV.ptr (some (t, 0))] (List.set (List.set (h ++ List.replicate (0 + 1) AObj.hole) (List.length h) (AObj.row 63 (List.length (AV.cells (AV.agg [AV.ptr none]))) (AV.cells (AV.agg [AV.ptr none])))) (List.length h) (AObj.row t_1 s (spliceA cs 0 (AV.cells (AV.agg [AV.ptr (some (k, o))]))))) = some (AV.int .i64 n) ∧ askB (decide (to ≥ n)) (R (AV.tup [AV.int .i64 0, AV.int .i64 1]) (List.set (List.set (h ++ List.replicate (0 + 1) AObj.hole) (List.length h) (AObj.row 63 (List.length (AV.cells (AV.agg [AV.ptr none]))) (AV.cells (AV.agg [AV.ptr none])))) (List.length h) (AObj.row t_1 s (spliceA cs 0 (AV.cells (AV.agg [AV.ptr (some (k, o))])))))) (ComesTo Try.prog 16 VII P16 ([] ++ List.reverse [AV.int .i64 id, AV.ptr (some (t, 0))] ++ []) (List.set (List.set (h ++ List.replicate (0 + 1) AObj.hole) (List.length h) (AObj.row 63 (List.length (AV.cells (AV.agg [AV.ptr none]))) (AV.cells (AV.agg [AV.ptr none])))) (List.length h) (AObj.row t_1 s (spliceA cs 0 (AV.cells (AV.agg [AV.ptr (some (k, o))]))))) ∧ ∀ (a : Int × Int) (h' : AHeap), P16 [AV.ptr (some (t, 0)), AV.int .i64 id] (List.set (List.set (h ++ List.replicate (0 + 1) AObj.hole) (List.length h) (AObj.row 63 (List.length (AV.cells (AV.agg [AV.ptr none]))) (AV.cells (AV.agg [AV.ptr none])))) (List.length h) (AObj.row t_1 s (spliceA cs 0 (AV.cells (AV.agg [AV.ptr (some (k, o))]))))) a h' → ComesTo Try.prog 9 VI P9 ([] ++ List.reverse [AV.int .i64 id, AV.int .i64 to, AV.ptr (some (t, 0))] ++ []) h' ∧ ∀ (a_2 : Int) (h'_1 : AHeap), P9 [AV.ptr (some (t, 0)), AV.int .i64 to, AV.int .i64 id] h' a_2 h'_1 → R (AV.tup [AV.int .i64 (Prod.fst a), AV.int .i64 0]) h'_1))))) (findA (AV.int .i64 id) es = some none ∧ chkW (isHole (h ++ List.replicate (0 + 1) AObj.hole) (List.length h)) (∃ (t : TypeId), ∃ (s : Nat), ∃ (cs : List AV), (List.set (h ++ List.replicate (0 + 1) AObj.hole) (List.length h) (AObj.row 63 (List.length (AV.cells (AV.agg [AV.ptr none]))) (AV.cells (AV.agg [AV.ptr none]))))[List.length h]? = some (AObj.row t s cs) ∧ chkW (decide (1 ≤ List.length cs)) (R (AV.tup [AV.int .i64 0, AV.int .i64 4]) (List.set (List.set (h ++ List.replicate (0 + 1) AObj.hole) (List.length h) (AObj.row 63 (List.length (AV.cells (AV.agg [AV.ptr none]))) (AV.cells (AV.agg [AV.ptr none])))) (List.length h) (AObj.row t s (spliceA cs 0 (AV.cells (AV.agg [AV.ptr none])))))))))) = (wpF Try.prog (CM [(18, .mapS)] 20) 60 p18 [(.ptr (some (t, 0))), .int .i64 id, .int .i64 to] h R) := by kernel_rfl
theorem tabsMv : TabsOK tbQ tMv [] := by
  refine ⟨tabsQ.q, tabsQ.qq, fun x hx => ?_, fun x hx => ?_, fun _ h => (by cases h), rfl⟩
  · simp only [tMv, List.mem_cons, List.not_mem_nil, or_false] at hx
    rcases hx with rfl | rfl
    · exact csem_full ht16 VII P16
    · exact csem_full ht9 VI P9
  · simp only [tMv, List.mem_cons, List.not_mem_nil, or_false] at hx
    rcases hx with rfl | rfl <;> exact TC_ok _ _ _ _
/-- What Move answers. -/
def movR (zs : List Int) (id to : Int) : (Int × Int) × List Int := if id ∈ zs then (if to < 0 ∨ (zs.length : Int) ≤ to then ((0, 1), zs) else ((((zs.idxOf id : Nat) : Int), 0), (zs.erase id).take to.toNat ++ id :: (zs.erase id).drop to.toNat)) else ((0, 4), zs)
def P18 (vs : List AV) (h : AHeap) (a : Int × Int) (h' : AHeap) : Prop := ∀ t T m lk qs (id to : Int), vs = [.ptr (some (t, 0)), .int .i64 id, .int .i64 to] → Good T qs → Maps h (rA t m lk T qs) →
  a = (movR T.ids id to).1 ∧ ∃ T' lk' qs', Good T' qs' ∧ T'.ids = (movR T.ids id to).2 ∧ Tr h h' (rA t m lk T qs) (rA t m lk' T' qs')
theorem move_can {h : AHeap} {t m : Nat} {lk : Int} {T : TT} {qs : List (Nat × Int)} {id to : Int} (g : Good T qs) (hM : Maps h (rA t m lk T qs)) : ComesTo Try.prog 18 VII P18 [.ptr (some (t, 0)), .int .i64 id, .int .i64 to] h := by
  suffices hs : ∃ v h', (∃ a : Int × Int, v = VII a ∧ a = (movR T.ids id to).1 ∧ ∃ T' lk' qs', Good T' qs' ∧ T'.ids = (movR T.ids id to).2 ∧ Tr h h' (rA t m lk T qs) (rA t m lk' T' qs')) ∧ CallSem Try.prog 18 [.ptr (some (t, 0)), .int .i64 id, .int .i64 to] h v h' by
    obtain ⟨v, h', ⟨a, rfl, ht⟩, hs⟩ := hs
    refine ⟨a, h', fun t' T' m' lk' qs' id' to' e g' hM' => ?_, hs⟩
    simp only [List.cons.injEq, AV.ptr.injEq, AV.int.injEq, Option.some.injEq, Prod.mk.injEq, and_true, true_and] at e
    obtain ⟨rfl, rfl, rfl⟩ := e
    obtain ⟨rfl, rfl, rfl, rfl⟩ := rA_one hM hM'
    exact ht
  have hlen := TT.n_ids T
  have gn := g.n
  refine sem_vc mixed (C := CM [(18, .mapS)] 20) (SU_ok tabsMv) (CU_q (ks := [])) (CU_cw (ks := []) tabsMv) ht18 c18 (no_parts rfl) (move_vc h t id to _) ?_
  have g0 := Grow.app h (List.replicate (0 + 1) AObj.hole)
  have sl : ∀ x : AObj, (h ++ List.replicate (0 + 1) AObj.hole).set h.length x = h ++ [x] := fun x => by rw [repl1, set_b0]; rfl
  have hole : isHole (h ++ List.replicate (0 + 1) AObj.hole) h.length = true := by unfold isHole; rw [repl1, get_b0]; rfl
  have rowx : ∀ x : AObj, (h ++ [x])[h.length]? = some x := fun x => by rw [get_b0]; rfl
  have sl2 : ∀ x y : AObj, (h ++ [x]).set h.length y = h ++ [y] := fun x y => by rw [set_b0]; rfl
  refine ⟨false, rA_none hM, m, fld (g0 _ _ (rA_t hM)) rfl, _, g0 _ _ (rA_m hM), ?_⟩
  by_cases hm : id ∈ T.ids
  · obtain ⟨⟨k, id'⟩, hq, rfl⟩ := List.mem_map.1 (g.mem.2 hm)
    refine ⟨true, k, 0, find_some g.nd2 hq, chkI hole ⟨63, 1, [.ptr none], by rw [sl]; exact rowx _, chkI rfl ?_⟩⟩
    rw [sl, sl2]
    have J := junk_tr hM [AObj.row 63 1 (spliceA [.ptr none] 0 (AV.cells (AV.agg [.ptr (some (k, 0))])))]
    have stay : (to < 0 ∨ (T.ids.length : Int) ≤ to) → ∃ a : Int × Int, AV.tup [.int .i64 0, .int .i64 1] = VII a ∧ a = (movR T.ids id' to).1 ∧ ∃ T' lk' qs', Good T' qs' ∧ T'.ids = (movR T.ids id' to).2 ∧ Tr h (h ++ [AObj.row 63 1 (spliceA [.ptr none] 0 (AV.cells (AV.agg [.ptr (some (k, 0))])))]) (rA t m lk T qs) (rA t m lk' T' qs') := fun hc =>
      ⟨(0, 1), rfl, by unfold movR; rw [if_pos hm, if_pos hc], T, lk, qs, g, by unfold movR; rw [if_pos hm, if_pos hc], J⟩
    refine askI (fun h4 => ?_) (fun h4 => ⟨_, rA_len g J.b, askI (fun h5 => ?_) (fun h5 => ?_)⟩)
    · simp only [decide_eq_true_eq] at h4
      exact stay (.inl h4)
    · simp only [ge_iff_le, decide_eq_true_eq] at h5
      exact stay (.inr (by omega))
    · simp only [ge_iff_le, decide_eq_false_iff_not] at h4 h5
      refine ⟨del_can g J.b, fun a h2 hp => ?_⟩
      obtain ⟨rfl, T1, lk1, qs1, g1, e1, T2⟩ := hp t T m lk qs id' rfl g J.b
      have eD : delR T.ids id' = ((((T.ids.idxOf id' : Nat) : Int), 0), T.ids.erase id') := by unfold delR; rw [if_pos hm]
      rw [eD] at e1
      dsimp only at e1
      refine ⟨ins_can g1 T2.b, fun c h3 hp2 => ?_⟩
      obtain ⟨-, T3, lk3, qs3, g3, e3, -, T4⟩ := hp2 t T1 m lk1 qs1 to id' rfl g1 T2.b
      have hl : (T.ids.erase id').length = T.ids.length - 1 := List.length_erase_of_mem hm
      have hno : id' ∉ T.ids.erase id' := fun hx => ((g.nd.mem_erase_iff).1 hx).1 rfl
      have hr := g.rg _ hm
      have eI : insR T1.ids to id' = (0, (T.ids.erase id').take to.toNat ++ id' :: (T.ids.erase id').drop to.toNat) := by
        rw [e1]
        unfold insR
        rw [if_neg (by omega), if_neg hno, if_neg (by omega), if_neg (by omega)]
      have eM : movR T.ids id' to = ((((T.ids.idxOf id' : Nat) : Int), 0), (T.ids.erase id').take to.toNat ++ id' :: (T.ids.erase id').drop to.toNat) := by
        unfold movR; rw [if_pos hm, if_neg (by omega)]
      refine ⟨(((T.ids.idxOf id' : Nat) : Int), 0), by rw [eD]; rfl, by rw [eM], T3, lk3, qs3, g3, by rw [e3, eI, eM], (J.trans T2).trans T4⟩
  · have hm2 : id ∉ qs.map (·.2) := fun e => hm (g.mem.1 e)
    refine ⟨false, find_none hm2, chkI hole ⟨63, 1, [.ptr none], by rw [sl]; exact rowx _, chkI rfl ?_⟩⟩
    rw [sl, sl2]
    exact ⟨(0, 4), rfl, by unfold movR; rw [if_neg hm], T, lk, qs, g, by unfold movR; rw [if_neg hm], junk_tr hM _⟩

end Go.Proofs.Ytncmgbbbekabdaa
