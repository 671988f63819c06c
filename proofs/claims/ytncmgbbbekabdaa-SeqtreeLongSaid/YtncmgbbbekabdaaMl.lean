/- Written by merging: Li Lj Uh. -/
import Derived.Test.YtncmgbbbekabdaaMk
import Derived.Test.YtncmgbbbekabdaaMh
import Derived.Test.YtncmgbbbekabdaaMi
import Derived.Test.YtncmgbbbekabdaaUg
namespace Go.Proofs.Ytncmgbbbekabdaa
open Go Go.Am Go.RowKit
set_option maxRecDepth 100000
set_option linter.unusedVariables false
set_option linter.unusedSimpArgs false
noncomputable def tX : List TbG := [TC Try.prog 28 VI P28]
noncomputable def CX (ks : List (Nat × K1)) (a : Nat) : Cfg := { CT tbQ tX ks with kd := fun t => if t = a then .agg [.ptrS] else kdOf ks t }
theorem index_vc (h : AHeap) (t : Nat) (id : Int) (R : AV → AHeap → Prop) : (∃ (b : Bool), askB b (TbE.s { f := 24, s := sNone, r := Rs.of (Rs1.one K1.bool) } [AV.ptr (some (t, 0))] h = some (AV.bool true) ∧ R (AV.tup [AV.int .i64 0, AV.bool false]) h) (TbE.s { f := 24, s := sNone, r := Rs.of (Rs1.one K1.bool) } [AV.ptr (some (t, 0))] h = some (AV.bool false) ∧ ∃ (m : Nat), (Option.bind (cellsAt (h ++ List.replicate (0 + 1) AObj.hole) t) fun (x : List AV) => partR none x 1) = some (AV.map (some m)) ∧ ∃ (es : List (AV × AV)), (h ++ List.replicate (0 + 1) AObj.hole)[m]? = some (AObj.map es) ∧ ∃ (b : Bool), askB b (∃ (k : Nat), ∃ (o : Nat), findA (AV.int .i64 id) es = some (some (AV.agg [AV.ptr (some (k, o))])) ∧ chkW (isHole (h ++ List.replicate (0 + 1) AObj.hole) (List.length h)) (∃ (t_1 : TypeId), ∃ (s : Nat), ∃ (cs : List AV), (List.set (h ++ List.replicate (0 + 1) AObj.hole) (List.length h) (AObj.row 63 (List.length (AV.cells (AV.agg [AV.ptr none]))) (AV.cells (AV.agg [AV.ptr none]))))[List.length h]? = some (AObj.row t_1 s cs) ∧ chkW (decide (1 ≤ List.length cs)) (∃ (k_1 : Nat), ∃ (o_1 : Nat), (Option.bind (cellsAt (List.set (List.set (h ++ List.replicate (0 + 1) AObj.hole) (List.length h) (AObj.row 63 (List.length (AV.cells (AV.agg [AV.ptr none]))) (AV.cells (AV.agg [AV.ptr none])))) (List.length h) (AObj.row t_1 s (spliceA cs 0 (AV.cells (AV.agg [AV.ptr (some (k, o))]))))) (List.length h)) fun (x : List AV) => partR none x 0) = some (AV.ptr (some (k_1, o_1))) ∧ ∃ (b : Bool), askB b (∃ (k_2 : Nat), ∃ (o_2 : Nat), (Option.bind (cellsAt (List.set (List.set (h ++ List.replicate (0 + 1) AObj.hole) (List.length h) (AObj.row 63 (List.length (AV.cells (AV.agg [AV.ptr none]))) (AV.cells (AV.agg [AV.ptr none])))) (List.length h) (AObj.row t_1 s (spliceA cs 0 (AV.cells (AV.agg [AV.ptr (some (k, o))]))))) k_1) fun (x : List AV) => partR none x (o_1 + 2)) = some (AV.ptr (some (k_2, o_2))) ∧ ∃ (k_3 : Nat), ∃ (o_3 : Nat), (Option.bind (cellsAt (List.set (List.set (h ++ List.replicate (0 + 1) AObj.hole) (List.length h) (AObj.row 63 (List.length (AV.cells (AV.agg [AV.ptr none]))) (AV.cells (AV.agg [AV.ptr none])))) (List.length h) (AObj.row t_1 s (spliceA cs 0 (AV.cells (AV.agg [AV.ptr (some (k, o))]))))) (List.length h)) fun (x : List AV) => partR none x 0) = some (AV.ptr (some (k_3, o_3))) ∧ ComesTo Try.prog 28 VI P28 ([] ++ List.reverse [AV.ptr (some (k_3, o_3)), AV.ptr (some (t, 0))] ++ []) (List.set (List.set (h ++ List.replicate (0 + 1) AObj.hole) (List.length h) (AObj.row 63 (List.length (AV.cells (AV.agg [AV.ptr none]))) (AV.cells (AV.agg [AV.ptr none])))) (List.length h) (AObj.row t_1 s (spliceA cs 0 (AV.cells (AV.agg [AV.ptr (some (k, o))]))))) ∧ ∀ (a : Int) (h' : AHeap), P28 [AV.ptr (some (t, 0)), AV.ptr (some (k_3, o_3))] (List.set (List.set (h ++ List.replicate (0 + 1) AObj.hole) (List.length h) (AObj.row 63 (List.length (AV.cells (AV.agg [AV.ptr none]))) (AV.cells (AV.agg [AV.ptr none])))) (List.length h) (AObj.row t_1 s (spliceA cs 0 (AV.cells (AV.agg [AV.ptr (some (k, o))]))))) a h' → R (AV.tup [AV.int .i64 a, AV.bool true]) h') ((Option.bind (cellsAt (List.set (List.set (h ++ List.replicate (0 + 1) AObj.hole) (List.length h) (AObj.row 63 (List.length (AV.cells (AV.agg [AV.ptr none]))) (AV.cells (AV.agg [AV.ptr none])))) (List.length h) (AObj.row t_1 s (spliceA cs 0 (AV.cells (AV.agg [AV.ptr (some (k, o))]))))) k_1) fun (x : List AV) => partR none x (o_1 + 2)) = some (AV.ptr none) ∧ ∃ (n : Int), (Option.bind (cellsAt (List.set (List.set (h ++ List.replicate (0 + 1) AObj.hole) (List.length h) (AObj.row 63 (List.length (AV.cells (AV.agg [AV.ptr none]))) (AV.cells (AV.agg [AV.ptr none])))) (List.length h) (AObj.row t_1 s (spliceA cs 0 (AV.cells (AV.agg [AV.ptr (some (k, o))]))))) t) fun (x : List AV) => partR none x 2) = some (AV.int .i64 n) ∧ ∃ (t_2 : TypeId), ∃ (s_1 : Nat), ∃ (cs_1 : List AV), (List.set (List.set (h ++ List.replicate (0 + 1) AObj.hole) (List.length h) (AObj.row 63 (List.length (AV.cells (AV.agg [AV.ptr none]))) (AV.cells (AV.agg [AV.ptr none])))) (List.length h) (AObj.row t_1 s (spliceA cs 0 (AV.cells (AV.agg [AV.ptr (some (k, o))])))))[t]? = some (AObj.row t_2 s_1 cs_1) ∧ chkW (decide (3 ≤ List.length cs_1)) (∃ (k_2 : Nat), ∃ (o_2 : Nat), (Option.bind (cellsAt (List.set (List.set (List.set (h ++ List.replicate (0 + 1) AObj.hole) (List.length h) (AObj.row 63 (List.length (AV.cells (AV.agg [AV.ptr none]))) (AV.cells (AV.agg [AV.ptr none])))) (List.length h) (AObj.row t_1 s (spliceA cs 0 (AV.cells (AV.agg [AV.ptr (some (k, o))]))))) t (AObj.row t_2 s_1 (spliceA cs_1 2 (AV.cells (AV.int .i64 (IntKind.wrap .i64 (n + 1))))))) (List.length h)) fun (x : List AV) => partR none x 0) = some (AV.ptr (some (k_2, o_2))) ∧ ∃ (p : Option (Nat × Nat)), (Option.bind (cellsAt (List.set (List.set (List.set (h ++ List.replicate (0 + 1) AObj.hole) (List.length h) (AObj.row 63 (List.length (AV.cells (AV.agg [AV.ptr none]))) (AV.cells (AV.agg [AV.ptr none])))) (List.length h) (AObj.row t_1 s (spliceA cs 0 (AV.cells (AV.agg [AV.ptr (some (k, o))]))))) t (AObj.row t_2 s_1 (spliceA cs_1 2 (AV.cells (AV.int .i64 (IntKind.wrap .i64 (n + 1))))))) k_2) fun (x : List AV) => partR none x (o_2 + 3)) = some (AV.ptr p) ∧ ∃ (n_1 : Int), TbE.s { f := 27, s := sSize, r := Rs.of (Rs1.one i64) } [AV.ptr p] (List.set (List.set (List.set (h ++ List.replicate (0 + 1) AObj.hole) (List.length h) (AObj.row 63 (List.length (AV.cells (AV.agg [AV.ptr none]))) (AV.cells (AV.agg [AV.ptr none])))) (List.length h) (AObj.row t_1 s (spliceA cs 0 (AV.cells (AV.agg [AV.ptr (some (k, o))]))))) t (AObj.row t_2 s_1 (spliceA cs_1 2 (AV.cells (AV.int .i64 (IntKind.wrap .i64 (n + 1))))))) = some (AV.int .i64 n_1) ∧ R (AV.tup [AV.int .i64 n_1, AV.bool true]) (List.set (List.set (List.set (h ++ List.replicate (0 + 1) AObj.hole) (List.length h) (AObj.row 63 (List.length (AV.cells (AV.agg [AV.ptr none]))) (AV.cells (AV.agg [AV.ptr none])))) (List.length h) (AObj.row t_1 s (spliceA cs 0 (AV.cells (AV.agg [AV.ptr (some (k, o))]))))) t (AObj.row t_2 s_1 (spliceA cs_1 2 (AV.cells (AV.int .i64 (IntKind.wrap .i64 (n + 1)))))))))))) (findA (AV.int .i64 id) es = some none ∧ chkW (isHole (h ++ List.replicate (0 + 1) AObj.hole) (List.length h)) (∃ (t : TypeId), ∃ (s : Nat), ∃ (cs : List AV), (List.set (h ++ List.replicate (0 + 1) AObj.hole) (List.length h) (AObj.row 63 (List.length (AV.cells (AV.agg [AV.ptr none]))) (AV.cells (AV.agg [AV.ptr none]))))[List.length h]? = some (AObj.row t s cs) ∧ chkW (decide (1 ≤ List.length cs)) (R (AV.tup [AV.int .i64 0, AV.bool false]) (List.set (List.set (h ++ List.replicate (0 + 1) AObj.hole) (List.length h) (AObj.row 63 (List.length (AV.cells (AV.agg [AV.ptr none]))) (AV.cells (AV.agg [AV.ptr none])))) (List.length h) (AObj.row t s (spliceA cs 0 (AV.cells (AV.agg [AV.ptr none])))))))))) = (wpF Try.prog (CX [(14, .mapS), (22, .ptrS), (25, .ptr), (30, i64), (35, .ptrS), (38, .ptrV), (42, .ptrS)] 16) 60 p14 [(.ptr (some (t, 0))), .int .i64 id] h R) := by kernel_rfl
theorem tabsX : TabsOK tbQ tX [] := by
  refine ⟨tabsQ.q, tabsQ.qq, fun x hx => ?_, fun x hx => ?_, fun _ h => (by cases h), rfl⟩
  · simp only [tX, List.mem_cons, List.not_mem_nil, or_false] at hx
    subst hx; exact csem_full ht28 VI P28
  · simp only [tX, List.mem_cons, List.not_mem_nil, or_false] at hx
    subst hx; exact TC_ok _ _ _ _
/-- What Index answers. -/
def idxR (zs : List Int) (id : Int) : Int × Bool := if id ∈ zs then ((zs.idxOf id : Nat), true) else (0, false)
def P14 (vs : List AV) (h : AHeap) (a : Int × Bool) (h' : AHeap) : Prop := ∀ t T m lk qs (id : Int), vs = [.ptr (some (t, 0)), .int .i64 id] → Good T qs → Maps h (rA t m lk T qs) → a = idxR T.ids id ∧ ∃ lk', Tr h h' (rA t m lk T qs) (rA t m lk' T qs)
theorem index_can {h : AHeap} {t m : Nat} {lk : Int} {T : TT} {qs : List (Nat × Int)} {id : Int} (g : Good T qs) (hM : Maps h (rA t m lk T qs)) : ComesTo Try.prog 14 VIB P14 [.ptr (some (t, 0)), .int .i64 id] h := by
  suffices hs : ∃ v h', (v = VIB (idxR T.ids id) ∧ ∃ lk', Tr h h' (rA t m lk T qs) (rA t m lk' T qs)) ∧ CallSem Try.prog 14 [.ptr (some (t, 0)), .int .i64 id] h v h' by
    obtain ⟨v, h', ⟨rfl, ht⟩, hs⟩ := hs
    refine ⟨_, h', fun t' T' m' lk' qs' i' e g' hM' => ?_, hs⟩
    simp only [List.cons.injEq, AV.ptr.injEq, AV.int.injEq, Option.some.injEq, Prod.mk.injEq, and_true, true_and] at e
    obtain ⟨rfl, rfl⟩ := e
    obtain ⟨rfl, rfl, rfl, rfl⟩ := rA_one hM hM'
    exact ⟨rfl, ht⟩
  refine sem_vc mixed (C := CX [(14, .mapS), (22, .ptrS), (25, .ptr), (30, i64), (35, .ptrS), (38, .ptrV), (42, .ptrS)] 16) (SU_ok tabsX) (CU_q (ks := [])) (CU_cw (ks := []) tabsX) ht14 c14 (no_parts rfl) (index_vc h t id _) ?_
  have g0 := Grow.app h (List.replicate (0 + 1) AObj.hole)
  have sl : ∀ x : AObj, (h ++ List.replicate (0 + 1) AObj.hole).set h.length x = h ++ [x] := fun x => by rw [repl1, set_b0]; rfl
  have hole : isHole (h ++ List.replicate (0 + 1) AObj.hole) h.length = true := by unfold isHole; rw [repl1, get_b0]; rfl
  have rowx : ∀ x : AObj, (h ++ [x])[h.length]? = some x := fun x => by rw [get_b0]; rfl
  have sl2 : ∀ x y : AObj, (h ++ [x]).set h.length y = h ++ [y] := fun x y => by rw [set_b0]; rfl
  refine ⟨false, rA_none hM, m, fld (g0 _ _ (rA_t hM)) rfl, _, g0 _ _ (rA_m hM), ?_⟩
  by_cases hm : id ∈ T.ids
  · obtain ⟨⟨k, id'⟩, hq, rfl⟩ := List.mem_map.1 (g.mem.2 hm)
    obtain ⟨ctx, l, r, hplug, hperm⟩ := zip_of (t := t) (m := m) T [] (g.p.mem_iff.1 hq)
    have hpp := plug_pairs ctx (.node k id' l r)
    rw [hplug] at hpp
    have hpn := plug_n ctx (.node k id' l r)
    rw [hplug] at hpn
    simp only [plug] at hpp hpn
    have gn := g.n
    simp only [TT.n] at hpn
    have hz : ∀ lk qs, (rA t m lk T qs).Perm (rZ t m lk ctx ((TT.node k id' l r).n : Nat) (.node k id' l r) ++ [(m, AObj.map (qs.map ent))]) := fun lk qs => by
      unfold rA rW rZ
      rw [rTs_n]
      exact (hperm lk).symm.append_right _
    have eT : T.ids = (pL ctx ++ l.pairs).map (·.2) ++ id' :: (r.pairs ++ pR ctx).map (·.2) := by
      rw [← TT.pairs_ids, hpp]; simp [TT.pairs]
    have hA : id' ∉ (pL ctx ++ l.pairs).map (·.2) := fun hx => by
      have := g.nd
      rw [eT, List.nodup_append] at this
      exact this.2.2 _ hx _ List.mem_cons_self rfl
    have eR : idxR T.ids id' = ((((pL ctx).length + l.n : Nat) : Int), true) := by
      unfold idxR
      rw [if_pos hm, eT, List.idxOf_append, if_neg hA, List.idxOf_cons_self]
      simp [TT.pairs_n]
    refine ⟨true, k, 0, find_some g.nd2 hq, chkI hole ⟨63, 1, [.ptr none], by rw [sl]; exact rowx _, chkI rfl ?_⟩⟩
    simp only [sl, sl2]
    have N := new_tr hM (AObj.row 63 1 (spliceA [.ptr none] 0 (AV.cells (AV.agg [.ptr (some (k, 0))]))))
    have M1 : Maps _ (rZ t m lk ctx ((TT.node k id' l r).n : Nat) (.node k id' l r) ++ ([(m, AObj.map (qs.map ent))] ++ [(h.length, AObj.row 63 1 (spliceA [.ptr none] 0 (AV.cells (AV.agg [.ptr (some (k, 0))]))))])) := N.b.perm (((List.Perm.cons _ (hz lk qs))).trans (perm_of fun a => by simp only [cnt_cons, cnt_append, cnt_nil, pt_nil, rT, rTs, rC, rZ, pt_node, Fr.row, upC_cons, upC_nil, TT.n, Bool.false_eq_true, if_false, if_true]; omega))
    have A1 := N.perm (.refl _) (M' := rZ t m lk ctx ((TT.node k id' l r).n : Nat) (.node k id' l r) ++ ([(m, AObj.map (qs.map ent))] ++ [(h.length, AObj.row 63 1 (spliceA [.ptr none] 0 (AV.cells (AV.agg [.ptr (some (k, 0))]))))])) (((List.Perm.cons _ (hz lk qs))).trans (perm_of fun a => by simp only [cnt_cons, cnt_append, cnt_nil, pt_nil, rT, rTs, rC, rZ, pt_node, Fr.row, upC_cons, upC_nil, TT.n, Bool.false_eq_true, if_false, if_true]; omega))
    have rk := M1.row k _ (List.mem_append_left _ (List.mem_append_right _ List.mem_cons_self))
    have back : ∀ {h' : AHeap} {lk' : Int}, Tr h h' (rA t m lk T qs) (rZ t m lk' ctx ((TT.node k id' l r).n : Nat) (.node k id' l r) ++ ([(m, AObj.map (qs.map ent))] ++ [(h.length, AObj.row 63 1 (spliceA [.ptr none] 0 (AV.cells (AV.agg [.ptr (some (k, 0))]))))])) → ∃ lk', Tr h h' (rA t m lk T qs) (rA t m lk' T qs) := fun {h' lk'} ht => ⟨lk', (ht.perm (.refl _) (M' := [(h.length, AObj.row 63 1 (spliceA [.ptr none] 0 (AV.cells (AV.agg [.ptr (some (k, 0))]))))] ++ rA t m lk' T qs) (by
      rw [← List.append_assoc]
      exact ((hz lk' qs).symm.append_right _).trans List.perm_append_comm)).drop⟩
    refine ⟨k, 0, fld (rowx _) rfl, ?_⟩
    cases ctx with
    | nil =>
      have hp1 : ∀ lk, (rZ t m lk [] ((TT.node k id' l r).n : Nat) (.node k id' l r) ++ ([(m, AObj.map (qs.map ent))] ++ [(h.length, AObj.row 63 1 (spliceA [.ptr none] 0 (AV.cells (AV.agg [.ptr (some (k, 0))]))))])).Perm (rC t m lk (some (k, 0)) [] ++ (rTs ((TT.node k id' l r).n : Nat) none (.node k id' l r) ++ ([(m, AObj.map (qs.map ent))] ++ [(h.length, AObj.row 63 1 (spliceA [.ptr none] 0 (AV.cells (AV.agg [.ptr (some (k, 0))]))))]))) := fun lk => by
        unfold rZ
        rw [List.append_assoc]
        exact List.Perm.refl _
      obtain ⟨p0, ht, hl⟩ := look_tr (M1.perm (hp1 lk))
      have T1 := hl (IntKind.wrap .i64 (lk + 1))
      have rx := T1.b.row h.length _ (List.mem_append_right _ (List.mem_append_right _ (List.mem_append_right _ List.mem_cons_self)))
      have rk1 := T1.b.row k _ (List.mem_append_right _ (List.mem_append_left _ List.mem_cons_self))
      have s1 := size_at (u := some (k, 0)) (T := l) fun x hx => T1.b.row x.1 x.2 (List.mem_append_right _ (List.mem_append_left _ (List.mem_cons_of_mem _ (List.mem_append_left _ hx))))
      refine ⟨false, fld rk rfl, lk, fld ht rfl, 58, 3, _, ht, chkI rfl ⟨k, 0, fld rx rfl, l.pt, fld rk1 rfl, _, s1, ?_, back (A1.trans (T1.perm (hp1 lk).symm (hp1 _).symm))⟩⟩
      rw [eR]
      simp [pL, VIB]
    | cons f fs =>
      refine ⟨true, f.k, 0, fld rk rfl, k, 0, fld (rowx _) rfl, place_can (by omega) M1.left, fun c h2 hp => ?_⟩
      obtain ⟨rfl, lk2, T2⟩ := hp t m lk (f :: fs) _ k id' l r rfl (by omega) M1.left
      exact ⟨by rw [eR]; rfl, back (A1.trans (T2.frame M1))⟩
  · have hm2 : id ∉ qs.map (·.2) := fun e => hm (g.mem.1 e)
    refine ⟨false, find_none hm2, chkI hole ⟨63, 1, [.ptr none], by rw [sl]; exact rowx _, chkI rfl ?_⟩⟩
    rw [sl, sl2]
    exact ⟨by unfold idxR; rw [if_neg hm]; rfl, lk, junk_tr hM _⟩
theorem rep_of {h : AHeap} : ∀ {T : TT} {u : Pt}, (∀ x ∈ rT u T, h[x.1]? = some x.2) → Rep h T
  | .nil, _, _ => trivial
  | .node k id l r, u, hx => by
    have h1 := hx _ List.mem_cons_self
    refine ⟨⟨(l.n + r.n + 1 : Nat), u, by rw [TT.av_pt, TT.av_pt]; exact h1⟩, rep_of (u := some (k, 0)) fun x hx' => hx x (List.mem_cons_of_mem _ (List.mem_append_left _ hx')), rep_of (u := some (k, 0)) fun x hx' => hx x (List.mem_cons_of_mem _ (List.mem_append_right _ hx'))⟩

end Go.Proofs.Ytncmgbbbekabdaa
