/- Written by merging: Le Lf Lg Lh Li Lj. -/
import Derived.Test.YtncmgbbbekabdaaMg
import Derived.Test.YtncmgbbbekabdaaMh
import Derived.Test.YtncmgbbbekabdaaMi
namespace Go.Proofs.Ytncmgbbbekabdaa
open Go Go.Am Go.RowKit
set_option maxRecDepth 100000
set_option linter.unusedVariables false
set_option linter.unusedSimpArgs false

def e13 (t : Nat) (i : Int) (n : Nat) : List AV := envOf 60 [(0, .ptr (some (t, 0))), (1, .int .i64 i), (6, .ptr (some (n, 0)))]
def o13 (z : Int) : List AV := envOf 60 [(4, .int .i64 z), (5, .bool true)]
def n13 : Tidy := ⟨dropT 60 [0, 1, 6], .all⟩
def x13 : Tidy := ⟨dropT 60 [4, 5], .all⟩
def k13 : List (Nat × K1) := [(23, .ptrS), (27, i64), (34, .ptrV), (51, .ptrS), (43, .ptrS), (59, i64)]
noncomputable def B13 (b : Nat) : Cfg := { CT tbQ [] k13 with b0 := b }
def T13 (t : Nat) (i : Int) (X : AHeap → Nat → Prop) (Y : AHeap → Int → Prop) (st : St) (K : AExit → St → Prop) : Prop := ∃ H n, st = (e13 t i n, H) ∧ X H n ∧ ∀ H' z, Y H' z → K .ret (o13 z, H')
noncomputable def C13l (t : Nat) (i : Int) (X : AHeap → Nat → Prop) (Y : AHeap → Int → Prop) : Cfg := { CT tbQ [] k13 with
  lw := fun id => if id = 4 then some (T13 t i X Y) else none
  F := fun id => if id = 4 then n13 else ⟨[], .all⟩ }
theorem at_vc (h : AHeap) (t : Nat) (i : Int) (X : AHeap → Nat → Prop) (Y : AHeap → Int → Prop) (R : AV → AHeap → Prop) : (∃ (b : Bool), askB b (TbE.s { f := 24, s := sNone, r := Rs.of (Rs1.one K1.bool) } [AV.ptr (some (t, 0))] h = some (AV.bool true) ∧ R (AV.tup [AV.int .i64 0, AV.bool false]) h) (TbE.s { f := 24, s := sNone, r := Rs.of (Rs1.one K1.bool) } [AV.ptr (some (t, 0))] h = some (AV.bool false) ∧ askB (decide (i < 0)) (R (AV.tup [AV.int .i64 0, AV.bool false]) h) (∃ (n : Int), TbE.s { f := 10, s := sLen, r := Rs.of (Rs1.one i64) } [AV.ptr (some (t, 0))] h = some (AV.int .i64 n) ∧ askB (decide (i ≥ n)) (R (AV.tup [AV.int .i64 0, AV.bool false]) h) (∃ (k : Nat), ∃ (o : Nat), (Option.bind (cellsAt h t) fun (x : List AV) => partR none x 0) = some (AV.ptr (some (k, o))) ∧ ∃ (H : AHeap), ∃ (n : Nat), (envOf 60 [(0, AV.ptr (some (t, 0))), (1, AV.int .i64 i), (6, AV.ptr (some (k, o)))], h) = (envOf 60 [(0, AV.ptr (some (t, 0))), (1, AV.int .i64 i), (6, AV.ptr (some (n, 0)))], H) ∧ X H n ∧ ∀ (H' : AHeap) (z : Int), Y H' z → R (AV.tup [AV.int .i64 z, AV.bool true]) H')))) = (wpF Try.prog (C13l t i X Y) 60 p13 [(.ptr (some (t, 0))), .int .i64 i] h R) := by kernel_rfl
theorem at_body (h : AHeap) (t n : Nat) (i : Int) (b : Nat) (K : AExit → St → Prop) : (∃ (n_1 : Int), (Option.bind (cellsAt h t) fun (x : List AV) => partR none x 2) = some (AV.int .i64 n_1) ∧ ∃ (t_1 : TypeId), ∃ (s : Nat), ∃ (cs : List AV), h[t]? = some (AObj.row t_1 s cs) ∧ chkW (decide (3 ≤ List.length cs)) (∃ (p : Option (Nat × Nat)), (Option.bind (cellsAt (List.set h t (AObj.row t_1 s (spliceA cs 2 (AV.cells (AV.int .i64 (IntKind.wrap .i64 (n_1 + 1))))))) n) fun (x : List AV) => partR none x 3) = some (AV.ptr p) ∧ ∃ (n_2 : Int), TbE.s { f := 27, s := sSize, r := Rs.of (Rs1.one i64) } [AV.ptr p] (List.set h t (AObj.row t_1 s (spliceA cs 2 (AV.cells (AV.int .i64 (IntKind.wrap .i64 (n_1 + 1))))))) = some (AV.int .i64 n_2) ∧ askB (decide (i < n_2)) (∃ (k : Nat), ∃ (o : Nat), (Option.bind (cellsAt (List.set h t (AObj.row t_1 s (spliceA cs 2 (AV.cells (AV.int .i64 (IntKind.wrap .i64 (n_1 + 1))))))) n) fun (x : List AV) => partR none x 3) = some (AV.ptr (some (k, o))) ∧ K AExit.normal (envOf 60 [(0, AV.ptr (some (t, 0))), (1, AV.int .i64 i), (6, AV.ptr (some (k, o)))], List.set h t (AObj.row t_1 s (spliceA cs 2 (AV.cells (AV.int .i64 (IntKind.wrap .i64 (n_1 + 1)))))))) (askB (i == n_2) (∃ (n_3 : Int), (Option.bind (cellsAt (List.set h t (AObj.row t_1 s (spliceA cs 2 (AV.cells (AV.int .i64 (IntKind.wrap .i64 (n_1 + 1))))))) n) fun (x : List AV) => partR none x 0) = some (AV.int .i64 n_3) ∧ K AExit.ret (envOf 60 [(4, AV.int .i64 n_3), (5, AV.bool true)], List.set h t (AObj.row t_1 s (spliceA cs 2 (AV.cells (AV.int .i64 (IntKind.wrap .i64 (n_1 + 1)))))))) (∃ (k : Nat), ∃ (o : Nat), (Option.bind (cellsAt (List.set h t (AObj.row t_1 s (spliceA cs 2 (AV.cells (AV.int .i64 (IntKind.wrap .i64 (n_1 + 1))))))) n) fun (x : List AV) => partR none x 4) = some (AV.ptr (some (k, o))) ∧ K AExit.normal (envOf 60 [(0, AV.ptr (some (t, 0))), (1, AV.int .i64 (IntKind.wrap .i64 (i - IntKind.wrap .i64 (n_2 + 1)))), (6, AV.ptr (some (k, o)))], List.set h t (AObj.row t_1 s (spliceA cs 2 (AV.cells (AV.int .i64 (IntKind.wrap .i64 (n_1 + 1))))))))))) = (wpP Try.prog (B13 b) 40 (.inl p13_l0) (e13 t i n, h) (postX (B13 b) n13 x13 x13 K)) := by kernel_rfl
def J13 (t m : Nat) (T : TT) (qs : List (Nat × Int)) (z0 : Int) (h0 : AHeap) (L0 : Rws) (s : AHeap × Int × Nat × Nat) : Prop :=
  ∃ lk T' u, ∃ j : Nat, s.2.1 = j ∧ T'.pt = some (s.2.2.1, 0) ∧ T'.n ≤ 1000000 ∧ T'.ids[j]? = some z0 ∧ s.2.2.2 = T'.n ∧ (∀ x ∈ rT u T', x ∈ rT none T) ∧ Tr h0 s.1 L0 (rA t m lk T qs)
theorem at_loop {t m : Nat} {T : TT} {qs : List (Nat × Int)} {z0 : Int} {h0 : AHeap} {L0 : Rws} {b : Nat} (s : AHeap × Int × Nat × Nat) (hs : J13 t m T qs z0 h0 L0 s) :
    W Try.prog (B13 b).S b (.inl (.loop p13_l0)) (e13 t s.2.1 s.2.2.1, s.1) fun e st => e = .ret ∧ ∃ H lk, st = (o13 z0, H) ∧ Tr h0 H L0 (rA t m lk T qs) := by
  refine W_roundsX (C := B13 b) (CU_cw (ks := []) tabsQ) (a := p13_l0) (no_parts rfl) (fun s : AHeap × Int × Nat × Nat => (e13 t s.2.1 s.2.2.1, s.1)) (J13 t m T qs z0 h0 L0) (fun s => s.2.2.2) (fun _ e st => e = .ret ∧ ∃ H lk, st = (o13 z0, H) ∧ Tr h0 H L0 (rA t m lk T qs)) n13 x13 x13 ?_ s hs
  rintro ⟨h, i', n, mm⟩ ⟨lk, T', u, j, rfl, hp, hb, hz, rfl, hsub, hT⟩
  refine ⟨40, ?_⟩
  dsimp only at hp hT ⊢
  cases T' with
  | nil => cases hp
  | node k id l r =>
    simp only [TT.pt, Option.some.injEq, Prod.mk.injEq, and_true] at hp
    subst hp
    simp only [TT.n] at hb
    rw [← at_body]
    have hM := hT.b
    have M0 : Maps h (rC t m lk T.pt [] ++ (rT none T ++ [(m, AObj.map (qs.map ent))])) := hM.perm (by unfold rA rW; rw [List.append_assoc])
    obtain ⟨p0, ht, hl⟩ := look_tr M0
    have T1 := (hl (IntKind.wrap .i64 (lk + 1))).perm (M := rA t m lk T qs) (M' := rA t m (IntKind.wrap .i64 (lk + 1)) T qs) (by unfold rA rW; rw [List.append_assoc]) (by unfold rA rW; rw [List.append_assoc])
    have TT1 := hT.trans T1
    have row : ∀ x ∈ rT u (.node k id l r), (h.set t (trow p0 m (IntKind.wrap .i64 (lk + 1))))[x.1]? = some x.2 := fun x hx => T1.b.row x.1 x.2 (List.mem_append_left _ (List.mem_append_right _ (hsub x hx)))
    have r1 := row _ List.mem_cons_self
    have s1 := size_at (u := some (k, 0)) (T := l) fun x hx => row x (List.mem_cons_of_mem _ (List.mem_append_left _ hx))
    have hln := TT.n_ids l
    simp only [TT.ids] at hz
    refine ⟨lk, fld ht rfl, 58, 3, _, ht, chkI rfl ⟨l.pt, fld r1 rfl, _, s1, askI (fun hc => ?_) (fun hc => askI (fun hd => ?_) (fun hd => ?_))⟩⟩
    · simp only [decide_eq_true_eq] at hc
      rw [List.getElem?_append_left (by omega)] at hz
      cases l with
      | nil => simp only [TT.n] at hc; omega
      | node lk' lid ll lr =>
        refine ⟨lk', 0, fld r1 rfl, ⟨(_, _, lk', (TT.node lk' lid ll lr).n), rfl, ⟨_, .node lk' lid ll lr, some (k, 0), j, rfl, rfl, by omega, hz, rfl, fun x hx => hsub x (List.mem_cons_of_mem _ (List.mem_append_left _ hx)), TT1⟩, ?_, fun _ _ h => h⟩⟩
        show (TT.node lk' lid ll lr).n < (TT.node k id (TT.node lk' lid ll lr) r).n
        simp only [TT.n]; omega
    · simp only [beq_iff_eq] at hd
      have e : j = l.ids.length := by omega
      rw [e, List.getElem?_append_right (Nat.le_refl _), Nat.sub_self, List.getElem?_cons_zero] at hz
      cases hz
      exact ⟨_, fld r1 rfl, rfl, _, _, rfl, TT1⟩
    · simp only [decide_eq_false_iff_not] at hc
      simp only [beq_eq_false_iff_ne, ne_eq] at hd
      rw [List.getElem?_append_right (by omega), show j - l.ids.length = (j - (l.n + 1)) + 1 by omega, List.getElem?_cons_succ] at hz
      have ew : IntKind.wrap .i64 ((j : Int) - IntKind.wrap .i64 (((l.n : Nat) : Int) + 1)) = ((j - (l.n + 1) : Nat) : Int) := by
        have hj : j - (l.n + 1) < r.ids.length := (List.getElem?_eq_some_iff.1 hz).1
        have := TT.n_ids r
        rw [wrap_small (n := ((l.n : Nat) : Int) + 1) (by omega) (by omega), wrap_small (by omega) (by omega)]; omega
      cases r with
      | nil => simp [TT.ids] at hz
      | node rk rid rl rr =>
        refine ⟨rk, 0, fld r1 rfl, ⟨(_, _, rk, (TT.node rk rid rl rr).n), rfl, ⟨_, .node rk rid rl rr, some (k, 0), j - (l.n + 1), ew, rfl, by omega, hz, rfl, fun x hx => hsub x (List.mem_cons_of_mem _ (List.mem_append_right _ hx)), TT1⟩, ?_, fun _ _ h => h⟩⟩
        show (TT.node rk rid rl rr).n < (TT.node k id l (TT.node rk rid rl rr)).n
        simp only [TT.n]; omega
def VIB (a : Int × Bool) : AV := .tup [.int .i64 a.1, .bool a.2]
/-- What At answers. -/
def atR (zs : List Int) (i : Int) : Int × Bool := if i < 0 then (0, false) else match zs[i.toNat]? with
  | some z => (z, true)
  | none => (0, false)
def P13 (vs : List AV) (h : AHeap) (a : Int × Bool) (h' : AHeap) : Prop := ∀ t T m lk qs (i : Int), vs = [.ptr (some (t, 0)), .int .i64 i] → Good T qs → Maps h (rA t m lk T qs) → a = atR T.ids i ∧ ∃ lk', Tr h h' (rA t m lk T qs) (rA t m lk' T qs)
theorem at_can {h : AHeap} {t m : Nat} {lk : Int} {T : TT} {qs : List (Nat × Int)} {i : Int} (g : Good T qs) (hM : Maps h (rA t m lk T qs)) : ComesTo Try.prog 13 VIB P13 [.ptr (some (t, 0)), .int .i64 i] h := by
  suffices hs : ∃ v h', (v = VIB (atR T.ids i) ∧ ∃ lk', Tr h h' (rA t m lk T qs) (rA t m lk' T qs)) ∧ CallSem Try.prog 13 [.ptr (some (t, 0)), .int .i64 i] h v h' by
    obtain ⟨v, h', ⟨rfl, ht⟩, hs⟩ := hs
    refine ⟨_, h', fun t' T' m' lk' qs' i' e g' hM' => ?_, hs⟩
    simp only [List.cons.injEq, AV.ptr.injEq, AV.int.injEq, Option.some.injEq, Prod.mk.injEq, and_true, true_and] at e
    obtain ⟨rfl, rfl⟩ := e
    obtain ⟨rfl, rfl, rfl, rfl⟩ := rA_one hM hM'
    exact ⟨rfl, ht⟩
  have gn := g.n
  have hlen := TT.n_ids T
  have no : atR T.ids i = (0, false) → AV.tup [.int .i64 0, .bool false] = VIB (atR T.ids i) := fun h => by rw [h]; rfl
  by_cases hi : 0 ≤ i ∧ i < T.n
  · obtain ⟨j, rfl⟩ : ∃ j : Nat, i = j := ⟨i.toNat, by omega⟩
    have hj : j < T.ids.length := by omega
    have hz := List.getElem?_eq_getElem hj
    have ea : atR T.ids (j : Int) = (T.ids[j], true) := by
      unfold atR; rw [if_neg (by omega), Int.toNat_natCast, hz]
    refine sem_vc mixed (C := C13l t j (fun H n => ∃ mm, J13 t m T qs T.ids[j] h (rA t m lk T qs) (H, (j : Int), n, mm)) (fun H z => z = T.ids[j] ∧ ∃ lk', Tr h H (rA t m lk T qs) (rA t m lk' T qs))) (SU_ok tabsQ) (CU_q (ks := [])) (CU_cw (ks := []) tabsQ) ht13 c13 ?_ (at_vc h t j _ _ _) ?_
    · refine one_part rfl (part_loop (id := 4) rfl rfl fun st K hT => ?_)
      obtain ⟨H, n, rfl, ⟨mm, hJ⟩, hk⟩ := hT
      refine W_mono (at_loop _ hJ) fun e st hq => ?_
      obtain ⟨rfl, H', lk', rfl, hY⟩ := hq
      exact hk H' _ ⟨rfl, lk', hY⟩
    · cases T with
      | nil => simp only [TT.n] at hi; omega
      | node k id l r =>
        refine ⟨false, rA_none hM, askF (by simp) ⟨_, rA_len g hM, askF (by simp; omega) ⟨k, 0, fld (rA_t hM) rfl, h, k, rfl, ⟨(TT.node k id l r).n, lk, .node k id l r, none, j, rfl, rfl, by omega, hz, rfl, fun x hx => hx, Tr.refl hM⟩, fun H' z hY => ?_⟩⟩⟩
        obtain ⟨rfl, hY⟩ := hY
        exact ⟨by rw [ea]; rfl, hY⟩
  · have ea : atR T.ids i = (0, false) := by
      unfold atR
      split
      · rfl
      · rw [List.getElem?_eq_none (by omega)]
    refine sem_vc mixed (C := C13l t i (fun _ _ => False) (fun _ _ => False)) (SU_ok tabsQ) (CU_q (ks := [])) (CU_cw (ks := []) tabsQ) ht13 c13 ?_ (at_vc h t i _ _ _) ?_
    · refine one_part rfl (part_loop (id := 4) rfl rfl fun st K hT => ?_)
      obtain ⟨H, n, _, hf, _⟩ := hT
      exact hf.elim
    · refine ⟨false, rA_none hM, askI (fun h1 => ?_) (fun h1 => ⟨_, rA_len g hM, askT ?_ ?_⟩)⟩
      · exact ⟨no ea, lk, Tr.refl hM⟩
      · simp only [decide_eq_false_iff_not] at h1
        simp only [ge_iff_le, decide_eq_true_eq]
        omega
      · exact ⟨no ea, lk, Tr.refl hM⟩
noncomputable def tX : List TbG := [TC Try.prog 28 VI P28]
noncomputable def CX (ks : List (Nat × K1)) (a : Nat) : Cfg := { CT tbQ tX ks with kd := fun t => if t = a then .agg [.ptrS] else kdOf ks t }
theorem index_vc (h : AHeap) (t : Nat) (id : Int) (R : AV → AHeap → Prop) : (∃ (b : Bool), askB b (TbE.s { f := 24, s := sNone, r := Rs.of (Rs1.one K1.bool) } [AV.ptr (some (t, 0))] h = some (AV.bool true) ∧ R (AV.tup [AV.int .i64 0, AV.bool false]) h) (TbE.s { f := 24, s := sNone, r := Rs.of (Rs1.one K1.bool) } [AV.ptr (some (t, 0))] h = some (AV.bool false) ∧ ∃ (m : Nat), (Option.bind (cellsAt (h ++ List.replicate (0 + 1) AObj.hole) t) fun (x : List AV) => partR none x 1) = some (AV.map (some m)) ∧ ∃ (es : List (AV × AV)), (h ++ List.replicate (0 + 1) AObj.hole)[m]? = some (AObj.map es) ∧ ∃ (b : Bool), askB b (∃ (k : Nat), ∃ (o : Nat), findA (AV.int .i64 id) es = some (some (AV.agg [AV.ptr (some (k, o))])) ∧ chkW (isHole (h ++ List.replicate (0 + 1) AObj.hole) (List.length h)) (∃ (t_1 : TypeId), ∃ (s : Nat), ∃ (cs : List AV), (List.set (h ++ List.replicate (0 + 1) AObj.hole) (List.length h) (AObj.row 63 (List.length (AV.cells (AV.agg [AV.ptr none]))) (AV.cells (AV.agg [AV.ptr none]))))[List.length h]? = some (AObj.row t_1 s cs) ∧ chkW (decide (1 ≤ List.length cs)) (∃ (k_1 : Nat), ∃ (o_1 : Nat), (Option.bind (cellsAt (List.set (List.set (h ++ List.replicate (0 + 1) AObj.hole) (List.length h) (AObj.row 63 (List.length (AV.cells (AV.agg [AV.ptr none]))) (AV.cells (AV.agg [AV.ptr none])))) (List.length h) (AObj.row t_1 s (spliceA cs 0 (AV.cells (AV.agg [AV.ptr (some (k, o))]))))) (List.length h)) fun (x : List AV) => partR none x 0) = some (AV.ptr (some (k_1, o_1))) ∧ ∃ (b : Bool), askB b (∃ (k_2 : Nat), ∃ (o_2 : Nat), (Option.bind (cellsAt (List.set (List.set (h ++ List.replicate (0 + 1) AObj.hole) (List.length h) (AObj.row 63 (List.length (AV.cells (AV.agg [AV.ptr none]))) (AV.cells (AV.agg [AV.ptr none])))) (List.length h) (AObj.row t_1 s (spliceA cs 0 (AV.cells (AV.agg [AV.ptr (some (k, o))]))))) k_1) fun (x : List AV) => partR none x (o_1 + 2)) = some (AV.ptr (some (k_2, o_2))) ∧ ∃ (k_3 : Nat), ∃ (o_3 : Nat), (Option.bind (cellsAt (List.set (List.set (h ++ List.replicate (0 + 1) AObj.hole) (List.length h) (AObj.row 63 (List.length (AV.cells (AV.agg [AV.ptr none]))) (AV.cells (AV.agg [AV.ptr none])))) (List.length h) (AObj.row t_1 s (spliceA cs 0 (AV.cells (AV.agg [AV.ptr (some (k, o))]))))) (List.length h)) fun (x : List AV) => partR none x 0) = some (AV.ptr (some (k_3, o_3))) ∧ ComesTo Try.prog 28 VI P28 ([] ++ List.reverse [AV.ptr (some (k_3, o_3)), AV.ptr (some (t, 0))] ++ []) (List.set (List.set (h ++ List.replicate (0 + 1) AObj.hole) (List.length h) (AObj.row 63 (List.length (AV.cells (AV.agg [AV.ptr none]))) (AV.cells (AV.agg [AV.ptr none])))) (List.length h) (AObj.row t_1 s (spliceA cs 0 (AV.cells (AV.agg [AV.ptr (some (k, o))]))))) ∧ ∀ (a : Int) (h' : AHeap), P28 [AV.ptr (some (t, 0)), AV.ptr (some (k_3, o_3))] (List.set (List.set (h ++ List.replicate (0 + 1) AObj.hole) (List.length h) (AObj.row 63 (List.length (AV.cells (AV.agg [AV.ptr none]))) (AV.cells (AV.agg [AV.ptr none])))) (List.length h) (AObj.row t_1 s (spliceA cs 0 (AV.cells (AV.agg [AV.ptr (some (k, o))]))))) a h' → R (AV.tup [AV.int .i64 a, AV.bool true]) h') ((Option.bind (cellsAt (List.set (List.set (h ++ List.replicate (0 + 1) AObj.hole) (List.length h) (AObj.row 63 (List.length (AV.cells (AV.agg [AV.ptr none]))) (AV.cells (AV.agg [AV.ptr none])))) (List.length h) (AObj.row t_1 s (spliceA cs 0 (AV.cells (AV.agg [AV.ptr (some (k, o))]))))) k_1) fun (x : List AV) => partR none x (o_1 + 2)) = some (AV.ptr none) ∧ ∃ (n : Int), (Option.bind (cellsAt (List.set (List.set (h ++ List.replicate (0 + 1) AObj.hole) (List.length h) (AObj.row 63 (List.length (AV.cells (AV.agg [AV.ptr none]))) (AV.cells (AV.agg [AV.ptr none])))) (List.length h) (AObj.row t_1 s (spliceA cs 0 (AV.cells (AV.agg [AV.ptr (some (k, o))]))))) t) fun (x : List AV) => partR none x 2) = some (AV.int .i64 n) ∧ ∃ (t_2 : TypeId), ∃ (s_1 : Nat), ∃ (cs_1 : List AV), (List.set (List.set (h ++ List.replicate (0 + 1) AObj.hole) (List.length h) (AObj.row 63 (List.length (AV.cells (AV.agg [AV.ptr none]))) (AV.cells (AV.agg [AV.ptr none])))) (List.length h) (AObj.row t_1 s (spliceA cs 0 (AV.cells (AV.agg [AV.ptr (some (k, o))])))))[t]? = some (AObj.row t_2 s_1 cs_1) ∧ chkW (decide (3 ≤ List.length cs_1)) (∃ (k_2 : Nat), ∃ (o_2 : Nat), (Option.bind (cellsAt (List.set (List.set (List.set (h ++ List.replicate (0 + 1) AObj.hole) (List.length h) (AObj.row 63 (List.length (AV.cells (AV.agg [AV.ptr none]))) (AV.cells (AV.agg [AV.ptr none])))) (List.length h) (AObj.row t_1 s (spliceA cs 0 (AV.cells (AV.agg [AV.ptr (some (k, o))]))))) t (AObj.row t_2 s_1 (spliceA cs_1 2 (AV.cells (AV.int .i64 (IntKind.wrap .i64 (n + 1))))))) (List.length h)) fun (x : List AV) => partR none x 0) = some (AV.ptr (some (k_2, o_2))) ∧ ∃ (p : Option (Nat × Nat)), (Option.bind (cellsAt (List.set (List.set (List.set (h ++ List.replicate (0 + 1) AObj.hole) (List.length h) (AObj.row 63 (List.length (AV.cells (AV.agg [AV.ptr none]))) (AV.cells (AV.agg [AV.ptr none])))) (List.length h) (AObj.row t_1 s (spliceA cs 0 (AV.cells (AV.agg [AV.ptr (some (k, o))]))))) t (AObj.row t_2 s_1 (spliceA cs_1 2 (AV.cells (AV.int .i64 (IntKind.wrap .i64 (n + 1))))))) k_2) fun (x : List AV) => partR none x (o_2 + 3)) = some (AV.ptr p) ∧ ∃ (n_1 : Int), TbE.s { f := 27, s := sSize, r := Rs.of (Rs1.one i64) } [AV.ptr p] (List.set (List.set (List.set (h ++ List.replicate (0 + 1) AObj.hole) (List.length h) (AObj.row 63 (List.length (AV.cells (AV.agg [AV.ptr none]))) (AV.cells (AV.agg [AV.ptr none])))) (List.length h) (AObj.row t_1 s (spliceA cs 0 (AV.cells (AV.agg [AV.ptr (some (k, o))]))))) t (AObj.row t_2 s_1 (spliceA cs_1 2 (AV.cells (AV.int .i64 (IntKind.wrap .i64 (n + 1))))))) = some (AV.int .i64 n_1) ∧ R (AV.tup [AV.int .i64 n_1, AV.bool true]) (List.set (List.set (List.set (h ++ List.replicate (0 + 1) AObj.hole) (List.length h) (AObj.row 63 (List.length (AV.cells (AV.agg [AV.ptr none]))) (AV.cells (AV.agg [AV.ptr none])))) (List.length h) (AObj.row t_1 s (spliceA cs 0 (AV.cells (AV.agg [AV.ptr (some (k, o))]))))) t (AObj.row t_2 s_1 (spliceA cs_1 2 (AV.cells (AV.int .i64 (IntKind.wrap .i64 (n + 1)))))))))))) (findA (AV.int .i64 id) es = some none ∧ chkW (isHole (h ++ List.replicate (0 + 1) AObj.hole) (List.length h)) (∃ (t : TypeId), ∃ (s : Nat), ∃ (cs : List AV), (List.set (h ++ List.replicate (0 + 1) AObj.hole) (List.length h) (AObj.row 63 (List.length (AV.cells (AV.agg [AV.ptr none]))) (AV.cells (AV.agg [AV.ptr none]))))[List.length h]? = some (AObj.row t s cs) ∧ chkW (decide (1 ≤ List.length cs)) (R (AV.tup [AV.int .i64 0, AV.bool false]) (List.set (List.set (h ++ List.replicate (0 + 1) AObj.hole) (List.length h) (AObj.row 63 (List.length (AV.cells (AV.agg [AV.ptr none]))) (AV.cells (AV.agg [AV.ptr none])))) (List.length h) (AObj.row t s (spliceA cs 0 (AV.cells (AV.agg [AV.ptr none])))))))))) = (wpF Try.prog (CX [(14, .mapS), (22, .ptrS), (25, .ptr), (30, i64), (35, .ptrS), (38, .ptrV), (42, .ptrS)] 16) 60 p14 [(.ptr (some (t, 0))), .int .i64 id] h R) := by kernel_rfl
theorem tabsX : TabsOK tbQ tX [] := by
  refine ⟨tabsQ.q, tabsQ.qq, fun x hx => ?_, fun x hx => ?_, fun _ h => (by cases h), rfl⟩
  · simp only [tX, List.mem_cons, List.not_mem_nil, or_false] at hx
    subst hx; exact csem_full ht28 VI P28
  · simp only [tX, List.mem_cons, List.not_mem_nil, or_false] at hx
    subst hx; exact TC_ok _ _ _ _
/-- What Index answers. -/
def idxR (zs : List Int) (id : Int) : Int × Bool := if id ∈ zs then ((zs.idxOf id : Nat), true) else (0, false)
def P14 (vs : List AV) (h : AHeap) (a : Int × Bool) (h' : AHeap) : Prop := ∀ t T m lk qs (id : Int), vs = [.ptr (some (t, 0)), .int .i64 id] → Good T qs → Maps h (rA t m lk T qs) → a = idxR T.ids id ∧ ∃ lk', Tr h h' (rA t m lk T qs) (rA t m lk' T qs)
theorem index_can {h : AHeap} {t m : Nat} {lk : Int} {T : TT} {qs : List (Nat × Int)} {id : Int} (g : Good T qs) (hM : Maps h (rA t m lk T qs)) : ComesTo Try.prog 14 VIB P14 [.ptr (some (t, 0)), .int .i64 id] h := by
  suffices hs : ∃ v h', (v = VIB (idxR T.ids id) ∧ ∃ lk', Tr h h' (rA t m lk T qs) (rA t m lk' T qs)) ∧ CallSem Try.prog 14 [.ptr (some (t, 0)), .int .i64 id] h v h' by
    obtain ⟨v, h', ⟨rfl, ht⟩, hs⟩ := hs
    refine ⟨_, h', fun t' T' m' lk' qs' i' e g' hM' => ?_, hs⟩
    simp only [List.cons.injEq, AV.ptr.injEq, AV.int.injEq, Option.some.injEq, Prod.mk.injEq, and_true, true_and] at e
    obtain ⟨rfl, rfl⟩ := e
    obtain ⟨rfl, rfl, rfl, rfl⟩ := rA_one hM hM'
    exact ⟨rfl, ht⟩
  refine sem_vc mixed (C := CX [(14, .mapS), (22, .ptrS), (25, .ptr), (30, i64), (35, .ptrS), (38, .ptrV), (42, .ptrS)] 16) (SU_ok tabsX) (CU_q (ks := [])) (CU_cw (ks := []) tabsX) ht14 c14 (no_parts rfl) (index_vc h t id _) ?_
  have g0 := Grow.app h (List.replicate (0 + 1) AObj.hole)
  have sl : ∀ x : AObj, (h ++ List.replicate (0 + 1) AObj.hole).set h.length x = h ++ [x] := fun x => by rw [repl1, set_b0]; rfl
  have hole : isHole (h ++ List.replicate (0 + 1) AObj.hole) h.length = true := by unfold isHole; rw [repl1, get_b0]; rfl
  have rowx : ∀ x : AObj, (h ++ [x])[h.length]? = some x := fun x => by rw [get_b0]; rfl
  have sl2 : ∀ x y : AObj, (h ++ [x]).set h.length y = h ++ [y] := fun x y => by rw [set_b0]; rfl
  refine ⟨false, rA_none hM, m, fld (g0 _ _ (rA_t hM)) rfl, _, g0 _ _ (rA_m hM), ?_⟩
  by_cases hm : id ∈ T.ids
  · obtain ⟨⟨k, id'⟩, hq, rfl⟩ := List.mem_map.1 (g.mem.2 hm)
    obtain ⟨ctx, l, r, hplug, hperm⟩ := zip_of (t := t) (m := m) T [] (g.p.mem_iff.1 hq)
    have hpp := plug_pairs ctx (.node k id' l r)
    rw [hplug] at hpp
    have hpn := plug_n ctx (.node k id' l r)
    rw [hplug] at hpn
    simp only [plug] at hpp hpn
    have gn := g.n
    simp only [TT.n] at hpn
    have hz : ∀ lk qs, (rA t m lk T qs).Perm (rZ t m lk ctx ((TT.node k id' l r).n : Nat) (.node k id' l r) ++ [(m, AObj.map (qs.map ent))]) := fun lk qs => by
      unfold rA rW rZ
      rw [rTs_n]
      exact (hperm lk).symm.append_right _
    have eT : T.ids = (pL ctx ++ l.pairs).map (·.2) ++ id' :: (r.pairs ++ pR ctx).map (·.2) := by
      rw [← TT.pairs_ids, hpp]; simp [TT.pairs]
    have hA : id' ∉ (pL ctx ++ l.pairs).map (·.2) := fun hx => by
      have := g.nd
      rw [eT, List.nodup_append] at this
      exact this.2.2 _ hx _ List.mem_cons_self rfl
    have eR : idxR T.ids id' = ((((pL ctx).length + l.n : Nat) : Int), true) := by
      unfold idxR
      rw [if_pos hm, eT, List.idxOf_append, if_neg hA, List.idxOf_cons_self]
      simp [TT.pairs_n]
    refine ⟨true, k, 0, find_some g.nd2 hq, chkI hole ⟨63, 1, [.ptr none], by rw [sl]; exact rowx _, chkI rfl ?_⟩⟩
    simp only [sl, sl2]
    have N := new_tr hM (AObj.row 63 1 (spliceA [.ptr none] 0 (AV.cells (AV.agg [.ptr (some (k, 0))]))))
    have M1 : Maps _ (rZ t m lk ctx ((TT.node k id' l r).n : Nat) (.node k id' l r) ++ ([(m, AObj.map (qs.map ent))] ++ [(h.length, AObj.row 63 1 (spliceA [.ptr none] 0 (AV.cells (AV.agg [.ptr (some (k, 0))]))))])) := N.b.perm (((List.Perm.cons _ (hz lk qs))).trans (perm_of fun a => by simp only [cnt_cons, cnt_append, cnt_nil, pt_nil, rT, rTs, rC, rZ, pt_node, Fr.row, upC_cons, upC_nil, TT.n, Bool.false_eq_true, if_false, if_true]; omega))
    have A1 := N.perm (.refl _) (M' := rZ t m lk ctx ((TT.node k id' l r).n : Nat) (.node k id' l r) ++ ([(m, AObj.map (qs.map ent))] ++ [(h.length, AObj.row 63 1 (spliceA [.ptr none] 0 (AV.cells (AV.agg [.ptr (some (k, 0))]))))])) (((List.Perm.cons _ (hz lk qs))).trans (perm_of fun a => by simp only [cnt_cons, cnt_append, cnt_nil, pt_nil, rT, rTs, rC, rZ, pt_node, Fr.row, upC_cons, upC_nil, TT.n, Bool.false_eq_true, if_false, if_true]; omega))
    have rk := M1.row k _ (List.mem_append_left _ (List.mem_append_right _ List.mem_cons_self))
    have back : ∀ {h' : AHeap} {lk' : Int}, Tr h h' (rA t m lk T qs) (rZ t m lk' ctx ((TT.node k id' l r).n : Nat) (.node k id' l r) ++ ([(m, AObj.map (qs.map ent))] ++ [(h.length, AObj.row 63 1 (spliceA [.ptr none] 0 (AV.cells (AV.agg [.ptr (some (k, 0))]))))])) → ∃ lk', Tr h h' (rA t m lk T qs) (rA t m lk' T qs) := fun {h' lk'} ht => ⟨lk', (ht.perm (.refl _) (M' := [(h.length, AObj.row 63 1 (spliceA [.ptr none] 0 (AV.cells (AV.agg [.ptr (some (k, 0))]))))] ++ rA t m lk' T qs) (by
      rw [← List.append_assoc]
      exact ((hz lk' qs).symm.append_right _).trans List.perm_append_comm)).drop⟩
    refine ⟨k, 0, fld (rowx _) rfl, ?_⟩
    cases ctx with
    | nil =>
      have hp1 : ∀ lk, (rZ t m lk [] ((TT.node k id' l r).n : Nat) (.node k id' l r) ++ ([(m, AObj.map (qs.map ent))] ++ [(h.length, AObj.row 63 1 (spliceA [.ptr none] 0 (AV.cells (AV.agg [.ptr (some (k, 0))]))))])).Perm (rC t m lk (some (k, 0)) [] ++ (rTs ((TT.node k id' l r).n : Nat) none (.node k id' l r) ++ ([(m, AObj.map (qs.map ent))] ++ [(h.length, AObj.row 63 1 (spliceA [.ptr none] 0 (AV.cells (AV.agg [.ptr (some (k, 0))]))))]))) := fun lk => by
        unfold rZ
        rw [List.append_assoc]
        exact List.Perm.refl _
      obtain ⟨p0, ht, hl⟩ := look_tr (M1.perm (hp1 lk))
      have T1 := hl (IntKind.wrap .i64 (lk + 1))
      have rx := T1.b.row h.length _ (List.mem_append_right _ (List.mem_append_right _ (List.mem_append_right _ List.mem_cons_self)))
      have rk1 := T1.b.row k _ (List.mem_append_right _ (List.mem_append_left _ List.mem_cons_self))
      have s1 := size_at (u := some (k, 0)) (T := l) fun x hx => T1.b.row x.1 x.2 (List.mem_append_right _ (List.mem_append_left _ (List.mem_cons_of_mem _ (List.mem_append_left _ hx))))
      refine ⟨false, fld rk rfl, lk, fld ht rfl, 58, 3, _, ht, chkI rfl ⟨k, 0, fld rx rfl, l.pt, fld rk1 rfl, _, s1, ?_, back (A1.trans (T1.perm (hp1 lk).symm (hp1 _).symm))⟩⟩
      rw [eR]
      simp [pL, VIB]
    | cons f fs =>
      refine ⟨true, f.k, 0, fld rk rfl, k, 0, fld (rowx _) rfl, place_can (by omega) M1.left, fun c h2 hp => ?_⟩
      obtain ⟨rfl, lk2, T2⟩ := hp t m lk (f :: fs) _ k id' l r rfl (by omega) M1.left
      exact ⟨by rw [eR]; rfl, back (A1.trans (T2.frame M1))⟩
  · have hm2 : id ∉ qs.map (·.2) := fun e => hm (g.mem.1 e)
    refine ⟨false, find_none hm2, chkI hole ⟨63, 1, [.ptr none], by rw [sl]; exact rowx _, chkI rfl ?_⟩⟩
    rw [sl, sl2]
    exact ⟨by unfold idxR; rw [if_neg hm]; rfl, lk, junk_tr hM _⟩

end Go.Proofs.Ytncmgbbbekabdaa
