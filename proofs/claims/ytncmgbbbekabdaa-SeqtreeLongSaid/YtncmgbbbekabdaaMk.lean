/- Written by merging: Le Lf Lg Lh. -/
import Derived.Test.YtncmgbbbekabdaaMj
import Derived.Test.YtncmgbbbekabdaaMh
namespace Go.Proofs.Ytncmgbbbekabdaa
open Go Go.Am Go.RowKit
set_option maxRecDepth 100000
set_option linter.unusedVariables false
set_option linter.unusedSimpArgs false

def e13 (t : Nat) (i : Int) (n : Nat) : List AV := envOf 60 [(0, .ptr (some (t, 0))), (1, .int .i64 i), (6, .ptr (some (n, 0)))]
def o13 (z : Int) : List AV := envOf 60 [(4, .int .i64 z), (5, .bool true)]
def n13 : Tidy := ⟨dropT 60 [0, 1, 6], .all⟩
def x13 : Tidy := ⟨dropT 60 [4, 5], .all⟩
def k13 : List (Nat × K1) := [(23, .ptrS), (27, i64), (34, .ptrV), (51, .ptrS), (43, .ptrS), (59, i64)]
noncomputable def B13 (b : Nat) : Cfg := { CT tbQ [] k13 with b0 := b }
def T13 (t : Nat) (i : Int) (X : AHeap → Nat → Prop) (Y : AHeap → Int → Prop) (st : St) (K : AExit → St → Prop) : Prop := ∃ H n, st = (e13 t i n, H) ∧ X H n ∧ ∀ H' z, Y H' z → K .ret (o13 z, H')
noncomputable def C13l (t : Nat) (i : Int) (X : AHeap → Nat → Prop) (Y : AHeap → Int → Prop) : Cfg := { CT tbQ [] k13 with
  lw := fun id => if id = 4 then some (T13 t i X Y) else none
  F := fun id => if id = 4 then n13 else ⟨[], .all⟩ }
theorem at_vc (h : AHeap) (t : Nat) (i : Int) (X : AHeap → Nat → Prop) (Y : AHeap → Int → Prop) (R : AV → AHeap → Prop) : (∃ (b : Bool), askB b (TbE.s { f := 24, s := sNone, r := Rs.of (Rs1.one K1.bool) } [AV.ptr (some (t, 0))] h = some (AV.bool true) ∧ R (AV.tup [AV.int .i64 0, AV.bool false]) h) (TbE.s { f := 24, s := sNone, r := Rs.of (Rs1.one K1.bool) } [AV.ptr (some (t, 0))] h = some (AV.bool false) ∧ askB (decide (i < 0)) (R (AV.tup [AV.int .i64 0, AV.bool false]) h) (∃ (n : Int), TbE.s { f := 10, s := sLen, r := Rs.of (Rs1.one i64) } [AV.ptr (some (t, 0))] h = some (AV.int .i64 n) ∧ askB (decide (i ≥ n)) (R (AV.tup [AV.int .i64 0, AV.bool false]) h) (∃ (k : Nat), ∃ (o : Nat), (Option.bind (cellsAt h t) fun (x : List AV) => partR none x 0) = some (AV.ptr (some (k, o))) ∧ ∃ (H : AHeap), ∃ (n : Nat), (envOf 60 [(0, AV.ptr (some (t, 0))), (1, AV.int .i64 i), (6, AV.ptr (some (k, o)))], h) = (envOf 60 [(0, AV.ptr (some (t, 0))), (1, AV.int .i64 i), (6, AV.ptr (some (n, 0)))], H) ∧ X H n ∧ ∀ (H' : AHeap) (z : Int), Y H' z → R (AV.tup [AV.int .i64 z, AV.bool true]) H')))) = (wpF Try.prog (C13l t i X Y) 60 p13 [(.ptr (some (t, 0))), .int .i64 i] h R) := by kernel_rfl
theorem at_body (h : AHeap) (t n : Nat) (i : Int) (b : Nat) (K : AExit → St → Prop) : (∃ (n_1 : Int), (Option.bind (cellsAt h t) fun (x : List AV) => partR none x 2) = some (AV.int .i64 n_1) ∧ ∃ (t_1 : TypeId), ∃ (s : Nat), ∃ (cs : List AV), h[t]? = some (AObj.row t_1 s cs) ∧ chkW (decide (3 ≤ List.length cs)) (∃ (p : Option (Nat × Nat)), (Option.bind (cellsAt (List.set h t (AObj.row t_1 s (spliceA cs 2 (AV.cells (AV.int .i64 (IntKind.wrap .i64 (n_1 + 1))))))) n) fun (x : List AV) => partR none x 3) = some (AV.ptr p) ∧ ∃ (n_2 : Int), TbE.s { f := 27, s := sSize, r := Rs.of (Rs1.one i64) } [AV.ptr p] (List.set h t (AObj.row t_1 s (spliceA cs 2 (AV.cells (AV.int .i64 (IntKind.wrap .i64 (n_1 + 1))))))) = some (AV.int .i64 n_2) ∧ askB (decide (i < n_2)) (∃ (k : Nat), ∃ (o : Nat), (Option.bind (cellsAt (List.set h t (AObj.row t_1 s (spliceA cs 2 (AV.cells (AV.int .i64 (IntKind.wrap .i64 (n_1 + 1))))))) n) fun (x : List AV) => partR none x 3) = some (AV.ptr (some (k, o))) ∧ K AExit.normal (envOf 60 [(0, AV.ptr (some (t, 0))), (1, AV.int .i64 i), (6, AV.ptr (some (k, o)))], List.set h t (AObj.row t_1 s (spliceA cs 2 (AV.cells (AV.int .i64 (IntKind.wrap .i64 (n_1 + 1)))))))) (askB (i == n_2) (∃ (n_3 : Int), (Option.bind (cellsAt (List.set h t (AObj.row t_1 s (spliceA cs 2 (AV.cells (AV.int .i64 (IntKind.wrap .i64 (n_1 + 1))))))) n) fun (x : List AV) => partR none x 0) = some (AV.int .i64 n_3) ∧ K AExit.ret (envOf 60 [(4, AV.int .i64 n_3), (5, AV.bool true)], List.set h t (AObj.row t_1 s (spliceA cs 2 (AV.cells (AV.int .i64 (IntKind.wrap .i64 (n_1 + 1)))))))) (∃ (k : Nat), ∃ (o : Nat), (Option.bind (cellsAt (List.set h t (AObj.row t_1 s (spliceA cs 2 (AV.cells (AV.int .i64 (IntKind.wrap .i64 (n_1 + 1))))))) n) fun (x : List AV) => partR none x 4) = some (AV.ptr (some (k, o))) ∧ K AExit.normal (envOf 60 [(0, AV.ptr (some (t, 0))), (1, AV.int .i64 (IntKind.wrap .i64 (i - IntKind.wrap .i64 (n_2 + 1)))), (6, AV.ptr (some (k, o)))], List.set h t (AObj.row t_1 s (spliceA cs 2 (AV.cells (AV.int .i64 (IntKind.wrap .i64 (n_1 + 1))))))))))) = (wpP Try.prog (B13 b) 40 (.inl p13_l0) (e13 t i n, h) (postX (B13 b) n13 x13 x13 K)) := by kernel_rfl
def J13 (t m : Nat) (T : TT) (qs : List (Nat × Int)) (z0 : Int) (h0 : AHeap) (L0 : Rws) (s : AHeap × Int × Nat × Nat) : Prop :=
  ∃ lk T' u, ∃ j : Nat, s.2.1 = j ∧ T'.pt = some (s.2.2.1, 0) ∧ T'.n ≤ 1000000 ∧ T'.ids[j]? = some z0 ∧ s.2.2.2 = T'.n ∧ (∀ x ∈ rT u T', x ∈ rT none T) ∧ Tr h0 s.1 L0 (rA t m lk T qs)
theorem at_loop {t m : Nat} {T : TT} {qs : List (Nat × Int)} {z0 : Int} {h0 : AHeap} {L0 : Rws} {b : Nat} (s : AHeap × Int × Nat × Nat) (hs : J13 t m T qs z0 h0 L0 s) :
    W Try.prog (B13 b).S b (.inl (.loop p13_l0)) (e13 t s.2.1 s.2.2.1, s.1) fun e st => e = .ret ∧ ∃ H lk, st = (o13 z0, H) ∧ Tr h0 H L0 (rA t m lk T qs) := by
  refine W_roundsX (C := B13 b) (CU_cw (ks := []) tabsQ) (a := p13_l0) (no_parts rfl) (fun s : AHeap × Int × Nat × Nat => (e13 t s.2.1 s.2.2.1, s.1)) (J13 t m T qs z0 h0 L0) (fun s => s.2.2.2) (fun _ e st => e = .ret ∧ ∃ H lk, st = (o13 z0, H) ∧ Tr h0 H L0 (rA t m lk T qs)) n13 x13 x13 ?_ s hs
  rintro ⟨h, i', n, mm⟩ ⟨lk, T', u, j, rfl, hp, hb, hz, rfl, hsub, hT⟩
  refine ⟨40, ?_⟩
  dsimp only at hp hT ⊢
  cases T' with
  | nil => cases hp
  | node k id l r =>
    simp only [TT.pt, Option.some.injEq, Prod.mk.injEq, and_true] at hp
    subst hp
    simp only [TT.n] at hb
    rw [← at_body]
    have hM := hT.b
    have M0 : Maps h (rC t m lk T.pt [] ++ (rT none T ++ [(m, AObj.map (qs.map ent))])) := hM.perm (by unfold rA rW; rw [List.append_assoc])
    obtain ⟨p0, ht, hl⟩ := look_tr M0
    have T1 := (hl (IntKind.wrap .i64 (lk + 1))).perm (M := rA t m lk T qs) (M' := rA t m (IntKind.wrap .i64 (lk + 1)) T qs) (by unfold rA rW; rw [List.append_assoc]) (by unfold rA rW; rw [List.append_assoc])
    have TT1 := hT.trans T1
    have row : ∀ x ∈ rT u (.node k id l r), (h.set t (trow p0 m (IntKind.wrap .i64 (lk + 1))))[x.1]? = some x.2 := fun x hx => T1.b.row x.1 x.2 (List.mem_append_left _ (List.mem_append_right _ (hsub x hx)))
    have r1 := row _ List.mem_cons_self
    have s1 := size_at (u := some (k, 0)) (T := l) fun x hx => row x (List.mem_cons_of_mem _ (List.mem_append_left _ hx))
    have hln := TT.n_ids l
    simp only [TT.ids] at hz
    refine ⟨lk, fld ht rfl, 58, 3, _, ht, chkI rfl ⟨l.pt, fld r1 rfl, _, s1, askI (fun hc => ?_) (fun hc => askI (fun hd => ?_) (fun hd => ?_))⟩⟩
    · simp only [decide_eq_true_eq] at hc
      rw [List.getElem?_append_left (by omega)] at hz
      cases l with
      | nil => simp only [TT.n] at hc; omega
      | node lk' lid ll lr =>
        refine ⟨lk', 0, fld r1 rfl, ⟨(_, _, lk', (TT.node lk' lid ll lr).n), rfl, ⟨_, .node lk' lid ll lr, some (k, 0), j, rfl, rfl, by omega, hz, rfl, fun x hx => hsub x (List.mem_cons_of_mem _ (List.mem_append_left _ hx)), TT1⟩, ?_, fun _ _ h => h⟩⟩
        show (TT.node lk' lid ll lr).n < (TT.node k id (TT.node lk' lid ll lr) r).n
        simp only [TT.n]; omega
    · simp only [beq_iff_eq] at hd
      have e : j = l.ids.length := by omega
      rw [e, List.getElem?_append_right (Nat.le_refl _), Nat.sub_self, List.getElem?_cons_zero] at hz
      cases hz
      exact ⟨_, fld r1 rfl, rfl, _, _, rfl, TT1⟩
    · simp only [decide_eq_false_iff_not] at hc
      simp only [beq_eq_false_iff_ne, ne_eq] at hd
      rw [List.getElem?_append_right (by omega), show j - l.ids.length = (j - (l.n + 1)) + 1 by omega, List.getElem?_cons_succ] at hz
      have ew : IntKind.wrap .i64 ((j : Int) - IntKind.wrap .i64 (((l.n : Nat) : Int) + 1)) = ((j - (l.n + 1) : Nat) : Int) := by
        have hj : j - (l.n + 1) < r.ids.length := (List.getElem?_eq_some_iff.1 hz).1
        have := TT.n_ids r
        rw [wrap_small (n := ((l.n : Nat) : Int) + 1) (by omega) (by omega), wrap_small (by omega) (by omega)]; omega
      cases r with
      | nil => simp [TT.ids] at hz
      | node rk rid rl rr =>
        refine ⟨rk, 0, fld r1 rfl, ⟨(_, _, rk, (TT.node rk rid rl rr).n), rfl, ⟨_, .node rk rid rl rr, some (k, 0), j - (l.n + 1), ew, rfl, by omega, hz, rfl, fun x hx => hsub x (List.mem_cons_of_mem _ (List.mem_append_right _ hx)), TT1⟩, ?_, fun _ _ h => h⟩⟩
        show (TT.node rk rid rl rr).n < (TT.node k id l (TT.node rk rid rl rr)).n
        simp only [TT.n]; omega
def VIB (a : Int × Bool) : AV := .tup [.int .i64 a.1, .bool a.2]
/-- What At answers. -/
def atR (zs : List Int) (i : Int) : Int × Bool := if i < 0 then (0, false) else match zs[i.toNat]? with
  | some z => (z, true)
  | none => (0, false)
def P13 (vs : List AV) (h : AHeap) (a : Int × Bool) (h' : AHeap) : Prop := ∀ t T m lk qs (i : Int), vs = [.ptr (some (t, 0)), .int .i64 i] → Good T qs → Maps h (rA t m lk T qs) → a = atR T.ids i ∧ ∃ lk', Tr h h' (rA t m lk T qs) (rA t m lk' T qs)
theorem at_can {h : AHeap} {t m : Nat} {lk : Int} {T : TT} {qs : List (Nat × Int)} {i : Int} (g : Good T qs) (hM : Maps h (rA t m lk T qs)) : ComesTo Try.prog 13 VIB P13 [.ptr (some (t, 0)), .int .i64 i] h := by
  suffices hs : ∃ v h', (v = VIB (atR T.ids i) ∧ ∃ lk', Tr h h' (rA t m lk T qs) (rA t m lk' T qs)) ∧ CallSem Try.prog 13 [.ptr (some (t, 0)), .int .i64 i] h v h' by
    obtain ⟨v, h', ⟨rfl, ht⟩, hs⟩ := hs
    refine ⟨_, h', fun t' T' m' lk' qs' i' e g' hM' => ?_, hs⟩
    simp only [List.cons.injEq, AV.ptr.injEq, AV.int.injEq, Option.some.injEq, Prod.mk.injEq, and_true, true_and] at e
    obtain ⟨rfl, rfl⟩ := e
    obtain ⟨rfl, rfl, rfl, rfl⟩ := rA_one hM hM'
    exact ⟨rfl, ht⟩
  have gn := g.n
  have hlen := TT.n_ids T
  have no : atR T.ids i = (0, false) → AV.tup [.int .i64 0, .bool false] = VIB (atR T.ids i) := fun h => by rw [h]; rfl
  by_cases hi : 0 ≤ i ∧ i < T.n
  · obtain ⟨j, rfl⟩ : ∃ j : Nat, i = j := ⟨i.toNat, by omega⟩
    have hj : j < T.ids.length := by omega
    have hz := List.getElem?_eq_getElem hj
    have ea : atR T.ids (j : Int) = (T.ids[j], true) := by
      unfold atR; rw [if_neg (by omega), Int.toNat_natCast, hz]
    refine sem_vc mixed (C := C13l t j (fun H n => ∃ mm, J13 t m T qs T.ids[j] h (rA t m lk T qs) (H, (j : Int), n, mm)) (fun H z => z = T.ids[j] ∧ ∃ lk', Tr h H (rA t m lk T qs) (rA t m lk' T qs))) (SU_ok tabsQ) (CU_q (ks := [])) (CU_cw (ks := []) tabsQ) ht13 c13 ?_ (at_vc h t j _ _ _) ?_
    · refine one_part rfl (part_loop (id := 4) rfl rfl fun st K hT => ?_)
      obtain ⟨H, n, rfl, ⟨mm, hJ⟩, hk⟩ := hT
      refine W_mono (at_loop _ hJ) fun e st hq => ?_
      obtain ⟨rfl, H', lk', rfl, hY⟩ := hq
      exact hk H' _ ⟨rfl, lk', hY⟩
    · cases T with
      | nil => simp only [TT.n] at hi; omega
      | node k id l r =>
        refine ⟨false, rA_none hM, askF (by simp) ⟨_, rA_len g hM, askF (by simp; omega) ⟨k, 0, fld (rA_t hM) rfl, h, k, rfl, ⟨(TT.node k id l r).n, lk, .node k id l r, none, j, rfl, rfl, by omega, hz, rfl, fun x hx => hx, Tr.refl hM⟩, fun H' z hY => ?_⟩⟩⟩
        obtain ⟨rfl, hY⟩ := hY
        exact ⟨by rw [ea]; rfl, hY⟩
  · have ea : atR T.ids i = (0, false) := by
      unfold atR
      split
      · rfl
      · rw [List.getElem?_eq_none (by omega)]
    refine sem_vc mixed (C := C13l t i (fun _ _ => False) (fun _ _ => False)) (SU_ok tabsQ) (CU_q (ks := [])) (CU_cw (ks := []) tabsQ) ht13 c13 ?_ (at_vc h t i _ _ _) ?_
    · refine one_part rfl (part_loop (id := 4) rfl rfl fun st K hT => ?_)
      obtain ⟨H, n, _, hf, _⟩ := hT
      exact hf.elim
    · refine ⟨false, rA_none hM, askI (fun h1 => ?_) (fun h1 => ⟨_, rA_len g hM, askT ?_ ?_⟩)⟩
      · exact ⟨no ea, lk, Tr.refl hM⟩
      · simp only [decide_eq_false_iff_not] at h1
        simp only [ge_iff_le, decide_eq_true_eq]
        omega
      · exact ⟨no ea, lk, Tr.refl hM⟩

end Go.Proofs.Ytncmgbbbekabdaa
