import Derived.Test.YtiijphmpkmmpjaaShaWm
namespace Go.Proofs.Ytiijphmpkmmpjaa
open Go Go.Am
set_option maxRecDepth 100000
set_option linter.unusedVariables false
set_option linter.unusedSimpArgs false
/- The document's sum, as a run over a row that is only read. -/

def F13 (id : Nat) : Tidy := if id = 4 || id = 12 then ⟨keepT 56 [2, 3, 4, 5], .auto⟩ else ⟨[], .all⟩
noncomputable def SB3 : Specs := mkS Q q5 (fun g => match g with
  | 16 => some (freshS (padF F16 p16))
  | _ => none)
def hp13 (bs al : List AV) (s : Nat → Int) : AHeap := [.ro bs, .row 30 32 (z3 .u8 32), .row 5 1 al, .row 25 8 (ints .u32 8 s)]
def restAt : PC → Nat → PC
  | c, 0 => c
  | .seq _ b, n + 1 => restAt b n
  | c, _ => c
def tailP2 (c : PC) : PC := match restOf c with
  | .seq _ t => t
  | c => c
def CG (bs al : List AV) (M : Nat) (z : Int) (s : Nat → Int) : St := ([.any, .any, .ptr (some (1, 0)), .sl (some (2, 0)) M (.rel 0), .ptr (some (3, 0)), .int .i64 z, .any, .any, .any, .any, .any, .any, .any, .any, .any, .any, .any, .any, .any, .any, .any, .any, .any, .any, .any, .any, .any, .any, .any, .any, .any, .any, .any, .any, .any, .any, .any, .any, .any, .any, .any, .any, .any, .any, .any, .any, .any, .any, .any, .any, .any, .any, .any, .any, .any, .any], hp13 bs al s)
def wI (z : Int) (k : Nat) : Int := IntKind.i64.wrap (z + (k : Int))
def xI (al : List AV) (z : Int) (k : Nat) : Int := dec al (0 + (wI z k).toNat * 1)
def cg1 (bs al : List AV) (M : Nat) (z : Int) : List Bool := [bs.all (isInt .u8), al.all (isInt .u8), bs.all (isInt .u8), al.all (isInt .u8), decide (IntKind.i64.wrap (z + 64) ≤ (M : Int)) == true] ++
  (List.range 64).flatMap (fun k => [decide (0 ≤ wI z k), decide (wI z k < (M : Int)), decide (0 + (wI z k).toNat * 1 < al.length), al.all (isInt .u8)] ++ trW 4) ++ trW 4
def outR (s : Nat → Int) (j : Nat) : Int := IntKind.u8.wrap ((s (j / 4)).fdiv (2 ^ min (24 - 8 * (j % 4)) IntKind.u32.bits))
theorem g0 (bs pd : List AV) (m c L : Nat) : (evVg Try.prog SB3 (sy0 [0, 2, 3, 4]) (cvE [(16, ([.int .i64 m], [.ro bs, .row 30 32 (z3 .u8 32), .row 5 1 ((bs.drop 0).take (m * 1)), .hole]), (.sl (some (4, 0)) L (.rel 0), [.ro bs, .row 30 32 (z3 .u8 32), .row 5 1 ((bs.drop 0).take (m * 1)), .hole, .row 5 1 pd]))]) 1 F13 60 (.inl (headTo p13.body)) ([.sl (some (0, 0)) m (.fix c), .any, .any, .any, .any, .any, .any, .any, .any, .any, .any, .any, .any, .any, .any, .any, .any, .any, .any, .any, .any, .any, .any, .any, .any, .any, .any, .any, .any, .any, .any, .any, .any, .any, .any, .any, .any, .any, .any, .any, .any, .any, .any, .any, .any, .any, .any, .any, .any, .any, .any, .any, .any, .any, .any, .any], [.ro bs]) [.is false]).map (fun r => (r.1.1, (tidyV (sy0 [0, 2, 3, 4]) 1 (F13 4) r.1.2).1, (tidyV (sy0 [0, 2, 3, 4]) 1 (F13 4) r.1.2).2, r.2.2)) = some (.normal, CG bs ((bs.drop 0).take (m * 1) ++ (pd.drop 0).take (L * 1)) (m + L) 0 firstI, [bs.all (isInt .u8), ((bs.drop 0).take (m * 1) ++ (pd.drop 0).take (L * 1)).all (isInt .u8), pd.all (isInt .u8), bs.all (isInt .u8), ((bs.drop 0).take (m * 1) ++ (pd.drop 0).take (L * 1)).all (isInt .u8)], [decide (0 + m * 1 ≤ bs.length), List.all (List.take (m * 1) (List.drop 0 bs)) AV.one, !decide (m = 0), decide (m * 1 ≤ 140737488355328), decide (m ≤ 9223372036854775807), sameH ([.int .i64 m], [.ro bs, .row 30 32 (z3 .u8 32), .row 5 1 ((bs.drop 0).take (m * 1)), .hole]) ([.int .i64 m], [.ro bs, .row 30 32 (z3 .u8 32), .row 5 1 ((bs.drop 0).take (m * 1)), .hole]), decide (0 + L * 1 ≤ pd.length), List.all (List.take (L * 1) (List.drop 0 pd)) AV.one, true, true, decide (List.length (List.take (m * 1) (List.drop 0 bs)) = m * 1), decide ((m + L) * 1 ≤ 140737488355328), decide (m + L ≤ 9223372036854775807), true, true]) := by kernel_rfl
theorem g1 (bs al : List AV) (M : Nat) (z : Int) (s : Nat → Int) : (evVg Try.prog SB3 (sy0 [0, 2]) cvB 1 F13 100 (.inl p13_l2) (CG bs al M z s) (.is true :: List.replicate 65 .lit)).map (fun r => (r.1.1, (tidyV (sy0 [0, 2]) 1 (F13 4) r.1.2).1, (tidyV (sy0 [0, 2]) 1 (F13 4) r.1.2).2, r.2.2)) = some (.normal, CG bs al M (IntKind.i64.wrap (z + 64)) (BL s (ints .u8 64 (xI al z))), [bs.all (isInt .u8), al.all (isInt .u8), bs.all (isInt .u8), al.all (isInt .u8)], cg1 bs al M z) := by kernel_rfl
theorem g2 (bs al : List AV) (M : Nat) (z : Int) (s : Nat → Int) : (evVg Try.prog SB3 (sy0 [0, 2]) cvB 1 F13 60 (.inl p13_l2) (CG bs al M z s) [.is false]).map (fun r => (r.1.1, (tidyV (sy0 [0, 2]) 1 (F13 4) r.1.2).1, (tidyV (sy0 [0, 2]) 1 (F13 4) r.1.2).2, r.2.2)) = some (.exit 0, CG bs al M z s, [bs.all (isInt .u8), al.all (isInt .u8), bs.all (isInt .u8), al.all (isInt .u8)], [bs.all (isInt .u8), al.all (isInt .u8), bs.all (isInt .u8), al.all (isInt .u8), decide (IntKind.i64.wrap (z + 64) ≤ (M : Int)) == false]) := by kernel_rfl
theorem CGtidy (bs al : List AV) (M : Nat) (z : Int) (s : Nat → Int) : ((tidyV (sy0 [0, 2]) 1 (F13 4) (CG bs al M z s)).1, (tidyV (sy0 [0, 2]) 1 (F13 4) (CG bs al M z s)).2) = (CG bs al M z s, [bs.all (isInt .u8), al.all (isInt .u8), bs.all (isInt .u8), al.all (isInt .u8)]) := by kernel_rfl

/- The document's sum: its loop, and the whole. -/

theorem g3 (bs al : List AV) (M : Nat) (z : Int) (s : Nat → Int) : (evVg Try.prog SB3 (sy0 [0, 2]) noCV 1 F13 100 (.inl (tailP2 p13.body)) (CG bs al M z s) (List.replicate 33 .lit)).map (fun r => (r.1.1, ((p13.results.mapM (resultA Try.prog r.1.2)).map fun vs => match vs with | [v] => v | vs => .tup vs), r.2.2)) = some (.ret, some (.agg (ints .u8 32 (outR s))), [bs.all (isInt .u8), al.all (isInt .u8), bs.all (isInt .u8), al.all (isInt .u8)] ++ trW 194) := by kernel_rfl
theorem SB3_ok : SB3.OK Try.prog := mkS_ok quietText q5_ok (fun g s h => by
  split at h
  · cases h; exact pad16_full
  · cases h)
theorem SB3_q : ∀ g, (SB3.q g).isSome = Q g := fun g => mkS_isSome g
theorem cvB3_ok : cvB.OK SB3 := fun g vs h r c hg hc => by
  unfold cvB at hg
  split at hg
  all_goals
    first
    | (unfold blockC at hg
       split at hg
       · rename_i s l
         cases hg
         simp only [List.all_cons, List.all_nil, id, Bool.and_true] at hc
         show (blockS [.agg s, .agg l]).map (·, h) = _
         simp only [blockS, hc, if_true, Option.map_some]
       · cases hg)
    | cases hg
theorem S3_16 (vs : List AV) (h : AHeap) : (match SB3.q 16 with | some sp => (sp vs h).map (·, h) | none => (SB3.f 16).bind fun sp => sp vs h) = freshS (padF F16 p16) vs h := rfl
theorem wI_eq {z k : Nat} (h : z + k ≤ 9000000) : wI (z : Int) k = ((z + k : Nat) : Int) := by unfold wI; rw [IntKind.wrap_i64]; omega
theorem xI_eq {al : List AV} {z : Nat} (hal : al.all (isInt .u8) = true) (h : z + 64 ≤ al.length) (hb : al.length ≤ 100000) : ints .u8 64 (xI al (z : Int)) = (al.drop z).take 64 := by
  apply List.ext_getElem?
  intro k
  rcases Nat.lt_or_ge k 64 with q | q
  · rw [List.getElem?_take_of_lt q, List.getElem?_drop]
    have hlt : z + k < al.length := by omega
    rw [List.getElem?_eq_getElem hlt]
    have := List.all_eq_true.1 hal al[z + k] (List.getElem_mem hlt)
    unfold ints
    rw [List.getElem?_map, List.getElem?_range q]
    simp only [Option.map_some, xI, wI_eq (show z + k ≤ 9000000 by omega), Int.toNat_natCast, Nat.zero_add, Nat.mul_one, dec, List.getElem?_eq_getElem hlt]
    generalize al[z + k] = y at this
    cases y <;> first | cases this | skip
    rename_i kk m
    have hk : kk = .u8 := by simpa [isInt] using this
    subst hk
    rfl
  · rw [List.getElem?_eq_none (by rw [ints_length]; exact q), List.getElem?_eq_none (by simp; omega)]
theorem cg1_ok {bs al : List AV} {z : Nat} (hbs : bs.all (isInt .u8) = true) (hal : al.all (isInt .u8) = true) (h : z + 64 ≤ al.length) (hb : al.length ≤ 100000) : (cg1 bs al al.length (z : Int)).all id = true := by
  have e : IntKind.i64.wrap ((z : Int) + 64) = ((z + 64 : Nat) : Int) := by rw [IntKind.wrap_i64]; omega
  simp only [cg1, List.all_append, Bool.and_eq_true, trW_ok, and_true]
  refine ⟨?_, ?_⟩
  · rw [e]
    simp only [hbs, hal, List.all_cons, List.all_nil, id, Bool.and_true, Bool.true_and, beq_iff_eq, decide_eq_true_eq]
    omega
  · rw [List.all_flatMap, List.all_eq_true]
    intro k hk
    have hk := List.mem_range.1 hk
    simp only [List.all_append, trW_ok, Bool.and_true, wI_eq (show z + k ≤ 9000000 by omega), Int.toNat_natCast, hal, List.all_cons, List.all_nil, id, Bool.and_eq_true, decide_eq_true_eq]
    omega
theorem refL (bs al : List AV) (hbs : bs.all (isInt .u8) = true) (hal : al.all (isInt .u8) = true) (hb : al.length ≤ 100000) : ∀ (f z : Nat) (s : Nat → Int), z + 64 * f = al.length →
    ∃ N st' z', evG Try.prog SB3 1 F13 N (.inl (.loop p13_l2)) (CG bs al al.length (z : Int) s) = some (.exit 0, st') ∧ tidy 1 (F13 4) st' = CG bs al al.length z' (absorb s (al.drop z)).1 := by
  intro f
  induction f with
  | zero =>
    intro z s hz
    have h := g2 bs al al.length (z : Int) s
    simp only [Option.map_eq_some_iff] at h
    obtain ⟨⟨⟨e, st'⟩, hs', cl⟩, a1, a2⟩ := h
    simp only [Prod.mk.injEq] at a2
    obtain ⟨rfl, a3, a4, rfl⟩ := a2
    have ew : IntKind.i64.wrap ((z : Int) + 64) = ((z + 64 : Nat) : Int) := by rw [IntKind.wrap_i64]; omega
    have hev := evVg_ok _ _ _ _ cvB3_ok _ _ a1 (by
      rw [ew]
      simp only [hbs, hal, List.all_cons, List.all_nil, id, Bool.and_true, Bool.true_and, beq_iff_eq, decide_eq_false_iff_not]
      omega)
    have ht := tidyV_ok (sy := sy0 [0, 2]) (b := 1) (t := F13 4) (st := st') (by rw [a4]; simp [hbs, hal])
    rw [a3] at ht
    refine ⟨61, st', (z : Int), loop_stopg hev (fun h => by cases h), ?_⟩
    rw [ht, absorb_end (by simp; omega)]
  | succ f ih =>
    intro z s hz
    have h := g1 bs al al.length (z : Int) s
    simp only [Option.map_eq_some_iff] at h
    obtain ⟨⟨⟨e, st'⟩, hs', cl⟩, a1, a2⟩ := h
    simp only [Prod.mk.injEq] at a2
    obtain ⟨rfl, a3, a4, rfl⟩ := a2
    have hev := evVg_ok _ _ _ _ cvB3_ok _ _ a1 (cg1_ok hbs hal (by omega) hb)
    have ht := tidyV_ok (sy := sy0 [0, 2]) (b := 1) (t := F13 4) (st := st') (by rw [a4]; simp [hbs, hal])
    have ew : IntKind.i64.wrap ((z : Int) + 64) = ((z + 64 : Nat) : Int) := by rw [IntKind.wrap_i64]; omega
    rw [a3, xI_eq hal (by omega) hb, ew] at ht
    have hc := CGtidy bs al al.length ((z + 64 : Nat) : Int) (BL s ((al.drop z).take 64))
    simp only [Prod.mk.injEq] at hc
    have ht2 := tidyV_ok (sy := sy0 [0, 2]) (b := 1) (t := F13 4) (st := CG bs al al.length ((z + 64 : Nat) : Int) (BL s ((al.drop z).take 64))) (by rw [hc.2]; simp [hbs, hal])
    rw [hc.1] at ht2
    obtain ⟨N, st2, z', b1, b2⟩ := ih (z + 64) (BL s ((al.drop z).take 64)) (by omega)
    refine ⟨max 100 N + 1, st2, z', loop_nextg (id := 4) rfl (evG_le hev (by omega)) (ht.trans ht2.symm) (evG_le b1 (by omega)), ?_⟩
    rw [b2, absorb_more (s := s) (l := al.drop z) (by simp; omega), List.drop_drop]
theorem ref13_run (bs : List AV) (hbs : bs.all (isInt .u8) = true) (c : Nat) (h0 : 0 < bs.length) (h3 : bs.length ≤ 65536) :
    ∃ N h', runG Try.prog SB3 F13 N p13 [.sl (some (0, 0)) bs.length (.fix c)] [.ro bs] = some (.agg (ints .u8 32 (outR (absorb firstI (bs ++ padL (bs.length : Int))).1)), h') := by
  obtain ⟨p1, p2⟩ := padL_ok (bs.length : Int)
  have hj : padJ (bs.length : Int) = ((119 - (bs.length : Int) % 64) % 64).toNat := rfl
  have h := g0 bs (padL (bs.length : Int)) bs.length c (padL (bs.length : Int)).length
  simp only [Option.map_eq_some_iff] at h
  obtain ⟨⟨⟨e, st'⟩, hs', cl⟩, a1, a2⟩ := h
  simp only [Prod.mk.injEq] at a2
  obtain ⟨rfl, a3, a4, rfl⟩ := a2
  have e15 := pad16_eq (bs.length : Int) (by omega) [.ro bs, .row 30 32 (z3 .u8 32), .row 5 1 ((bs.drop 0).take (bs.length * 1)), .hole]
  rw [← p1] at e15
  have e16 : freshS (padF F16 p16) [.int .i64 (bs.length : Int)] [.ro bs, .row 30 32 (z3 .u8 32), .row 5 1 ((bs.drop 0).take (bs.length * 1)), .hole] = some (.sl (some (4, 0)) (padL (bs.length : Int)).length (.rel 0), [.ro bs, .row 30 32 (z3 .u8 32), .row 5 1 ((bs.drop 0).take (bs.length * 1)), .hole, .row 5 1 (padL (bs.length : Int))]) := e15
  have al : (bs.drop 0).take (bs.length * 1) ++ ((padL (bs.length : Int)).drop 0).take ((padL (bs.length : Int)).length * 1) = bs ++ padL (bs.length : Int) := by
    rw [List.drop_zero, List.drop_zero, Nat.mul_one, Nat.mul_one, List.take_length, List.take_length]
  have hai : (bs ++ padL (bs.length : Int)).all (isInt .u8) = true := by rw [List.all_append, hbs, p2]; rfl
  have hev := evVg_ok _ _ _ _ (cvE_ok (S := SB3) (fun e he => by
      rw [List.mem_singleton] at he
      subst he
      exact (S3_16 _ _).trans e16)) _ _ a1 (by
    have o1 : List.all (List.take (bs.length * 1) (List.drop 0 bs)) AV.one = true := ints_one (k := .u8) (all_sub hbs fun v hv => List.mem_of_mem_drop (List.mem_of_mem_take hv))
    have o2 : List.all (List.take ((padL (bs.length : Int)).length * 1) (List.drop 0 (padL (bs.length : Int)))) AV.one = true := ints_one (k := .u8) (all_sub p2 fun v hv => List.mem_of_mem_drop (List.mem_of_mem_take hv))
    have hne : bs ≠ [] := fun h => by rw [h] at h0; simp at h0
    simp only [o1, o2, sameH_self, List.all_cons, List.all_nil, id, Bool.and_true, Bool.true_and, Bool.and_eq_true, decide_eq_true_eq, Bool.not_eq_true', decide_eq_false_iff_not]
    simp [hne]
    omega)
  have ht := tidyV_ok (sy := sy0 [0, 2, 3, 4]) (b := 1) (t := F13 4) (st := st') (by rw [a4, al]; simp only [hbs, hai, p2, List.all_cons, List.all_nil, id, Bool.and_self])
  rw [a3, al, ← List.length_append] at ht
  have hM : (bs ++ padL (bs.length : Int)).length = bs.length + (padJ (bs.length : Int) + 9) := by rw [List.length_append, p1]
  obtain ⟨f, hf⟩ : ∃ f, 0 + 64 * f = (bs ++ padL (bs.length : Int)).length := ⟨(bs ++ padL (bs.length : Int)).length / 64, by rw [hM, hj]; omega⟩
  obtain ⟨N, st2, z', b1, b2⟩ := refL bs (bs ++ padL (bs.length : Int)) hbs hai (by rw [hM, hj]; omega) f 0 firstI hf
  have hc := CGtidy bs (bs ++ padL (bs.length : Int)) (bs ++ padL (bs.length : Int)).length ((0 : Nat) : Int) firstI
  simp only [Prod.mk.injEq] at hc
  have ht2 := tidyV_ok (sy := sy0 [0, 2]) (b := 1) (t := F13 4) (st := CG bs (bs ++ padL (bs.length : Int)) (bs ++ padL (bs.length : Int)).length ((0 : Nat) : Int) firstI) (by rw [hc.2]; simp only [hbs, hai, List.all_cons, List.all_nil, id, Bool.and_self])
  rw [hc.1] at ht2
  have hl := (ev_tidy (P := Try.prog) (S := SB3) N (pc := .loop p13_l2) (id := 4) rfl (ht.trans ht2.symm)).trans b1
  have h3' := g3 bs (bs ++ padL (bs.length : Int)) (bs ++ padL (bs.length : Int)).length z' (absorb firstI ((bs ++ padL (bs.length : Int)).drop 0)).1
  simp only [Option.map_eq_some_iff] at h3'
  obtain ⟨⟨⟨e, st3⟩, hs3, cl3⟩, d1, d2⟩ := h3'
  simp only [Prod.mk.injEq] at d2
  obtain ⟨rfl, d3, rfl⟩ := d2
  have hev3 := evVg_ok _ _ _ _ (noCV_ok _) _ _ d1 (by simp only [hbs, hai, trW_ok, List.all_append, List.all_cons, List.all_nil, id, Bool.and_self])
  have hc2 := CGtidy bs (bs ++ padL (bs.length : Int)) (bs ++ padL (bs.length : Int)).length z' (absorb firstI ((bs ++ padL (bs.length : Int)).drop 0)).1
  simp only [Prod.mk.injEq] at hc2
  have ht3 := tidyV_ok (sy := sy0 [0, 2]) (b := 1) (t := F13 4) (st := CG bs (bs ++ padL (bs.length : Int)) (bs ++ padL (bs.length : Int)).length z' (absorb firstI ((bs ++ padL (bs.length : Int)).drop 0)).1) (by rw [hc2.2]; simp only [hbs, hai, List.all_cons, List.all_nil, id, Bool.and_self])
  rw [hc2.1] at ht3
  have htl := (ev_tidy (P := Try.prog) (S := SB3) (F := F13) (b0 := 1) (id := 12) 100 (pc := tailP2 p13.body) (st := st2) (st2 := CG bs (bs ++ padL (bs.length : Int)) (bs ++ padL (bs.length : Int)).length z' (absorb firstI ((bs ++ padL (bs.length : Int)).drop 0)).1) rfl (show tidy 1 (F13 4) st2 = tidy 1 (F13 4) _ from b2.trans ht3.symm)).trans hev3
  obtain ⟨k, hk⟩ := headTo_rung p13.body hev (seq_rung (n := max N 100 + 1) (evG_le (block_stopg hl) (by omega)) (evG_le htl (by omega)))
  rw [List.drop_zero] at d3
  exact ⟨k, _, runG_ret hk d3⟩
end Go.Proofs.Ytiijphmpkmmpjaa
