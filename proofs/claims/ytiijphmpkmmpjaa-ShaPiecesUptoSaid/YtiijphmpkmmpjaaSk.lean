/- Written by merging: ShaZm ShaZn ShaZo ShaZp ShaZq ShaZr ShaZs ShaZt. -/
import Derived.Test.YtiijphmpkmmpjaaShaZg
import Derived.Test.YtiijphmpkmmpjaaShaZh
import Derived.Test.YtiijphmpkmmpjaaShaZi
import Derived.Test.YtiijphmpkmmpjaaSh
import Derived.Test.YtiijphmpkmmpjaaShaZj
import Derived.Test.YtiijphmpkmmpjaaShaZk
namespace Go.Proofs.Ytiijphmpkmmpjaa
open Go Go.Am
set_option maxRecDepth 100000
set_option maxHeartbeats 4000000
set_option linter.unusedVariables false
set_option linter.unusedSimpArgs false
/- ShaPieces: its loop. -/
theorem jd_step {d P : List AV} {N m o r c n : Nat} (J : Jd d N m o r c P) (hn : n ≤ r) (hm : P.length < m) (hND : N ≤ d.length) :
    Jd d N m (if n = c then o else o + n * 1) (r - n) (c - n) (P ++ [.sl (some (0, o)) n (.fix c)]) ∧ d.take (N - (r - n)) = d.take (N - r) ++ (d.drop o).take n := by
  obtain ⟨h1, h2, h3, h4, h5, h6, h7⟩ := J
  have e1 : (d.drop o).take n = (d.drop (N - r)).take n := by
    have := congrArg (List.take n) h6
    rwa [List.take_take, List.take_take, Nat.min_eq_left hn] at this
  have e2 : d.take (N - (r - n)) = d.take (N - r) ++ (d.drop o).take n := by
    rw [e1, show N - (r - n) = (N - r) + n by omega, List.take_add]
  refine ⟨⟨by omega, by split <;> omega, by omega, ?_, ?_, ?_, by simp; omega⟩, e2⟩
  · rw [List.all_append, h4]
    simp only [List.all_cons, List.all_nil, cellOK, beq_self_eq_true, Bool.true_and, Bool.and_true, Bool.and_eq_true, decide_eq_true_eq]
    omega
  · rw [e2, ← h5]
    simp [flatP, cont]
  · split
    · rw [show r - n = 0 by omega, List.take_zero, List.take_zero]
    · have := congrArg (List.drop n) h6
      rw [List.drop_take, List.drop_take, List.drop_drop, List.drop_drop] at this
      rw [Nat.mul_one, this, show N - (r - n) = N - r + n by omega]
theorem cut_ok {z : Int} {r : Nat} (h0 : 0 ≤ z) (h1 : z < 256) : ∃ n : Nat, cutE r z = (n : Int) ∧ n ≤ r := by
  have e : IntKind.wrap .i64 z = z := by rw [IntKind.wrap_i64]; omega
  unfold cutE
  rw [e, if_neg (by decide)]
  by_cases hh : (r : Int) < z
  · exact ⟨r, by rw [if_pos hh], Nat.le_refl _⟩
  · exact ⟨z.toNat, by rw [if_neg hh]; omega, by omega⟩
theorem N_wrap {N k : Nat} (hN : N ≤ 16384) (hk : k ≤ N) : IntKind.wrap .i64 ((N : Int) - (k : Int)) = ((N - k : Nat) : Int) := by rw [IntKind.wrap_i64]; omega
theorem x_int : ([.int .u8 120] : List AV).all (isInt .u8) = true := rfl
theorem wZA {h : AHeap} {i j : Nat} {s : Nat → Int} {n : Int} (hi : h[i]? = some (hrow s nilV n)) (hj : h[j]? = some (.ro [.int .u8 120])) (hij : i ≠ j) (hn : 0 ≤ n) (hb : n + 1 ≤ 1152921504606846976) :
    (∃ s' n', framedS 1 sW [.ptr (some (i, 0)), .sl (some (j, 0)) 1 (.rel 0)] h = some (.int .i64 0, h.set i (hrow s' nilV n'))) ∨
    (∃ s' n' k R, R.all (isInt .u8) = true ∧ framedS 1 sW [.ptr (some (i, 0)), .sl (some (j, 0)) 1 (.rel 0)] h = some (.int .i64 0, h.set i (hrow s' (restR h.length k) n') ++ [.row 26 64 R])) := by
  have hw := z_write_fr0 (o := 0) (m := 1) (q := 0) hi hj hij x_int hn (by simpa using hb) (by decide)
  have ha := (absorb_int s (l := (([.int .u8 120] : List AV).drop 0).take 1) rfl).1
  generalize absorb s ((([.int .u8 120] : List AV).drop 0).take 1) = A at *
  obtain ⟨A1, A2⟩ := A
  cases A2 with
  | nil => exact .inl ⟨A1, _, by rw [hw]; simp only [restV, restH, List.append_nil]; rfl⟩
  | cons a l => exact .inr ⟨A1, _, _, R64 (a :: l), R64_ints ha, hw⟩
theorem wZB {h : AHeap} {i j k : Nat} {l : List AV} {s : Nat → Int} {n : Int} (hi : h[i]? = some (hrow s (restR k l.length) n)) (hj : h[j]? = some (.ro [.int .u8 120])) (hk : h[k]? = some (.row 26 64 (R64 l))) (hij : i ≠ j) (hik : i ≠ k) (hjk : j ≠ k) (hl : l.all (isInt .u8) = true) (h0 : 0 < l.length) (h64 : l.length < 64) (hn : 0 ≤ n) (hb : n + 1 ≤ 1152921504606846976) :
    (∃ s' n', framedS 1 sW [.ptr (some (i, 0)), .sl (some (j, 0)) 1 (.rel 0)] h = some (.int .i64 0, h.set i (hrow s' nilV n'))) ∨
    (∃ s' n' k R, R.all (isInt .u8) = true ∧ framedS 1 sW [.ptr (some (i, 0)), .sl (some (j, 0)) 1 (.rel 0)] h = some (.int .i64 0, h.set i (hrow s' (restR h.length k) n') ++ [.row 26 64 R])) := by
  have hw := z_write_frS (o := 0) (m := 1) (q := 0) hi hj hk hij hik hjk x_int hl h0 h64 (by decide) hn (by simpa using hb) (by decide)
  have hx : (l ++ (([.int .u8 120] : List AV).drop 0).take 1).all (isInt .u8) = true := by rw [List.all_append, hl]; rfl
  have ha := (absorb_int s hx).1
  generalize absorb s (l ++ (([.int .u8 120] : List AV).drop 0).take 1) = A at *
  obtain ⟨A1, A2⟩ := A
  cases A2 with
  | nil => exact .inl ⟨A1, _, by rw [hw]; simp only [restV, restH, List.append_nil]; rfl⟩
  | cons a l' => exact .inr ⟨A1, _, _, R64 (a :: l'), R64_ints ha, hw⟩
open Classical in
noncomputable def cs6 (d cs : List AV) (N q : Nat) (at' : Int) (m cc : Nat) (x : (Nat × Nat × Nat) × List AV) : St :=
  if x.2 = [] then st6 N q at' nilV 0 N q m cc 0 (h0 d cs firstI 0)
  else if rL (d.take (N - x.1.2.1)) = [] then st6 N q at' (pc x.2.length) x.1.1 x.1.2.1 x.1.2.2 m cc x.2.length (hA d cs (sL (d.take (N - x.1.2.1))) (d.take (N - x.1.2.1)).length x.2)
  else st6 N q at' (pc x.2.length) x.1.1 x.1.2.1 x.1.2.2 m cc x.2.length (hB d cs (sL (d.take (N - x.1.2.1))) (d.take (N - x.1.2.1)).length x.2 (rL (d.take (N - x.1.2.1))).length (R64 (rL (d.take (N - x.1.2.1)))))
theorem cs6_A {d cs : List AV} {N q : Nat} {at' : Int} {m cc o r c : Nat} {P : List AV} (hP : P ≠ []) (hr : rL (d.take (N - r)) = []) : cs6 d cs N q at' m cc ((o, r, c), P) = st6 N q at' (pc P.length) o r c m cc P.length (hA d cs (sL (d.take (N - r))) (d.take (N - r)).length P) := by
  unfold cs6
  rw [if_neg hP, if_pos hr]
theorem cs6_B {d cs : List AV} {N q : Nat} {at' : Int} {m cc o r c : Nat} {P : List AV} (hP : P ≠ []) (hr : rL (d.take (N - r)) ≠ []) : cs6 d cs N q at' m cc ((o, r, c), P) = st6 N q at' (pc P.length) o r c m cc P.length (hB d cs (sL (d.take (N - r))) (d.take (N - r)).length P (rL (d.take (N - r))).length (R64 (rL (d.take (N - r))))) := by
  unfold cs6
  rw [if_neg hP, if_neg hr]
/-- What is known of bytes and cuts. -/
structure Known (d cs : List AV) (N q m : Nat) : Prop where
  kd : d.all (isInt .u8) = true
  kcs : cs.all (isInt .u8) = true
  cr : ∀ i, i < m → ∃ z : Int, cs[i]? = some (.int .u8 z) ∧ 0 ≤ z ∧ z < 256
  kN : N ≤ 16384
  Nd : N ≤ d.length
  Nq : N ≤ q
  km : m ≤ 1048576
/- ShaPieces: a round of its loop. -/
theorem body0 {d cs : List AV} {N q : Nat} {at' : Int} {m cc o r c : Nat} {P : List AV} (Kn : Known d cs N q m) (J : Jd d N m o r c P) (hP : P = []) (hr : rL (d.take (N - r)) = []) (h0L : (d.take (N - r)) = []) (K : AExit → St → Prop)
    (hx : P.length = m → K (.exit 0) (en6 N q nilV o r c (h0 d cs firstI 0)))
    (hn : ∀ n, n ≤ r → Jd d N m (if n = c then o else o + n * 1) (r - n) (c - n) (P ++ [(.sl (some (0, o)) n (.fix c))]) → P.length < m → K .normal (cs6 d cs N q at' m cc ((if n = c then o else o + n * 1, r - n, c - n), P ++ [(.sl (some (0, o)) n (.fix c))]))) :
    W Try.prog SB6 2 (.inl p6_l0) (st6 N q at' nilV o r c m cc 0 (h0 d cs firstI 0)) K := by
  obtain ⟨kd, kcs, kcr, kN, kNd, kNq, km⟩ := Kn
  have hdx := (oc_ints (b := 2) (t := 5) (z := 1) kd).1
  have hcx := (oc_ints (b := 2) (t := 5) (z := 1) kcs).1
  have hPx := (oc_cells (b := 2) (t := 23) (z := 1) (by decide) J.cells).2
  have hL : (d.take (N - r)).all (isInt .u8) = true := all_sub kd fun v hv => List.mem_of_mem_take hv
  obtain ⟨rc1, rc2⟩ := rL_int hL
  have hR0 := (oc_ints (b := 2) (t := 26) (z := 64) (R64_ints rc1)).2
  have jrN := J.rN
  have jrc := J.rc
  have jol := J.ol
  have len1 : (d.take (N - r)).length = N - r := by rw [List.length_take]; omega
  subst hP
  have e0 := absorb_end (s := firstI) (l := []) (by decide)
  refine W_vcS (C := C6) (tn := tn6) (tx := tx6) cw6_ok (no_parts rfl) (v6b0 d cs N q at' o r c m cc 0 firstI 0 [] 0 0 [] _) ?_
  rcases Nat.lt_or_ge ([] : List AV).length m with him | him
  · obtain ⟨z, hz, z0, z1⟩ := kcr ([] : List AV).length him
    obtain ⟨n, hC, hnr⟩ := cut_ok (r := r) z0 z1
    obtain ⟨J2, eL⟩ := jd_step J hnr him kNd
    have hfin := hn n hnr J2 him
    have hL2 : (d.take (N - (r - n))).all (isInt .u8) = true := all_sub kd fun v hv => List.mem_of_mem_take hv
    obtain ⟨r1, r2⟩ := rL_int hL2
    have len2 : (d.take (N - (r - n))).length = N - (r - n) := by rw [List.length_take]; omega
    have hNw := N_wrap (k := r - n) kN (by omega)
    have hbs : objClosed 2 (.row 23 1 [(.sl (some (0, o)) n (.fix c))]) = true := (oc_cells (j := 0) (d := d) (by decide) (by simp only [List.all_cons, List.all_nil, cellOK, beq_self_eq_true, Bool.true_and, Bool.and_true, Bool.and_eq_true, decide_eq_true_eq]; omega)).2
    have hP1 := (oc_cells (b := 2) (t := 23) (z := 1) (by decide) J2.cells).2
    have hac : ([.sl (some (0, 0)) (Int.toNat (IntKind.wrap .i64 ((N : Int) - ((r - n : Nat) : Int)))) (.fix q)] : List AV).all (cellOK 0 d) = true := by
      rw [hNw, Int.toNat_natCast]
      simp only [List.all_cons, List.all_nil, cellOK, beq_self_eq_true, Bool.true_and, Bool.and_true, Bool.and_eq_true, decide_eq_true_eq]; omega
    have harg := (oc_cells (b := 2) (t := 23) (z := 1) (by decide) hac).2
    have s12 : ∀ (h : AHeap) (k : Nat), h[k]? = some (.row 23 1 [.sl (some (0, 0)) (Int.toNat (IntKind.wrap .i64 ((N : Int) - ((r - n : Nat) : Int)))) (.fix q)]) → h[0]? = some (.ro d) → k ≠ 0 → sum12S [.sl (some (k, 0)) 1 (.rel 0)] h = some (.agg (ints .u8 32 (shaL (d.take (N - (r - n)))))) := by
      intro h k h1 h2 h3
      have ef : flatP d [.sl (some (0, 0)) (Int.toNat (IntKind.wrap .i64 ((N : Int) - ((r - n : Nat) : Int)))) (.fix q)] = (d.take (N - (r - n))) := by
        rw [hNw, Int.toNat_natCast]; simp [flatP, cont]
      have := sum12_at (l := 1) h1 h2 h3 hac (by simp) rfl kd (by decide) (by rw [ef, len2]; omega)
      rwa [ef] at this
    refine askT (by simp; omega) (chkI (by simp; omega) ⟨z, ?_, ?_⟩)
    · show cs[0 + ([] : List AV).length * 1]? = _
      rw [Nat.zero_add, Nat.mul_one]; exact hz
    · rw [hC, Int.toNat_natCast]
      refine chkI (by simp) (chkI (by simp; omega) (chkI (by simp) (chkI (by simp; omega) ?_)))
      obtain ⟨w1, w2⟩ := wA (h := [.ro d, .ro cs, hrow firstI nilV 0, .row 23 1 [(.sl (some (0, o)) n (.fix c))], .row 23 1 [(.sl (some (0, o)) n (.fix c))]]) (i := 2) (j := 0) (o := o) (m := n) (c := c) (d := d) (L := (d.take (N - r))) (by rw [h0L, show sL [] = firstI from congrArg Prod.fst e0]; rfl) hr rfl (by decide) kd (by omega) (by omega) (by rw [len1]; omega)
      rw [← eL] at w1 w2
      by_cases hr2 : rL (d.take (N - (r - n))) = []
      · have hR2 : True := trivial
        refine ⟨true, askT rfl ⟨sL (d.take (N - (r - n))), ((d.take (N - (r - n))).length : Int), w1 hr2, ?_⟩⟩
        refine chkI (by simp) (chkI (by first | (simp; done) | (simp; omega)) ⟨((d.take (N - (r - n))).length : Int), rfl, askF (by rw [hNw, len2]; simp) ⟨shaL (d.take (N - (r - n))), sum_A (L := (d.take (N - (r - n)))) hL2 rfl hr2, chkI (by rw [hNw]; simp) (chkI (by rw [hNw]; simp) ⟨shaL (d.take (N - (r - n))), s12 _ 5 rfl rfl (by decide), askF (by simp [eq32_self]) ?_⟩)⟩⟩)
        by_cases hat : (((([] : List AV).length : Nat) : Int) == IntKind.wrap .i64 at') = true
        · refine askT hat ⟨rfl, ?_⟩
          have hR' : True := trivial
          refine (Or.elim (wZA (s := sL (d.take (N - (r - n)))) (n := ((d.take (N - (r - n))).length : Int)) (i := 2) (j := 7) rfl rfl (by decide) (by omega) (by omega)) (fun ⟨s', n', hw⟩ => ⟨true, askT rfl ⟨s', n', hw, ?_⟩⟩) (fun ⟨s', n', k', R', hRi, hw⟩ => ⟨false, askF rfl ⟨s', n', k', R', hw, ?_⟩⟩))
          · repeat (refine chkI (by first | exact hdx | exact hcx | exact hbs | exact hP1 | exact harg | exact hR0 | exact hR2 | exact hR') ?_)
            rw [cs6_A (by simp) hr2] at hfin
            simp only [List.length_append, List.length_cons, List.length_nil, Nat.zero_add, List.nil_append] at hfin
            rw [wrap_inc (i := 0) him (by omega)]
            exact hfin
          · have hR' := (oc_ints (b := 2) (t := 26) (z := 64) hRi).2
            repeat (refine chkI (by first | exact hdx | exact hcx | exact hbs | exact hP1 | exact harg | exact hR0 | exact hR2 | exact hR') ?_)
            rw [cs6_A (by simp) hr2] at hfin
            simp only [List.length_append, List.length_cons, List.length_nil, Nat.zero_add, List.nil_append] at hfin
            rw [wrap_inc (i := 0) him (by omega)]
            exact hfin
        · refine askF (by simpa using hat) ?_
          have hR' : True := trivial
          repeat (refine chkI (by first | exact hdx | exact hcx | exact hbs | exact hP1 | exact harg | exact hR0 | exact hR2 | exact hR') ?_)
          rw [cs6_A (by simp) hr2] at hfin
          simp only [List.length_append, List.length_cons, List.length_nil, Nat.zero_add, List.nil_append] at hfin
          rw [wrap_inc (i := 0) him (by omega)]
          exact hfin
      · have hR2 := (oc_ints (b := 2) (t := 26) (z := 64) (R64_ints r1)).2
        refine ⟨false, askF rfl ⟨sL (d.take (N - (r - n))), ((d.take (N - (r - n))).length : Int), (rL (d.take (N - (r - n)))).length, R64 (rL (d.take (N - (r - n)))), w2 hr2, ?_⟩⟩
        refine chkI (by simp) (chkI (by first | (simp; done) | (simp; omega)) ⟨((d.take (N - (r - n))).length : Int), rfl, askF (by rw [hNw, len2]; simp) ⟨shaL (d.take (N - (r - n))), sum_B (L := (d.take (N - (r - n)))) (k := 5) hL2 rfl hr2 rfl (by decide), chkI (by rw [hNw]; simp) (chkI (by rw [hNw]; simp) ⟨shaL (d.take (N - (r - n))), s12 _ 6 rfl rfl (by decide), askF (by simp [eq32_self]) ?_⟩)⟩⟩)
        by_cases hat : (((([] : List AV).length : Nat) : Int) == IntKind.wrap .i64 at') = true
        · refine askT hat ⟨rfl, ?_⟩
          have hR' : True := trivial
          refine (Or.elim (wZB (s := sL (d.take (N - (r - n)))) (n := ((d.take (N - (r - n))).length : Int)) (i := 2) (j := 8) (k := 5) (l := rL (d.take (N - (r - n)))) rfl rfl rfl (by decide) (by decide) (by decide) r1 (rl_pos hr2) r2 (by omega) (by omega)) (fun ⟨s', n', hw⟩ => ⟨true, askT rfl ⟨s', n', hw, ?_⟩⟩) (fun ⟨s', n', k', R', hRi, hw⟩ => ⟨false, askF rfl ⟨false, askF rfl ⟨s', n', k', R', hw, ?_⟩⟩⟩))
          · repeat (refine chkI (by first | exact hdx | exact hcx | exact hbs | exact hP1 | exact harg | exact hR0 | exact hR2 | exact hR') ?_)
            rw [cs6_B (by simp) hr2] at hfin
            simp only [List.length_append, List.length_cons, List.length_nil, Nat.zero_add, List.nil_append] at hfin
            rw [wrap_inc (i := 0) him (by omega)]
            exact hfin
          · have hR' := (oc_ints (b := 2) (t := 26) (z := 64) hRi).2
            repeat (refine chkI (by first | exact hdx | exact hcx | exact hbs | exact hP1 | exact harg | exact hR0 | exact hR2 | exact hR') ?_)
            rw [cs6_B (by simp) hr2] at hfin
            simp only [List.length_append, List.length_cons, List.length_nil, Nat.zero_add, List.nil_append] at hfin
            rw [wrap_inc (i := 0) him (by omega)]
            exact hfin
        · refine askF (by simpa using hat) ?_
          have hR' : True := trivial
          repeat (refine chkI (by first | exact hdx | exact hcx | exact hbs | exact hP1 | exact harg | exact hR0 | exact hR2 | exact hR') ?_)
          rw [cs6_B (by simp) hr2] at hfin
          simp only [List.length_append, List.length_cons, List.length_nil, Nat.zero_add, List.nil_append] at hfin
          rw [wrap_inc (i := 0) him (by omega)]
          exact hfin
  · have : ([] : List AV).length = m := by have := J.len; omega
    refine askF (by simp at him; simp [him]) (chkI hdx (chkI hcx (hx this)))
/- ShaPieces: a round of its loop. -/
theorem bodyA {d cs : List AV} {N q : Nat} {at' : Int} {m cc o r c : Nat} {P : List AV} (Kn : Known d cs N q m) (J : Jd d N m o r c P) (hP : P ≠ []) (hr : rL (d.take (N - r)) = []) (K : AExit → St → Prop)
    (hx : P.length = m → K (.exit 0) (en6 N q (pc P.length) o r c (hA d cs (sL (d.take (N - r))) (d.take (N - r)).length P)))
    (hn : ∀ n, n ≤ r → Jd d N m (if n = c then o else o + n * 1) (r - n) (c - n) (P ++ [(.sl (some (0, o)) n (.fix c))]) → P.length < m → K .normal (cs6 d cs N q at' m cc ((if n = c then o else o + n * 1, r - n, c - n), P ++ [(.sl (some (0, o)) n (.fix c))]))) :
    W Try.prog SB6 2 (.inl p6_l0) (st6 N q at' (pc P.length) o r c m cc P.length (hA d cs (sL (d.take (N - r))) (d.take (N - r)).length P)) K := by
  obtain ⟨kd, kcs, kcr, kN, kNd, kNq, km⟩ := Kn
  have hdx := (oc_ints (b := 2) (t := 5) (z := 1) kd).1
  have hcx := (oc_ints (b := 2) (t := 5) (z := 1) kcs).1
  have hPx := (oc_cells (b := 2) (t := 23) (z := 1) (by decide) J.cells).2
  have hL : (d.take (N - r)).all (isInt .u8) = true := all_sub kd fun v hv => List.mem_of_mem_take hv
  obtain ⟨rc1, rc2⟩ := rL_int hL
  have hR0 := (oc_ints (b := 2) (t := 26) (z := 64) (R64_ints rc1)).2
  have jrN := J.rN
  have jrc := J.rc
  have jol := J.ol
  have len1 : (d.take (N - r)).length = N - r := by rw [List.length_take]; omega
  refine W_vcS (C := C6) (tn := tn6) (tx := tx6) cw6_ok (no_parts rfl) (v6bA d cs N q at' o r c m cc P.length (sL (d.take (N - r))) (d.take (N - r)).length P P.length 0 [] _) ?_
  rcases Nat.lt_or_ge P.length m with him | him
  · obtain ⟨z, hz, z0, z1⟩ := kcr P.length him
    obtain ⟨n, hC, hnr⟩ := cut_ok (r := r) z0 z1
    obtain ⟨J2, eL⟩ := jd_step J hnr him kNd
    have hfin := hn n hnr J2 him
    have hL2 : (d.take (N - (r - n))).all (isInt .u8) = true := all_sub kd fun v hv => List.mem_of_mem_take hv
    obtain ⟨r1, r2⟩ := rL_int hL2
    have len2 : (d.take (N - (r - n))).length = N - (r - n) := by rw [List.length_take]; omega
    have hNw := N_wrap (k := r - n) kN (by omega)
    have hbs : objClosed 2 (.row 23 1 [(.sl (some (0, o)) n (.fix c))]) = true := (oc_cells (j := 0) (d := d) (by decide) (by simp only [List.all_cons, List.all_nil, cellOK, beq_self_eq_true, Bool.true_and, Bool.and_true, Bool.and_eq_true, decide_eq_true_eq]; omega)).2
    have hP1 := (oc_cells (b := 2) (t := 23) (z := 1) (by decide) J2.cells).2
    have hac : ([.sl (some (0, 0)) (Int.toNat (IntKind.wrap .i64 ((N : Int) - ((r - n : Nat) : Int)))) (.fix q)] : List AV).all (cellOK 0 d) = true := by
      rw [hNw, Int.toNat_natCast]
      simp only [List.all_cons, List.all_nil, cellOK, beq_self_eq_true, Bool.true_and, Bool.and_true, Bool.and_eq_true, decide_eq_true_eq]; omega
    have harg := (oc_cells (b := 2) (t := 23) (z := 1) (by decide) hac).2
    have s12 : ∀ (h : AHeap) (k : Nat), h[k]? = some (.row 23 1 [.sl (some (0, 0)) (Int.toNat (IntKind.wrap .i64 ((N : Int) - ((r - n : Nat) : Int)))) (.fix q)]) → h[0]? = some (.ro d) → k ≠ 0 → sum12S [.sl (some (k, 0)) 1 (.rel 0)] h = some (.agg (ints .u8 32 (shaL (d.take (N - (r - n)))))) := by
      intro h k h1 h2 h3
      have ef : flatP d [.sl (some (0, 0)) (Int.toNat (IntKind.wrap .i64 ((N : Int) - ((r - n : Nat) : Int)))) (.fix q)] = (d.take (N - (r - n))) := by
        rw [hNw, Int.toNat_natCast]; simp [flatP, cont]
      have := sum12_at (l := 1) h1 h2 h3 hac (by simp) rfl kd (by decide) (by rw [ef, len2]; omega)
      rwa [ef] at this
    refine askT (by simp; omega) (chkI (by simp; omega) ⟨z, ?_, ?_⟩)
    · show cs[0 + P.length * 1]? = _
      rw [Nat.zero_add, Nat.mul_one]; exact hz
    · rw [hC, Int.toNat_natCast]
      refine chkI (by simp) (chkI (by simp; omega) (chkI (by simp) (chkI (by simp; omega) (chkI (by simp; omega) (chkI (by simp) (chkI (by simp; omega) ?_))))))
      obtain ⟨w1, w2⟩ := wA (h := [.ro d, .ro cs, hrow (sL (d.take (N - r))) nilV ((d.take (N - r)).length : Int), .dead, .row 23 1 [(.sl (some (0, o)) n (.fix c))], .row 23 1 (P ++ List.take (1 * 1) (List.drop 0 [(.sl (some (0, o)) n (.fix c))]))]) (i := 2) (j := 0) (o := o) (m := n) (c := c) (d := d) (L := (d.take (N - r))) rfl hr rfl (by decide) kd (by omega) (by omega) (by rw [len1]; omega)
      rw [← eL] at w1 w2
      by_cases hr2 : rL (d.take (N - (r - n))) = []
      · have hR2 : True := trivial
        refine ⟨true, askT rfl ⟨sL (d.take (N - (r - n))), ((d.take (N - (r - n))).length : Int), w1 hr2, ?_⟩⟩
        refine chkI (by simp) (chkI (by first | (simp; done) | (simp; omega)) ⟨((d.take (N - (r - n))).length : Int), rfl, askF (by rw [hNw, len2]; simp) ⟨shaL (d.take (N - (r - n))), sum_A (L := (d.take (N - (r - n)))) hL2 rfl hr2, chkI (by rw [hNw]; simp) (chkI (by rw [hNw]; simp) ⟨shaL (d.take (N - (r - n))), s12 _ 6 rfl rfl (by decide), askF (by simp [eq32_self]) ?_⟩)⟩⟩)
        by_cases hat : (((P.length : Nat) : Int) == IntKind.wrap .i64 at') = true
        · refine askT hat ⟨rfl, ?_⟩
          have hR' : True := trivial
          refine (Or.elim (wZA (s := sL (d.take (N - (r - n)))) (n := ((d.take (N - (r - n))).length : Int)) (i := 2) (j := 8) rfl rfl (by decide) (by omega) (by omega)) (fun ⟨s', n', hw⟩ => ⟨true, askT rfl ⟨s', n', hw, ?_⟩⟩) (fun ⟨s', n', k', R', hRi, hw⟩ => ⟨false, askF rfl ⟨s', n', k', R', hw, ?_⟩⟩))
          · repeat (refine chkI (by first | exact hdx | exact hcx | exact hbs | exact hP1 | exact harg | exact hR0 | exact hR2 | exact hR') ?_)
            rw [cs6_A (by simp) hr2] at hfin
            simp only [List.length_append, List.length_cons, List.length_nil, Nat.zero_add, List.nil_append] at hfin
            rw [wrap_inc him (by omega)]
            exact hfin
          · have hR' := (oc_ints (b := 2) (t := 26) (z := 64) hRi).2
            repeat (refine chkI (by first | exact hdx | exact hcx | exact hbs | exact hP1 | exact harg | exact hR0 | exact hR2 | exact hR') ?_)
            rw [cs6_A (by simp) hr2] at hfin
            simp only [List.length_append, List.length_cons, List.length_nil, Nat.zero_add, List.nil_append] at hfin
            rw [wrap_inc him (by omega)]
            exact hfin
        · refine askF (by simpa using hat) ?_
          have hR' : True := trivial
          repeat (refine chkI (by first | exact hdx | exact hcx | exact hbs | exact hP1 | exact harg | exact hR0 | exact hR2 | exact hR') ?_)
          rw [cs6_A (by simp) hr2] at hfin
          simp only [List.length_append, List.length_cons, List.length_nil, Nat.zero_add, List.nil_append] at hfin
          rw [wrap_inc him (by omega)]
          exact hfin
      · have hR2 := (oc_ints (b := 2) (t := 26) (z := 64) (R64_ints r1)).2
        refine ⟨false, askF rfl ⟨sL (d.take (N - (r - n))), ((d.take (N - (r - n))).length : Int), (rL (d.take (N - (r - n)))).length, R64 (rL (d.take (N - (r - n)))), w2 hr2, ?_⟩⟩
        refine chkI (by simp) (chkI (by first | (simp; done) | (simp; omega)) ⟨((d.take (N - (r - n))).length : Int), rfl, askF (by rw [hNw, len2]; simp) ⟨shaL (d.take (N - (r - n))), sum_B (L := (d.take (N - (r - n)))) (k := 6) hL2 rfl hr2 rfl (by decide), chkI (by rw [hNw]; simp) (chkI (by rw [hNw]; simp) ⟨shaL (d.take (N - (r - n))), s12 _ 7 rfl rfl (by decide), askF (by simp [eq32_self]) ?_⟩)⟩⟩)
        by_cases hat : (((P.length : Nat) : Int) == IntKind.wrap .i64 at') = true
        · refine askT hat ⟨rfl, ?_⟩
          have hR' : True := trivial
          refine (Or.elim (wZB (s := sL (d.take (N - (r - n)))) (n := ((d.take (N - (r - n))).length : Int)) (i := 2) (j := 9) (k := 6) (l := rL (d.take (N - (r - n)))) rfl rfl rfl (by decide) (by decide) (by decide) r1 (rl_pos hr2) r2 (by omega) (by omega)) (fun ⟨s', n', hw⟩ => ⟨true, askT rfl ⟨s', n', hw, ?_⟩⟩) (fun ⟨s', n', k', R', hRi, hw⟩ => ⟨false, askF rfl ⟨false, askF rfl ⟨s', n', k', R', hw, ?_⟩⟩⟩))
          · repeat (refine chkI (by first | exact hdx | exact hcx | exact hbs | exact hP1 | exact harg | exact hR0 | exact hR2 | exact hR') ?_)
            rw [cs6_B (by simp) hr2] at hfin
            simp only [List.length_append, List.length_cons, List.length_nil, Nat.zero_add, List.nil_append] at hfin
            rw [wrap_inc him (by omega)]
            exact hfin
          · have hR' := (oc_ints (b := 2) (t := 26) (z := 64) hRi).2
            repeat (refine chkI (by first | exact hdx | exact hcx | exact hbs | exact hP1 | exact harg | exact hR0 | exact hR2 | exact hR') ?_)
            rw [cs6_B (by simp) hr2] at hfin
            simp only [List.length_append, List.length_cons, List.length_nil, Nat.zero_add, List.nil_append] at hfin
            rw [wrap_inc him (by omega)]
            exact hfin
        · refine askF (by simpa using hat) ?_
          have hR' : True := trivial
          repeat (refine chkI (by first | exact hdx | exact hcx | exact hbs | exact hP1 | exact harg | exact hR0 | exact hR2 | exact hR') ?_)
          rw [cs6_B (by simp) hr2] at hfin
          simp only [List.length_append, List.length_cons, List.length_nil, Nat.zero_add, List.nil_append] at hfin
          rw [wrap_inc him (by omega)]
          exact hfin
  · have : P.length = m := by have := J.len; omega
    refine askF (by simp; omega) (chkI hdx (chkI hcx (chkI hPx (hx this))))
/- ShaPieces: a round of its loop. -/
theorem bodyB {d cs : List AV} {N q : Nat} {at' : Int} {m cc o r c : Nat} {P : List AV} (Kn : Known d cs N q m) (J : Jd d N m o r c P) (hP : P ≠ []) (hr : rL (d.take (N - r)) ≠ []) (K : AExit → St → Prop)
    (hx : P.length = m → K (.exit 0) (en6 N q (pc P.length) o r c (hB d cs (sL (d.take (N - r))) (d.take (N - r)).length P (rL (d.take (N - r))).length (R64 (rL (d.take (N - r)))))))
    (hn : ∀ n, n ≤ r → Jd d N m (if n = c then o else o + n * 1) (r - n) (c - n) (P ++ [(.sl (some (0, o)) n (.fix c))]) → P.length < m → K .normal (cs6 d cs N q at' m cc ((if n = c then o else o + n * 1, r - n, c - n), P ++ [(.sl (some (0, o)) n (.fix c))]))) :
    W Try.prog SB6 2 (.inl p6_l0) (st6 N q at' (pc P.length) o r c m cc P.length (hB d cs (sL (d.take (N - r))) (d.take (N - r)).length P (rL (d.take (N - r))).length (R64 (rL (d.take (N - r)))))) K := by
  obtain ⟨kd, kcs, kcr, kN, kNd, kNq, km⟩ := Kn
  have hdx := (oc_ints (b := 2) (t := 5) (z := 1) kd).1
  have hcx := (oc_ints (b := 2) (t := 5) (z := 1) kcs).1
  have hPx := (oc_cells (b := 2) (t := 23) (z := 1) (by decide) J.cells).2
  have hL : (d.take (N - r)).all (isInt .u8) = true := all_sub kd fun v hv => List.mem_of_mem_take hv
  obtain ⟨rc1, rc2⟩ := rL_int hL
  have hR0 := (oc_ints (b := 2) (t := 26) (z := 64) (R64_ints rc1)).2
  have jrN := J.rN
  have jrc := J.rc
  have jol := J.ol
  have len1 : (d.take (N - r)).length = N - r := by rw [List.length_take]; omega
  refine W_vcS (C := C6) (tn := tn6) (tx := tx6) cw6_ok (no_parts rfl) (v6bB d cs N q at' o r c m cc P.length (sL (d.take (N - r))) (d.take (N - r)).length P P.length (rL (d.take (N - r))).length (R64 (rL (d.take (N - r)))) _) ?_
  rcases Nat.lt_or_ge P.length m with him | him
  · obtain ⟨z, hz, z0, z1⟩ := kcr P.length him
    obtain ⟨n, hC, hnr⟩ := cut_ok (r := r) z0 z1
    obtain ⟨J2, eL⟩ := jd_step J hnr him kNd
    have hfin := hn n hnr J2 him
    have hL2 : (d.take (N - (r - n))).all (isInt .u8) = true := all_sub kd fun v hv => List.mem_of_mem_take hv
    obtain ⟨r1, r2⟩ := rL_int hL2
    have len2 : (d.take (N - (r - n))).length = N - (r - n) := by rw [List.length_take]; omega
    have hNw := N_wrap (k := r - n) kN (by omega)
    have hbs : objClosed 2 (.row 23 1 [(.sl (some (0, o)) n (.fix c))]) = true := (oc_cells (j := 0) (d := d) (by decide) (by simp only [List.all_cons, List.all_nil, cellOK, beq_self_eq_true, Bool.true_and, Bool.and_true, Bool.and_eq_true, decide_eq_true_eq]; omega)).2
    have hP1 := (oc_cells (b := 2) (t := 23) (z := 1) (by decide) J2.cells).2
    have hac : ([.sl (some (0, 0)) (Int.toNat (IntKind.wrap .i64 ((N : Int) - ((r - n : Nat) : Int)))) (.fix q)] : List AV).all (cellOK 0 d) = true := by
      rw [hNw, Int.toNat_natCast]
      simp only [List.all_cons, List.all_nil, cellOK, beq_self_eq_true, Bool.true_and, Bool.and_true, Bool.and_eq_true, decide_eq_true_eq]; omega
    have harg := (oc_cells (b := 2) (t := 23) (z := 1) (by decide) hac).2
    have s12 : ∀ (h : AHeap) (k : Nat), h[k]? = some (.row 23 1 [.sl (some (0, 0)) (Int.toNat (IntKind.wrap .i64 ((N : Int) - ((r - n : Nat) : Int)))) (.fix q)]) → h[0]? = some (.ro d) → k ≠ 0 → sum12S [.sl (some (k, 0)) 1 (.rel 0)] h = some (.agg (ints .u8 32 (shaL (d.take (N - (r - n)))))) := by
      intro h k h1 h2 h3
      have ef : flatP d [.sl (some (0, 0)) (Int.toNat (IntKind.wrap .i64 ((N : Int) - ((r - n : Nat) : Int)))) (.fix q)] = (d.take (N - (r - n))) := by
        rw [hNw, Int.toNat_natCast]; simp [flatP, cont]
      have := sum12_at (l := 1) h1 h2 h3 hac (by simp) rfl kd (by decide) (by rw [ef, len2]; omega)
      rwa [ef] at this
    refine askT (by simp; omega) (chkI (by simp; omega) ⟨z, ?_, ?_⟩)
    · show cs[0 + P.length * 1]? = _
      rw [Nat.zero_add, Nat.mul_one]; exact hz
    · rw [hC, Int.toNat_natCast]
      refine chkI (by simp) (chkI (by simp; omega) (chkI (by simp) (chkI (by simp; omega) (chkI (by simp; omega) (chkI (by simp) (chkI (by simp; omega) ?_))))))
      rcases Nat.eq_zero_or_pos n with h0n | hn0
      · subst h0n
        have eL2 : (d.take (N - (r - 0))) = (d.take (N - r)) := by rw [eL, List.take_zero, List.append_nil]
        have hr2 : rL (d.take (N - (r - 0))) ≠ [] := by rw [eL2]; exact hr
        have hR2 : True := trivial
        have w0 := writey_E (h := [.ro d, .ro cs, hrow (sL (d.take (N - r))) (restR 4 (rL (d.take (N - r))).length) ((d.take (N - r)).length : Int), .dead, .row 26 64 (R64 (rL (d.take (N - r)))), .row 23 1 [(.sl (some (0, o)) 0 (.fix c))], .row 23 1 (P ++ List.take (1 * 1) (List.drop 0 [(.sl (some (0, o)) 0 (.fix c))]))]) (i := 2) (j := 0) (k := 4) (o := o) (q := c) (d := d) (l := rL (d.take (N - r))) rfl rfl rfl (by decide) (by decide) (by decide) kd rc1 (by omega) (by rw [len1]; omega)
        refine ⟨false, askF rfl ⟨true, askT rfl ⟨w0, ?_⟩⟩⟩
        refine chkI (by simp) (chkI (by first | (simp; done) | (simp; omega)) ⟨((d.take (N - r)).length : Int), rfl, askF (by rw [hNw, ← eL2, len2]; simp) ⟨shaL (d.take (N - (r - 0))), (by rw [eL2]; exact sum_B (L := (d.take (N - r))) (k := 4) hL rfl hr rfl (by decide)), chkI (by rw [hNw]; simp) (chkI (by rw [hNw]; simp) ⟨shaL (d.take (N - (r - 0))), s12 _ 7 rfl rfl (by decide), askF (by simp [eq32_self]) ?_⟩)⟩⟩)
        by_cases hat : (((P.length : Nat) : Int) == IntKind.wrap .i64 at') = true
        · refine askT hat ⟨rfl, ?_⟩
          have hR' : True := trivial
          refine (Or.elim (wZB (s := sL (d.take (N - r))) (n := ((d.take (N - r)).length : Int)) (i := 2) (j := 9) (k := 4) (l := rL (d.take (N - r))) rfl rfl rfl (by decide) (by decide) (by decide) rc1 (rl_pos hr) rc2 (by omega) (by omega)) (fun ⟨s', n', hw⟩ => ⟨true, askT rfl ⟨s', n', hw, ?_⟩⟩) (fun ⟨s', n', k', R', hRi, hw⟩ => ⟨false, askF rfl ⟨false, askF rfl ⟨s', n', k', R', hw, ?_⟩⟩⟩))
          · repeat (refine chkI (by first | exact hdx | exact hcx | exact hbs | exact hP1 | exact harg | exact hR0 | exact hR2 | exact hR') ?_)
            rw [cs6_B (by simp) hr2] at hfin
            rw [eL2] at hfin
            simp only [List.length_append, List.length_cons, List.length_nil, Nat.zero_add, List.nil_append] at hfin
            rw [wrap_inc him (by omega)]
            exact hfin
          · have hR' := (oc_ints (b := 2) (t := 26) (z := 64) hRi).2
            repeat (refine chkI (by first | exact hdx | exact hcx | exact hbs | exact hP1 | exact harg | exact hR0 | exact hR2 | exact hR') ?_)
            rw [cs6_B (by simp) hr2] at hfin
            rw [eL2] at hfin
            simp only [List.length_append, List.length_cons, List.length_nil, Nat.zero_add, List.nil_append] at hfin
            rw [wrap_inc him (by omega)]
            exact hfin
        · refine askF (by simpa using hat) ?_
          have hR' : True := trivial
          repeat (refine chkI (by first | exact hdx | exact hcx | exact hbs | exact hP1 | exact harg | exact hR0 | exact hR2 | exact hR') ?_)
          rw [cs6_B (by simp) hr2] at hfin
          rw [eL2] at hfin
          simp only [List.length_append, List.length_cons, List.length_nil, Nat.zero_add, List.nil_append] at hfin
          rw [wrap_inc him (by omega)]
          exact hfin
      · obtain ⟨w1, w2⟩ := wB (h := [.ro d, .ro cs, hrow (sL (d.take (N - r))) (restR 4 (rL (d.take (N - r))).length) ((d.take (N - r)).length : Int), .dead, .row 26 64 (R64 (rL (d.take (N - r)))), .row 23 1 [(.sl (some (0, o)) n (.fix c))], .row 23 1 (P ++ List.take (1 * 1) (List.drop 0 [(.sl (some (0, o)) n (.fix c))]))]) (i := 2) (j := 0) (k := 4) (o := o) (m := n) (c := c) (d := d) (L := (d.take (N - r))) rfl rfl hr hL rfl (by decide) (by decide) (by decide) kd hn0 (by omega) (by omega) (by rw [len1]; omega)
        rw [← eL] at w1 w2
        by_cases hr2 : rL (d.take (N - (r - n))) = []
        · have hR2 : True := trivial
          refine ⟨true, askT rfl ⟨sL (d.take (N - (r - n))), ((d.take (N - (r - n))).length : Int), w1 hr2, ?_⟩⟩
          refine chkI (by simp) (chkI (by first | (simp; done) | (simp; omega)) ⟨((d.take (N - (r - n))).length : Int), rfl, askF (by rw [hNw, len2]; simp) ⟨shaL (d.take (N - (r - n))), sum_A (L := (d.take (N - (r - n)))) hL2 rfl hr2, chkI (by rw [hNw]; simp) (chkI (by rw [hNw]; simp) ⟨shaL (d.take (N - (r - n))), s12 _ 7 rfl rfl (by decide), askF (by simp [eq32_self]) ?_⟩)⟩⟩)
          by_cases hat : (((P.length : Nat) : Int) == IntKind.wrap .i64 at') = true
          · refine askT hat ⟨rfl, ?_⟩
            have hR' : True := trivial
            refine (Or.elim (wZA (s := sL (d.take (N - (r - n)))) (n := ((d.take (N - (r - n))).length : Int)) (i := 2) (j := 9) rfl rfl (by decide) (by omega) (by omega)) (fun ⟨s', n', hw⟩ => ⟨true, askT rfl ⟨s', n', hw, ?_⟩⟩) (fun ⟨s', n', k', R', hRi, hw⟩ => ⟨false, askF rfl ⟨s', n', k', R', hw, ?_⟩⟩))
            · repeat (refine chkI (by first | exact hdx | exact hcx | exact hbs | exact hP1 | exact harg | exact hR0 | exact hR2 | exact hR') ?_)
              rw [cs6_A (by simp) hr2] at hfin
              simp only [List.length_append, List.length_cons, List.length_nil, Nat.zero_add, List.nil_append] at hfin
              rw [wrap_inc him (by omega)]
              exact hfin
            · have hR' := (oc_ints (b := 2) (t := 26) (z := 64) hRi).2
              repeat (refine chkI (by first | exact hdx | exact hcx | exact hbs | exact hP1 | exact harg | exact hR0 | exact hR2 | exact hR') ?_)
              rw [cs6_A (by simp) hr2] at hfin
              simp only [List.length_append, List.length_cons, List.length_nil, Nat.zero_add, List.nil_append] at hfin
              rw [wrap_inc him (by omega)]
              exact hfin
          · refine askF (by simpa using hat) ?_
            have hR' : True := trivial
            repeat (refine chkI (by first | exact hdx | exact hcx | exact hbs | exact hP1 | exact harg | exact hR0 | exact hR2 | exact hR') ?_)
            rw [cs6_A (by simp) hr2] at hfin
            simp only [List.length_append, List.length_cons, List.length_nil, Nat.zero_add, List.nil_append] at hfin
            rw [wrap_inc him (by omega)]
            exact hfin
        · have hR2 := (oc_ints (b := 2) (t := 26) (z := 64) (R64_ints r1)).2
          refine ⟨false, askF rfl ⟨false, askF rfl ⟨sL (d.take (N - (r - n))), ((d.take (N - (r - n))).length : Int), (rL (d.take (N - (r - n)))).length, R64 (rL (d.take (N - (r - n)))), w2 hr2, ?_⟩⟩⟩
          refine chkI (by simp) (chkI (by first | (simp; done) | (simp; omega)) ⟨((d.take (N - (r - n))).length : Int), rfl, askF (by rw [hNw, len2]; simp) ⟨shaL (d.take (N - (r - n))), sum_B (L := (d.take (N - (r - n)))) (k := 7) hL2 rfl hr2 rfl (by decide), chkI (by rw [hNw]; simp) (chkI (by rw [hNw]; simp) ⟨shaL (d.take (N - (r - n))), s12 _ 8 rfl rfl (by decide), askF (by simp [eq32_self]) ?_⟩)⟩⟩)
          by_cases hat : (((P.length : Nat) : Int) == IntKind.wrap .i64 at') = true
          · refine askT hat ⟨rfl, ?_⟩
            have hR' : True := trivial
            refine (Or.elim (wZB (s := sL (d.take (N - (r - n)))) (n := ((d.take (N - (r - n))).length : Int)) (i := 2) (j := 10) (k := 7) (l := rL (d.take (N - (r - n)))) rfl rfl rfl (by decide) (by decide) (by decide) r1 (rl_pos hr2) r2 (by omega) (by omega)) (fun ⟨s', n', hw⟩ => ⟨true, askT rfl ⟨s', n', hw, ?_⟩⟩) (fun ⟨s', n', k', R', hRi, hw⟩ => ⟨false, askF rfl ⟨false, askF rfl ⟨s', n', k', R', hw, ?_⟩⟩⟩))
            · repeat (refine chkI (by first | exact hdx | exact hcx | exact hbs | exact hP1 | exact harg | exact hR0 | exact hR2 | exact hR') ?_)
              rw [cs6_B (by simp) hr2] at hfin
              simp only [List.length_append, List.length_cons, List.length_nil, Nat.zero_add, List.nil_append] at hfin
              rw [wrap_inc him (by omega)]
              exact hfin
            · have hR' := (oc_ints (b := 2) (t := 26) (z := 64) hRi).2
              repeat (refine chkI (by first | exact hdx | exact hcx | exact hbs | exact hP1 | exact harg | exact hR0 | exact hR2 | exact hR') ?_)
              rw [cs6_B (by simp) hr2] at hfin
              simp only [List.length_append, List.length_cons, List.length_nil, Nat.zero_add, List.nil_append] at hfin
              rw [wrap_inc him (by omega)]
              exact hfin
          · refine askF (by simpa using hat) ?_
            have hR' : True := trivial
            repeat (refine chkI (by first | exact hdx | exact hcx | exact hbs | exact hP1 | exact harg | exact hR0 | exact hR2 | exact hR') ?_)
            rw [cs6_B (by simp) hr2] at hfin
            simp only [List.length_append, List.length_cons, List.length_nil, Nat.zero_add, List.nil_append] at hfin
            rw [wrap_inc him (by omega)]
            exact hfin
  · have : P.length = m := by have := J.len; omega
    refine askF (by simp; omega) (chkI hdx (chkI hcx (chkI hPx (chkI hR0 (hx this)))))
/- ShaPieces: its loops, whole. -/
theorem loop6 {d cs : List AV} {N q : Nat} {at' : Int} {m cc : Nat} (Kn : Known d cs N q m) (st : St) (K : AExit → St → Prop) (hT : T8 d cs N q at' m cc st K) : W Try.prog SB6 2 (.inl (.loop p6_l0)) st K := by
  obtain ⟨hst, hK⟩ := hT
  have kNd := Kn.Nd
  have kNq := Kn.Nq
  have e0 := absorb_end (s := firstI) (l := []) (by decide)
  have eS : st = cs6 d cs N q at' m cc ((0, N, q), []) := by
    rw [hst]; unfold cs6; rw [if_pos rfl]
  rw [eS]
  refine W_roundsG (cs6 d cs N q at' m cc) (fun x => Jd d N m x.1.1 x.1.2.1 x.1.2.2 x.2 ∧ (x.2 = [] → x.1.1 = 0 ∧ x.1.2.1 = N ∧ x.1.2.2 = q)) (fun x => m - x.2.length) (fun _ => K) (fun x hI => ?_) ((0, N, q), []) ⟨⟨kNq, by simpa using kNd, Nat.le_refl _, rfl, by simp [flatP], by simp, by simp⟩, fun _ => ⟨rfl, rfl, rfl⟩⟩
  obtain ⟨⟨o, r, c⟩, P⟩ := x
  obtain ⟨J, hz⟩ := hI
  simp only at J hz
  have step : ∀ n, n ≤ r → Jd d N m (if n = c then o else o + n * 1) (r - n) (c - n) (P ++ [.sl (some (0, o)) n (.fix c)]) → P.length < m →
      ∃ s', cs6 d cs N q at' m cc ((if n = c then o else o + n * 1, r - n, c - n), P ++ [.sl (some (0, o)) n (.fix c)]) = cs6 d cs N q at' m cc s' ∧ (Jd d N m s'.1.1 s'.1.2.1 s'.1.2.2 s'.2 ∧ (s'.2 = [] → s'.1.1 = 0 ∧ s'.1.2.1 = N ∧ s'.1.2.2 = q)) ∧ m - s'.2.length < m - P.length ∧ ∀ e st, K e st → K e st :=
    fun n hn J2 hm => ⟨_, rfl, ⟨J2, fun h => absurd h (by simp)⟩, by simp; omega, fun _ _ h => h⟩
  by_cases hP : P = []
  · obtain ⟨rfl, rfl, rfl⟩ := hz hP
    subst hP
    have hL : d.take (r - r) = [] := by rw [Nat.sub_self, List.take_zero]
    refine W_mono (body0 (at' := at') (cc := cc) Kn J rfl (by rw [hL]; exact congrArg Prod.snd e0) hL (fun e st => match e with
      | .normal => ∃ s', st = cs6 d cs r c at' m cc s' ∧ (Jd d r m s'.1.1 s'.1.2.1 s'.1.2.2 s'.2 ∧ (s'.2 = [] → s'.1.1 = 0 ∧ s'.1.2.1 = r ∧ s'.1.2.2 = c)) ∧ m - s'.2.length < m - ([] : List AV).length ∧ ∀ e st, K e st → K e st
      | e => K e st) (fun hm => (askD (hK true)).elim (fun h => h.2 (by simpa using hm.symm)) (fun h => by cases h.1)) step) (fun e st hk => hk)
  · by_cases hr : rL (d.take (N - r)) = []
    · rw [cs6_A hP hr]
      refine W_mono (bodyA (at' := at') (cc := cc) Kn J hP hr (fun e st => match e with
        | .normal => ∃ s', st = cs6 d cs N q at' m cc s' ∧ (Jd d N m s'.1.1 s'.1.2.1 s'.1.2.2 s'.2 ∧ (s'.2 = [] → s'.1.1 = 0 ∧ s'.1.2.1 = N ∧ s'.1.2.2 = q)) ∧ m - s'.2.length < m - P.length ∧ ∀ e st, K e st → K e st
        | e => K e st) (fun hm => (askD (hK false)).elim (fun h => by cases h.1) (fun h => (askD (h.2 o r c P J hP true)).elim (fun h => h.2 hr) (fun h => by cases h.1))) step) (fun e st hk => hk)
    · rw [cs6_B hP hr]
      refine W_mono (bodyB (at' := at') (cc := cc) Kn J hP hr (fun e st => match e with
        | .normal => ∃ s', st = cs6 d cs N q at' m cc s' ∧ (Jd d N m s'.1.1 s'.1.2.1 s'.1.2.2 s'.2 ∧ (s'.2 = [] → s'.1.1 = 0 ∧ s'.1.2.1 = N ∧ s'.1.2.2 = q)) ∧ m - s'.2.length < m - P.length ∧ ∀ e st, K e st → K e st
        | e => K e st) (fun hm => (askD (hK false)).elim (fun h => by cases h.1) (fun h => (askD (h.2 o r c P J hP false)).elim (fun h => by cases h.1) (fun h => h.2 hr))) step) (fun e st hk => hk)
theorem loop6c {d : List AV} {N q : Nat} {at' : Int} (hd : d.all (isInt .u8) = true) (st : St) (K : AExit → St → Prop) (hT : T8c d N q at' st K) : W Try.prog SB6 2 (.inl (.loop p6_l0)) st K := by
  obtain ⟨hst, hK⟩ := hT
  rw [hst]
  refine W_roundsG (fun _ : Unit => sc6 at' (.sl (some (0, 0)) N (.fix q)) (.sl (some (0, 0)) N (.fix q)) 0 [.ro d, .dead, hrow firstI nilV 0]) (fun _ => True) (fun _ => 0) (fun _ => K) (fun i hi => ?_) () trivial
  refine W_vcS (C := C6) (tn := tn6) (tx := tx6) cw6_ok (no_parts rfl) (v6c0 d N q at' 0 _) ?_
  exact askF (by simp) (chkI (oc_ints (b := 2) (t := 5) (z := 1) hd).1 hK)
theorem loop6e {at' : Int} (st : St) (K : AExit → St → Prop) (hT : T8e at' st K) : W Try.prog SB6 2 (.inl (.loop p6_l0)) st K := by
  obtain ⟨hst, hK⟩ := hT
  rw [hst]
  refine W_roundsG (fun _ : Unit => sc6 at' nilV nilV 0 [.dead, .dead, hrow firstI nilV 0]) (fun _ => True) (fun _ => 0) (fun _ => K) (fun i hi => ?_) () trivial
  refine W_vcS (C := C6) (tn := tn6) (tx := tx6) cw6_ok (no_parts rfl) (v6e0 at' 0 _) ?_
  exact askF (by simp) hK
structure KnownN (cs : List AV) (m : Nat) : Prop where
  kcs : cs.all (isInt .u8) = true
  cr : ∀ i, i < m → ∃ z : Int, cs[i]? = some (.int .u8 z) ∧ 0 ≤ z ∧ z < 256
  km : m ≤ 1048576
theorem cut0 {z : Int} (h0 : 0 ≤ z) (h1 : z < 256) : cutE 0 z = 0 := by
  obtain ⟨n, hn, hr⟩ := cut_ok (r := 0) h0 h1
  have : n = 0 := by omega
  subst this
  exact hn
open Classical in
noncomputable def csN (cs : List AV) (at' : Int) (m cc : Nat) (P : List AV) : St :=
  if P = [] then sn6 at' nilV m cc 0 (n0 cs) else sn6 at' (pc P.length) m cc P.length (nA cs P)
theorem sumNil {h : AHeap} {i : Nat} (hi : h[i]? = some (hrow firstI nilV 0)) : sumS [.ptr (some (i, 0))] h = some (.agg (ints .u8 32 (shaL []))) := by
  have e := absorb_end (s := firstI) (l := []) (by decide)
  exact sum_A (L := []) rfl (by rw [hi, show sL [] = firstI from congrArg Prod.fst e]; rfl) (congrArg Prod.snd e)
/- ShaPieces without bytes: a round. -/
theorem bodyN0 {cs : List AV} {at' : Int} {m cc : Nat} {P : List AV} (Kn : KnownN cs m) (hPn : P.all isNilS = true) (hP : P = []) (K : AExit → St → Prop)
    (hx : ([] : List AV).length ≥ m → K (.exit 0) (enN nilV (n0 cs)))
    (hn : ([] : List AV).length < m → K .normal (csN cs at' m cc (([] : List AV) ++ [nilV]))) :
    W Try.prog SB6 2 (.inl p6_l0) (sn6 at' nilV m cc 0 (n0 cs)) K := by
  obtain ⟨kcs, kcr, km⟩ := Kn
  have hcx := (oc_ints (b := 2) (t := 5) (z := 1) kcs).1
  have hPx := (oc_nil (b := 2) (t := 23) (z := 1) hPn).2
  have hP1 : objClosed 2 (.row 23 1 (P ++ [nilV])) = true := (oc_nil (b := 2) (t := 23) (z := 1) (by rw [List.all_append, hPn]; rfl)).2
  subst hP
  refine W_vcS (C := C6) (tn := tn6) (tx := tx6) cw6_ok (no_parts rfl) (v6n0 cs at' m cc 0 ([] : List AV) 0 _) ?_
  rcases Nat.lt_or_ge ([] : List AV).length m with him | him
  · obtain ⟨z, hz, z0, z1⟩ := kcr ([] : List AV).length him
    have hC := cut0 z0 z1
    have hfin := hn him
    have s12 : ∀ (h : AHeap) (k : Nat), h[k]? = some (.row 23 1 [nilV]) → sum12S [.sl (some (k, 0)) 1 (.rel 0)] h = some (.agg (ints .u8 32 (shaL []))) := fun h k h1 => sum12_nil h1 rfl rfl (by decide)
    refine askT (by simp; omega) (chkI (by simp; omega) ⟨z, ?_, ?_⟩)
    · show cs[0 + ([] : List AV).length * 1]? = _
      rw [Nat.zero_add, Nat.mul_one]; exact hz
    · refine chkI (by rw [hC]; rfl) (chkI (by rw [hC]; rfl) (chkI (by rw [hC]; rfl) (chkI (by rw [hC]; rfl) ⟨true, askT rfl ⟨firstI, 0, wN rfl, chkI (by rw [hC]; rfl) (chkI (by rw [hC]; rfl) ⟨0, rfl, askF (by simp) ⟨shaL [], sumNil rfl, ⟨shaL [], s12 _ 5 rfl, askF (by simp [eq32_self]) ?_⟩⟩⟩)⟩⟩)))
      by_cases hat : (((([] : List AV).length : Nat) : Int) == IntKind.wrap .i64 at') = true
      · refine askT hat ⟨rfl, ?_⟩
        have hR' : True := trivial
        refine (Or.elim (wZA (s := firstI) (n := 0) (i := 2) (j := 7) rfl rfl (by decide) (by omega) (by omega)) (fun ⟨s', n', hw⟩ => ⟨true, askT rfl ⟨s', n', hw, ?_⟩⟩) (fun ⟨s', n', k', R', hRi, hw⟩ => ⟨false, askF rfl ⟨s', n', k', R', hw, ?_⟩⟩))
        · repeat (refine chkI (by first | exact hcx | exact hP1 | exact hPx) ?_)
          unfold csN at hfin
          rw [if_neg (by simp)] at hfin
          simp only [List.length_append, List.length_cons, List.length_nil, Nat.zero_add, List.nil_append] at hfin
          rw [wrap_inc (i := 0) him (by omega)]
          exact hfin
        · have hR' := (oc_ints (b := 2) (t := 26) (z := 64) hRi).2
          repeat (refine chkI (by first | exact hcx | exact hP1 | exact hPx | exact hR') ?_)
          unfold csN at hfin
          rw [if_neg (by simp)] at hfin
          simp only [List.length_append, List.length_cons, List.length_nil, Nat.zero_add, List.nil_append] at hfin
          rw [wrap_inc (i := 0) him (by omega)]
          exact hfin
      · refine askF (by simpa using hat) ?_
        repeat (refine chkI (by first | exact hcx | exact hP1 | exact hPx) ?_)
        unfold csN at hfin
        rw [if_neg (by simp)] at hfin
        simp only [List.length_append, List.length_cons, List.length_nil, Nat.zero_add, List.nil_append] at hfin
        rw [wrap_inc (i := 0) him (by omega)]
        exact hfin
  · refine askF (by simp at him; simp [him]) (chkI hcx (hx him))
theorem bodyNA {cs : List AV} {at' : Int} {m cc : Nat} {P : List AV} (Kn : KnownN cs m) (hPn : P.all isNilS = true) (hP : P ≠ []) (K : AExit → St → Prop)
    (hx : P.length ≥ m → K (.exit 0) (enN (pc P.length) (nA cs P)))
    (hn : P.length < m → K .normal (csN cs at' m cc (P ++ [nilV]))) :
    W Try.prog SB6 2 (.inl p6_l0) (sn6 at' (pc P.length) m cc P.length (nA cs P)) K := by
  obtain ⟨kcs, kcr, km⟩ := Kn
  have hcx := (oc_ints (b := 2) (t := 5) (z := 1) kcs).1
  have hPx := (oc_nil (b := 2) (t := 23) (z := 1) hPn).2
  have hP1 : objClosed 2 (.row 23 1 (P ++ [nilV])) = true := (oc_nil (b := 2) (t := 23) (z := 1) (by rw [List.all_append, hPn]; rfl)).2
  refine W_vcS (C := C6) (tn := tn6) (tx := tx6) cw6_ok (no_parts rfl) (v6nA cs at' m cc P.length P P.length _) ?_
  rcases Nat.lt_or_ge P.length m with him | him
  · obtain ⟨z, hz, z0, z1⟩ := kcr P.length him
    have hC := cut0 z0 z1
    have hfin := hn him
    have s12 : ∀ (h : AHeap) (k : Nat), h[k]? = some (.row 23 1 [nilV]) → sum12S [.sl (some (k, 0)) 1 (.rel 0)] h = some (.agg (ints .u8 32 (shaL []))) := fun h k h1 => sum12_nil h1 rfl rfl (by decide)
    refine askT (by simp; omega) (chkI (by simp; omega) ⟨z, ?_, ?_⟩)
    · show cs[0 + P.length * 1]? = _
      rw [Nat.zero_add, Nat.mul_one]; exact hz
    · refine chkI (by rw [hC]; rfl) (chkI (by rw [hC]; rfl) (chkI (by simp) (chkI (by simp; omega) (chkI (by simp; omega) (chkI (by rw [hC]; rfl) (chkI (by rw [hC]; rfl) ⟨true, askT rfl ⟨firstI, 0, wN rfl, chkI (by rw [hC]; rfl) (chkI (by rw [hC]; rfl) ⟨0, rfl, askF (by simp) ⟨shaL [], sumNil rfl, ⟨shaL [], s12 _ 6 rfl, askF (by simp [eq32_self]) ?_⟩⟩⟩)⟩⟩))))))
      by_cases hat : (((P.length : Nat) : Int) == IntKind.wrap .i64 at') = true
      · refine askT hat ⟨rfl, ?_⟩
        have hR' : True := trivial
        refine (Or.elim (wZA (s := firstI) (n := 0) (i := 2) (j := 8) rfl rfl (by decide) (by omega) (by omega)) (fun ⟨s', n', hw⟩ => ⟨true, askT rfl ⟨s', n', hw, ?_⟩⟩) (fun ⟨s', n', k', R', hRi, hw⟩ => ⟨false, askF rfl ⟨s', n', k', R', hw, ?_⟩⟩))
        · repeat (refine chkI (by first | exact hcx | exact hP1 | exact hPx) ?_)
          unfold csN at hfin
          rw [if_neg (by simp)] at hfin
          simp only [List.length_append, List.length_cons, List.length_nil, Nat.zero_add, List.nil_append] at hfin
          rw [wrap_inc him (by omega)]
          exact hfin
        · have hR' := (oc_ints (b := 2) (t := 26) (z := 64) hRi).2
          repeat (refine chkI (by first | exact hcx | exact hP1 | exact hPx | exact hR') ?_)
          unfold csN at hfin
          rw [if_neg (by simp)] at hfin
          simp only [List.length_append, List.length_cons, List.length_nil, Nat.zero_add, List.nil_append] at hfin
          rw [wrap_inc him (by omega)]
          exact hfin
      · refine askF (by simpa using hat) ?_
        repeat (refine chkI (by first | exact hcx | exact hP1 | exact hPx) ?_)
        unfold csN at hfin
        rw [if_neg (by simp)] at hfin
        simp only [List.length_append, List.length_cons, List.length_nil, Nat.zero_add, List.nil_append] at hfin
        rw [wrap_inc him (by omega)]
        exact hfin
  · refine askF (by simp; omega) (chkI hcx (chkI hPx (hx him)))
/- ShaPieces: true. -/
theorem loopN {cs : List AV} {at' : Int} {m cc : Nat} (Kn : KnownN cs m) (st : St) (K : AExit → St → Prop) (hT : T8n cs at' m cc st K) : W Try.prog SB6 2 (.inl (.loop p6_l0)) st K := by
  obtain ⟨hst, hK⟩ := hT
  have eS : st = csN cs at' m cc [] := by
    rw [hst]; unfold csN; rw [if_pos rfl]
  rw [eS]
  refine W_roundsG (csN cs at' m cc) (fun P => P.all isNilS = true ∧ P.length ≤ m) (fun P => m - P.length) (fun _ => K) (fun P hI => ?_) [] ⟨rfl, by simp⟩
  obtain ⟨hP, hPm⟩ := hI
  by_cases h : P = []
  · subst h
    refine W_mono (bodyN0 (at' := at') (cc := cc) Kn (P := []) rfl rfl (fun e st => match e with
      | .normal => ∃ s', st = csN cs at' m cc s' ∧ (s'.all isNilS = true ∧ s'.length ≤ m) ∧ m - s'.length < m - ([] : List AV).length ∧ ∀ e st, K e st → K e st
      | e => K e st) (fun hm => (askD (hK true)).elim (fun h => h.2 (by simpa using hm)) (fun h => by cases h.1)) (fun hm => ⟨[nilV], rfl, ⟨rfl, by simp at hm ⊢; omega⟩, by simp at hm ⊢; omega, fun _ _ h => h⟩)) (fun e st hk => hk)
  · have ec : csN cs at' m cc P = sn6 at' (pc P.length) m cc P.length (nA cs P) := if_neg h
    rw [ec]
    refine W_mono (bodyNA (at' := at') (cc := cc) Kn (P := P) hP h (fun e st => match e with
      | .normal => ∃ s', st = csN cs at' m cc s' ∧ (s'.all isNilS = true ∧ s'.length ≤ m) ∧ m - s'.length < m - P.length ∧ ∀ e st, K e st → K e st
      | e => K e st) (fun hm => (askD (hK false)).elim (fun h => by cases h.1) (fun h2 => h2.2 P hP h hPm)) (fun hm => ⟨P ++ [nilV], rfl, ⟨by rw [List.all_append, hP]; rfl, by simp; omega⟩, by simp; omega, fun _ _ h => h⟩)) (fun e st hk => hk)
theorem parts6 {C : Cfg} (ha : PartOK Try.prog C (.loop p6_l0)) : ∀ x ∈ partsIn p6.body, PartOK Try.prog C x := one_part rfl ha
theorem N_ok {len cap : Nat} (h : len ≤ cap) : (Int.toNat (if 16384 < (len : Int) then 16384 else (len : Int))) ≤ 16384 ∧ (Int.toNat (if 16384 < (len : Int) then 16384 else (len : Int))) ≤ cap := by
  split <;> omega
theorem sem6n {cs : List AV} {m cc : Nat} {at' : Int} (hcs : cs.all (isInt .u8) = true) (hcr : ∀ i, i < m → ∃ z : Int, cs[i]? = some (.int .u8 z) ∧ 0 ≤ z ∧ z < 256) (hm : m ≤ 1048576) :
    ∃ v h', v = .bool true ∧ CallSem Try.prog 6 [nilV, .sl (some (1, 0)) m (.fix cc), .int .u8 at'] [.dead, .ro cs] v h' := by
  have hcx := (oc_ints (b := 2) (t := 5) (z := 1) hcs).1
  have Kn : KnownN cs m := ⟨hcs, hcr, hm⟩
  have s12 : ∀ (h : AHeap) (k : Nat), h[k]? = some (.row 23 1 [nilV]) → sum12S [.sl (some (k, 0)) 1 (.rel 0)] h = some (.agg (ints .u8 32 (shaL []))) := fun h k h1 => sum12_nil h1 rfl rfl (by decide)
  refine sem_vc mixed (C := C6f (T8n cs at' m cc)) SB6_ok SB6_q cw6_ok (show HasText Try.prog 6 Try.f6 from ⟨Try.func6, rfl, by decide⟩) c6 (R := fun v _ => v = .bool true) (parts6 (part_loop (id := 8) rfl rfl fun st K hT => loopN Kn st K hT)) (v6g [] cs 0 0 m cc at' _) ?_
  refine ⟨rfl, rfl, chkI hcx ⟨rfl, fun b => ?_⟩⟩
  cases b with
  | true =>
    refine askT rfl fun hm0 => ?_
    exact ⟨true, askT rfl ⟨firstI, 0, wN rfl, ⟨shaL [], sumNil rfl, ⟨shaL [], s12 _ 5 rfl, askT (by simp [eq32_self]) ⟨shaL [], s12 _ 4 rfl, ⟨shaL [], s12 _ 6 rfl, askT (by simp [eq32_self]) rfl⟩⟩⟩⟩⟩⟩
  | false =>
    refine askF rfl fun P hP hPne hPm => ?_
    refine chkI (by simp) (chkI (by simp; omega) (chkI (by simp; omega) ?_))
    exact ⟨true, askT rfl ⟨firstI, 0, wN rfl, ⟨shaL [], sumNil rfl, ⟨shaL [], s12 _ 6 rfl, askT (by simp [eq32_self]) ⟨shaL [], sum12_nil (P := P ++ [nilV]) (i := 5) rfl (by rw [List.all_append, hP]; rfl) (by simp) (by omega), ⟨shaL [], s12 _ 7 rfl, askT (by simp [eq32_self]) rfl⟩⟩⟩⟩⟩⟩
theorem sem6e {at' : Int} : ∃ v h', v = .bool true ∧ CallSem Try.prog 6 [nilV, nilV, .int .u8 at'] [.dead, .dead] v h' := by
  have s12 : ∀ (h : AHeap) (k : Nat), h[k]? = some (.row 23 1 [nilV]) → sum12S [.sl (some (k, 0)) 1 (.rel 0)] h = some (.agg (ints .u8 32 (shaL []))) := fun h k h1 => sum12_nil h1 rfl rfl (by decide)
  refine sem_vc mixed (C := C6f (T8e at')) SB6_ok SB6_q cw6_ok (show HasText Try.prog 6 Try.f6 from ⟨Try.func6, rfl, by decide⟩) c6 (R := fun v _ => v = .bool true) (parts6 (part_loop (id := 8) rfl rfl fun st K hT => loop6e st K hT)) (v6gc [] [] 0 0 0 0 at' _) ?_
  refine ⟨rfl, rfl, ⟨rfl, ?_⟩⟩
  exact ⟨true, askT rfl ⟨firstI, 0, wN rfl, ⟨shaL [], sumNil rfl, ⟨shaL [], s12 _ 5 rfl, askT (by simp [eq32_self]) ⟨shaL [], s12 _ 4 rfl, ⟨shaL [], s12 _ 6 rfl, askT (by simp [eq32_self]) rfl⟩⟩⟩⟩⟩⟩
/- ShaPieces: true, with bytes. -/
theorem sem6 {d cs : List AV} {len cap m cc : Nat} {at' : Int} (hd : d.all (isInt .u8) = true) (hcs : cs.all (isInt .u8) = true) (hcr : ∀ i, i < m → ∃ z : Int, cs[i]? = some (.int .u8 z) ∧ 0 ≤ z ∧ z < 256) (hlc : len ≤ cap) (hcd : cap ≤ d.length) (hm : m ≤ 1048576) :
    ∃ v h', v = .bool true ∧ CallSem Try.prog 6 [.sl (some (0, 0)) len (.fix cap), .sl (some (1, 0)) m (.fix cc), .int .u8 at'] [.ro d, .ro cs] v h' := by
  have kd := hd
  have hdx := (oc_ints (b := 2) (t := 5) (z := 1) kd).1
  have e0 := absorb_end (s := firstI) (l := []) (by decide)
  obtain ⟨n1, n2⟩ := N_ok hlc
  have hcx := (oc_ints (b := 2) (t := 5) (z := 1) hcs).1
  have Kn : Known d cs (Int.toNat (if 16384 < (len : Int) then 16384 else (len : Int))) cap m := ⟨kd, hcs, hcr, n1, by omega, n2, hm⟩
  refine sem_vc mixed (C := C6f (T8 d cs (Int.toNat (if 16384 < (len : Int) then 16384 else (len : Int))) cap at' m cc)) SB6_ok SB6_q cw6_ok (show HasText Try.prog 6 Try.f6 from ⟨Try.func6, rfl, by decide⟩) c6 (R := fun v _ => v = .bool true) (parts6 (part_loop (id := 8) rfl rfl fun st K hT => loop6 Kn st K hT)) (v6f d cs len cap m cc at' _) ?_
  refine chkI (by simp; split <;> omega) (chkI (by simp; split <;> omega) ⟨rfl, rfl, chkI hdx (chkI hcx ⟨rfl, fun b => ?_⟩)⟩)
  generalize (Int.toNat (if 16384 < (len : Int) then 16384 else (len : Int))) = N at *
  have kNd : N ≤ d.length := by omega
  have hLN : (d.take N).all (isInt .u8) = true := all_sub kd fun v hv => List.mem_of_mem_take hv
  have lenN : (d.take N).length = N := by rw [List.length_take]; omega
  have hac : ([.sl (some (0, 0)) N (.fix cap)] : List AV).all (cellOK 0 d) = true := by
    simp only [List.all_cons, List.all_nil, cellOK, beq_self_eq_true, Bool.true_and, Bool.and_true, Bool.and_eq_true, decide_eq_true_eq]; omega
  have s12 : ∀ (h : AHeap) (k : Nat), h[k]? = some (.row 23 1 [.sl (some (0, 0)) N (.fix cap)]) → h[0]? = some (.ro d) → k ≠ 0 → sum12S [.sl (some (k, 0)) 1 (.rel 0)] h = some (.agg (ints .u8 32 (shaL (d.take N)))) := by
    intro h k h1 h2 h3
    have ef : flatP d [.sl (some (0, 0)) N (.fix cap)] = d.take N := by simp [flatP, cont]
    have := sum12_at (l := 1) h1 h2 h3 hac (by simp) rfl kd (by decide) (by rw [ef, lenN]; omega)
    rwa [ef] at this
  cases b with
  | true =>
    refine askT rfl fun hm0 => ?_
    have sP : ∀ (h : AHeap) (k : Nat), h[k]? = some (.row 23 1 [(.sl (some (0, 0)) N (.fix cap))]) → h[0]? = some (.ro d) → k ≠ 0 → sum12S [.sl (some (k, 0)) 1 (.rel 0)] h = some (.agg (ints .u8 32 (shaL (d.take N)))) := s12
    obtain ⟨w1, w2⟩ := wA (h := [.ro d, .ro cs, hrow (sL []) nilV (([] : List AV).length : Int), .row 23 1 [(.sl (some (0, 0)) N (.fix cap))], .row 23 1 [(.sl (some (0, 0)) N (.fix cap))], .hole, .hole]) (i := 2) (j := 0) (o := 0) (m := N) (c := cap) (d := d) (L := []) rfl (congrArg Prod.snd e0) rfl (by decide) kd (by omega) (by omega) (by simp; omega)
    rw [List.nil_append, List.drop_zero] at w1 w2
    rw [show sL [] = firstI from congrArg Prod.fst e0] at w1 w2
    by_cases hr2 : rL (d.take N) = []
    · exact ⟨true, askT rfl ⟨sL (d.take N), ((d.take N).length : Int), w1 hr2, ⟨shaL (d.take N), sum_A (L := (d.take N)) hLN rfl hr2, ⟨shaL (d.take N), s12 _ 5 rfl rfl (by decide), askT (by simp [eq32_self]) ⟨shaL (d.take N), sP _ 4 rfl rfl (by decide), ⟨shaL (d.take N), s12 _ 6 rfl rfl (by decide), askT (by simp [eq32_self]) rfl⟩⟩⟩⟩⟩⟩
    · exact ⟨false, askF rfl ⟨sL (d.take N), ((d.take N).length : Int), (rL (d.take N)).length, R64 (rL (d.take N)), w2 hr2, ⟨shaL (d.take N), sum_B (L := (d.take N)) (k := 7) hLN rfl hr2 rfl (by decide), ⟨shaL (d.take N), s12 _ 5 rfl rfl (by decide), askT (by simp [eq32_self]) ⟨shaL (d.take N), sP _ 4 rfl rfl (by decide), ⟨shaL (d.take N), s12 _ 6 rfl rfl (by decide), askT (by simp [eq32_self]) rfl⟩⟩⟩⟩⟩⟩
  | false =>
    refine askF rfl fun o r c P J hPne b2 => ?_
    cases b2 with
    | true =>
      refine askT rfl fun hr => ?_
      have J1 : Jd d N (m + 1) o r c P := ⟨J.rc, J.ol, J.rN, J.cells, J.flat, J.rest, by have := J.len; omega⟩
      obtain ⟨J2, eL⟩ := jd_step J1 (Nat.le_refl r) (by have := J.len; omega) kNd
      rw [Nat.sub_self, Nat.sub_zero] at eL
      have jrN := J.rN
      have jrc := J.rc
      have jol := J.ol
      have jlen := J.len
      have fP := J2.flat
      rw [Nat.sub_self, Nat.sub_zero] at fP
      have hL : (d.take (N - r)).all (isInt .u8) = true := all_sub kd fun v hv => List.mem_of_mem_take hv
      have len1 : (d.take (N - r)).length = N - r := by rw [List.length_take]; omega
      have sP : ∀ (h : AHeap) (k : Nat), h[k]? = some (.row 23 1 (P ++ [(.sl (some (0, o)) r (.fix c))])) → h[0]? = some (.ro d) → k ≠ 0 → sum12S [.sl (some (k, 0)) (P.length + 1) (.rel 0)] h = some (.agg (ints .u8 32 (shaL (d.take N)))) := by
        intro h k h1 h2 h3
        have := sum12_at (l := P.length + 1) h1 h2 h3 J2.cells (by simp) (by simp) kd (by omega) (by rw [fP, lenN]; omega)
        rwa [fP] at this
      refine chkI (by simp) (chkI (by simp; omega) (chkI (by simp; omega) ?_))
      obtain ⟨w1, w2⟩ := wA (h := [.ro d, .ro cs, hrow (sL (d.take (N - r))) nilV ((d.take (N - r)).length : Int), .dead, .row 23 1 [(.sl (some (0, o)) r (.fix c))], .row 23 1 (P ++ List.take (1 * 1) (List.drop 0 [(.sl (some (0, o)) r (.fix c))])), .hole, .hole]) (i := 2) (j := 0) (o := o) (m := r) (c := c) (d := d) (L := (d.take (N - r))) rfl hr rfl (by decide) kd jrc jol (by rw [len1]; omega)
      rw [← eL] at w1 w2
      by_cases hr2 : rL (d.take N) = []
      · exact ⟨true, askT rfl ⟨sL (d.take N), ((d.take N).length : Int), w1 hr2, ⟨shaL (d.take N), sum_A (L := (d.take N)) hLN rfl hr2, ⟨shaL (d.take N), s12 _ 6 rfl rfl (by decide), askT (by simp [eq32_self]) ⟨shaL (d.take N), sP _ 5 rfl rfl (by decide), ⟨shaL (d.take N), s12 _ 7 rfl rfl (by decide), askT (by simp [eq32_self]) rfl⟩⟩⟩⟩⟩⟩
      · exact ⟨false, askF rfl ⟨sL (d.take N), ((d.take N).length : Int), (rL (d.take N)).length, R64 (rL (d.take N)), w2 hr2, ⟨shaL (d.take N), sum_B (L := (d.take N)) (k := 8) hLN rfl hr2 rfl (by decide), ⟨shaL (d.take N), s12 _ 6 rfl rfl (by decide), askT (by simp [eq32_self]) ⟨shaL (d.take N), sP _ 5 rfl rfl (by decide), ⟨shaL (d.take N), s12 _ 7 rfl rfl (by decide), askT (by simp [eq32_self]) rfl⟩⟩⟩⟩⟩⟩
    | false =>
      refine askF rfl fun hr => ?_
      have J1 : Jd d N (m + 1) o r c P := ⟨J.rc, J.ol, J.rN, J.cells, J.flat, J.rest, by have := J.len; omega⟩
      obtain ⟨J2, eL⟩ := jd_step J1 (Nat.le_refl r) (by have := J.len; omega) kNd
      rw [Nat.sub_self, Nat.sub_zero] at eL
      have jrN := J.rN
      have jrc := J.rc
      have jol := J.ol
      have jlen := J.len
      have fP := J2.flat
      rw [Nat.sub_self, Nat.sub_zero] at fP
      have hL : (d.take (N - r)).all (isInt .u8) = true := all_sub kd fun v hv => List.mem_of_mem_take hv
      have len1 : (d.take (N - r)).length = N - r := by rw [List.length_take]; omega
      have sP : ∀ (h : AHeap) (k : Nat), h[k]? = some (.row 23 1 (P ++ [(.sl (some (0, o)) r (.fix c))])) → h[0]? = some (.ro d) → k ≠ 0 → sum12S [.sl (some (k, 0)) (P.length + 1) (.rel 0)] h = some (.agg (ints .u8 32 (shaL (d.take N)))) := by
        intro h k h1 h2 h3
        have := sum12_at (l := P.length + 1) h1 h2 h3 J2.cells (by simp) (by simp) kd (by omega) (by rw [fP, lenN]; omega)
        rwa [fP] at this
      refine chkI (by simp) (chkI (by simp; omega) (chkI (by simp; omega) ?_))
      obtain ⟨rc1, rc2⟩ := rL_int hL
      rcases Nat.eq_zero_or_pos r with h0r | hr0
      · have eL2 : (d.take (N - r)) = d.take N := by rw [h0r, Nat.sub_zero]
        have w0 := writey_E (h := [.ro d, .ro cs, hrow (sL (d.take (N - r))) (restR 4 (rL (d.take (N - r))).length) ((d.take (N - r)).length : Int), .dead, .row 26 64 (R64 (rL (d.take (N - r)))), .row 23 1 [(.sl (some (0, o)) r (.fix c))], .row 23 1 (P ++ List.take (1 * 1) (List.drop 0 [(.sl (some (0, o)) r (.fix c))])), .hole, .hole]) (i := 2) (j := 0) (k := 4) (o := o) (q := c) (d := d) (l := rL (d.take (N - r))) rfl rfl rfl (by decide) (by decide) (by decide) kd rc1 (by omega) (by rw [len1]; omega)
        have w0' : ∀ r', r' = 0 → framedS 1 sW [.ptr (some (2, 0)), .sl (some (0, o)) r' (.fix c)] [.ro d, .ro cs, hrow (sL (d.take (N - r))) (restR 4 (rL (d.take (N - r))).length) ((d.take (N - r)).length : Int), .dead, .row 26 64 (R64 (rL (d.take (N - r)))), .row 23 1 [(.sl (some (0, o)) r (.fix c))], .row 23 1 (P ++ List.take (1 * 1) (List.drop 0 [(.sl (some (0, o)) r (.fix c))])), .hole, .hole] = some (.int .i64 0, [.ro d, .ro cs, hrow (sL (d.take (N - r))) (restR 4 (rL (d.take (N - r))).length) ((d.take (N - r)).length : Int), .dead, .row 26 64 (R64 (rL (d.take (N - r)))), .row 23 1 [(.sl (some (0, o)) r (.fix c))], .row 23 1 (P ++ List.take (1 * 1) (List.drop 0 [(.sl (some (0, o)) r (.fix c))])), .hole, .hole]) := fun r' e => by rw [e]; exact w0
        exact ⟨false, askF rfl ⟨true, askT rfl ⟨w0' r h0r, ⟨shaL (d.take N), (by rw [← eL2]; exact sum_B (L := (d.take (N - r))) (k := 4) hL rfl hr rfl (by decide)), ⟨shaL (d.take N), s12 _ 7 rfl rfl (by decide), askT (by simp [eq32_self]) ⟨shaL (d.take N), sP _ 6 rfl rfl (by decide), ⟨shaL (d.take N), s12 _ 8 rfl rfl (by decide), askT (by simp [eq32_self]) rfl⟩⟩⟩⟩⟩⟩⟩
      · obtain ⟨w1, w2⟩ := wB (h := [.ro d, .ro cs, hrow (sL (d.take (N - r))) (restR 4 (rL (d.take (N - r))).length) ((d.take (N - r)).length : Int), .dead, .row 26 64 (R64 (rL (d.take (N - r)))), .row 23 1 [(.sl (some (0, o)) r (.fix c))], .row 23 1 (P ++ List.take (1 * 1) (List.drop 0 [(.sl (some (0, o)) r (.fix c))])), .hole, .hole]) (i := 2) (j := 0) (k := 4) (o := o) (m := r) (c := c) (d := d) (L := (d.take (N - r))) rfl rfl hr hL rfl (by decide) (by decide) (by decide) kd hr0 jrc jol (by rw [len1]; omega)
        rw [← eL] at w1 w2
        by_cases hr2 : rL (d.take N) = []
        · exact ⟨true, askT rfl ⟨sL (d.take N), ((d.take N).length : Int), w1 hr2, ⟨shaL (d.take N), sum_A (L := (d.take N)) hLN rfl hr2, ⟨shaL (d.take N), s12 _ 7 rfl rfl (by decide), askT (by simp [eq32_self]) ⟨shaL (d.take N), sP _ 6 rfl rfl (by decide), ⟨shaL (d.take N), s12 _ 8 rfl rfl (by decide), askT (by simp [eq32_self]) rfl⟩⟩⟩⟩⟩⟩
        · exact ⟨false, askF rfl ⟨false, askF rfl ⟨sL (d.take N), ((d.take N).length : Int), (rL (d.take N)).length, R64 (rL (d.take N)), w2 hr2, ⟨shaL (d.take N), sum_B (L := (d.take N)) (k := 9) hLN rfl hr2 rfl (by decide), ⟨shaL (d.take N), s12 _ 7 rfl rfl (by decide), askT (by simp [eq32_self]) ⟨shaL (d.take N), sP _ 6 rfl rfl (by decide), ⟨shaL (d.take N), s12 _ 8 rfl rfl (by decide), askT (by simp [eq32_self]) rfl⟩⟩⟩⟩⟩⟩⟩
theorem sem6c {d : List AV} {len cap : Nat} {at' : Int} (hd : d.all (isInt .u8) = true) (hlc : len ≤ cap) (hcd : cap ≤ d.length) :
    ∃ v h', v = .bool true ∧ CallSem Try.prog 6 [.sl (some (0, 0)) len (.fix cap), nilV, .int .u8 at'] [.ro d, .dead] v h' := by
  have kd := hd
  have hdx := (oc_ints (b := 2) (t := 5) (z := 1) kd).1
  have e0 := absorb_end (s := firstI) (l := []) (by decide)
  obtain ⟨n1, n2⟩ := N_ok hlc
  refine sem_vc mixed (C := C6f (T8c d (Int.toNat (if 16384 < (len : Int) then 16384 else (len : Int))) cap at')) SB6_ok SB6_q cw6_ok (show HasText Try.prog 6 Try.f6 from ⟨Try.func6, rfl, by decide⟩) c6 (R := fun v _ => v = .bool true) (parts6 (part_loop (id := 8) rfl rfl fun st K hT => loop6c hd st K hT)) (v6fc d [] len cap 0 0 at' _) ?_
  refine chkI (by simp; split <;> omega) (chkI (by simp; split <;> omega) ⟨rfl, rfl, chkI hdx ⟨rfl, ?_⟩⟩)
  generalize (Int.toNat (if 16384 < (len : Int) then 16384 else (len : Int))) = N at *
  have kNd : N ≤ d.length := by omega
  have hLN : (d.take N).all (isInt .u8) = true := all_sub kd fun v hv => List.mem_of_mem_take hv
  have lenN : (d.take N).length = N := by rw [List.length_take]; omega
  have hac : ([.sl (some (0, 0)) N (.fix cap)] : List AV).all (cellOK 0 d) = true := by
    simp only [List.all_cons, List.all_nil, cellOK, beq_self_eq_true, Bool.true_and, Bool.and_true, Bool.and_eq_true, decide_eq_true_eq]; omega
  have s12 : ∀ (h : AHeap) (k : Nat), h[k]? = some (.row 23 1 [.sl (some (0, 0)) N (.fix cap)]) → h[0]? = some (.ro d) → k ≠ 0 → sum12S [.sl (some (k, 0)) 1 (.rel 0)] h = some (.agg (ints .u8 32 (shaL (d.take N)))) := by
    intro h k h1 h2 h3
    have ef : flatP d [.sl (some (0, 0)) N (.fix cap)] = d.take N := by simp [flatP, cont]
    have := sum12_at (l := 1) h1 h2 h3 hac (by simp) rfl kd (by decide) (by rw [ef, lenN]; omega)
    rwa [ef] at this
  have sP : ∀ (h : AHeap) (k : Nat), h[k]? = some (.row 23 1 [(.sl (some (0, 0)) N (.fix cap))]) → h[0]? = some (.ro d) → k ≠ 0 → sum12S [.sl (some (k, 0)) 1 (.rel 0)] h = some (.agg (ints .u8 32 (shaL (d.take N)))) := s12
  obtain ⟨w1, w2⟩ := wA (h := [.ro d, .dead, hrow (sL []) nilV (([] : List AV).length : Int), .row 23 1 [(.sl (some (0, 0)) N (.fix cap))], .row 23 1 [(.sl (some (0, 0)) N (.fix cap))], .hole, .hole]) (i := 2) (j := 0) (o := 0) (m := N) (c := cap) (d := d) (L := []) rfl (congrArg Prod.snd e0) rfl (by decide) kd (by omega) (by omega) (by simp; omega)
  rw [List.nil_append, List.drop_zero] at w1 w2
  rw [show sL [] = firstI from congrArg Prod.fst e0] at w1 w2
  by_cases hr2 : rL (d.take N) = []
  · exact ⟨true, askT rfl ⟨sL (d.take N), ((d.take N).length : Int), w1 hr2, ⟨shaL (d.take N), sum_A (L := (d.take N)) hLN rfl hr2, ⟨shaL (d.take N), s12 _ 5 rfl rfl (by decide), askT (by simp [eq32_self]) ⟨shaL (d.take N), sP _ 4 rfl rfl (by decide), ⟨shaL (d.take N), s12 _ 6 rfl rfl (by decide), askT (by simp [eq32_self]) rfl⟩⟩⟩⟩⟩⟩
  · exact ⟨false, askF rfl ⟨sL (d.take N), ((d.take N).length : Int), (rL (d.take N)).length, R64 (rL (d.take N)), w2 hr2, ⟨shaL (d.take N), sum_B (L := (d.take N)) (k := 7) hLN rfl hr2 rfl (by decide), ⟨shaL (d.take N), s12 _ 5 rfl rfl (by decide), askT (by simp [eq32_self]) ⟨shaL (d.take N), sP _ 4 rfl rfl (by decide), ⟨shaL (d.take N), s12 _ 6 rfl rfl (by decide), askT (by simp [eq32_self]) rfl⟩⟩⟩⟩⟩⟩

end Go.Proofs.Ytiijphmpkmmpjaa
