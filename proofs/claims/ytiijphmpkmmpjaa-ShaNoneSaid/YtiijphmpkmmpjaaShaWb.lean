/- Taking what came in: (*Hash).takes over a row that is only read. -/
import Derived.Test.YtiijphmpkmmpjaaShaWa
namespace Go.Proofs.Ytiijphmpkmmpjaa
open Go Go.Am
set_option maxRecDepth 100000
set_option linter.unusedVariables false
set_option linter.unusedSimpArgs false

def BL (s : Nat → Int) (l : List AV) : Nat → Int := blockI (dec (ints .u32 8 s)) (wordsW (dec l))
def blockC (args : List AV) (h : AHeap) : Option ((AV × AHeap) × List Bool) := match args with
  | [.agg s, .agg l] => some ((.agg (ints .u32 8 (blockI (dec s) (wordsW (dec l)))), h), [isInts .u32 8 s, isInts .u8 64 l])
  | _ => none
def cvB : CV := fun g args h => match g with
  | 10 => blockC args h
  | 11 => blockC args h
  | _ => none
def keepT (n : Nat) (l : List Nat) : List Nat := (List.range n).filter fun i => !l.contains i
def F36 (id : Nat) : Tidy := if id = 0 then ⟨keepT 71 [0, 1], .auto⟩ else ⟨[], .all⟩
abbrev sy0 (l : List Nat) : Sy := fun k => if l.contains k then some .u8 else none
/-- A hash's row. -/
abbrev hrow (s : Nat → Int) (rest : AV) (n : Int) : AObj := .row 47 11 ([.bool true] ++ ints .u32 8 s ++ [rest, .int .i64 n])
noncomputable def SB0 : Specs := mkS Q (fun g => match g with
  | 9 => some fun args _ => begunS args
  | 10 => some fun args _ => blockS args
  | 11 => some fun args _ => blockS args
  | _ => none) (fun _ => none)
theorem SB0_ok : SB0.OK Try.prog := mkS_ok quietText (fun g s _ h => by
  split at h
  · cases h; exact begun_okS
  · cases h; exact block_ok
  · cases h; exact rblock_ok
  · cases h) (fun _ _ h => by cases h)
theorem SB0_q : ∀ g, (SB0.q g).isSome = Q g := fun g => mkS_isSome g
theorem cvB_ok : cvB.OK SB0 := fun g vs h r c hg hc => by
  unfold cvB at hg
  split at hg
  all_goals
    first
    | (unfold blockC at hg
       split at hg
       · rename_i s l
         cases hg
         simp only [List.all_cons, List.all_nil, id, Bool.and_true] at hc
         show (blockS [.agg s, .agg l]).map (·, h) = _
         simp only [blockS, hc, if_true, Option.map_some]
       · cases hg)
    | cases hg
/-- Blocks taken from a message; what is left over. -/
def absorb (s : Nat → Int) (l : List AV) : (Nat → Int) × List AV :=
  if h : 64 ≤ l.length then absorb (BL s (l.take 64)) (l.drop 64) else (s, l)
termination_by l.length
decreasing_by simp; omega
theorem absorb_more {s : Nat → Int} {l : List AV} (h : 64 ≤ l.length) : absorb s l = absorb (BL s (l.take 64)) (l.drop 64) := by
  rw [absorb, dif_pos h]
theorem absorb_end {s : Nat → Int} {l : List AV} (h : l.length < 64) : absorb s l = (s, l) := by
  rw [absorb, dif_neg (by omega)]
def R64 (l : List AV) : List AV := spliceA (z3 .u8 64) 0 l
def restV (k : Nat) : List AV → AV
  | [] => .sl none 0 (.fix 0)
  | a :: l => .sl (some (k, 0)) (a :: l).length (.fix 64)
def restH : List AV → AHeap
  | [] => []
  | a :: l => [.row 26 64 (R64 (a :: l))]
def hpA (cs : List AV) (m0 c0 : Nat) (s : Nat → Int) (rest : AV) (n : Int) : AHeap := [.ro cs, .row 23 1 [.sl (some (0, 0)) m0 (.fix c0)], .row 30 32 (z3 .u8 32), hrow s rest n]
def CA (cs : List AV) (m0 c0 o m c : Nat) (s : Nat → Int) (n : Int) : St := ([.ptr (some (3, 0)), .sl (some (0, o)) m (.fix c), .any, .any, .any, .any, .any, .any, .any, .any, .any, .any, .any, .any, .any, .any, .any, .any, .any, .any, .any, .any, .any, .any, .any, .any, .any, .any, .any, .any, .any, .any, .any, .any, .any, .any, .any, .any, .any, .any, .any, .any, .any, .any, .any, .any, .any, .any, .any, .any, .any, .any, .any, .any, .any, .any, .any, .any, .any, .any, .any, .any, .any, .any, .any, .any, .any, .any, .any, .any, .any], hpA cs m0 c0 s (.sl none 0 (.fix 0)) n)
theorem tA0 (cs : List AV) (m0 c0 o m c : Nat) (s : Nat → Int) (n : Int) : (evVg Try.prog SB0 (sy0 [0]) cvB 4 F36 60 (.inl p36_l0) (CA cs m0 c0 o m c s n) [Hint.is false]).map (fun r => (r.1.1, r.1.2.2, r.2.2)) = some (.exit 0, hpA cs m0 c0 s (.sl none 0 (.fix 0)) n, [List.all cs (isInt IntKind.u8), List.all cs (isInt IntKind.u8), decide ((↑m : Int) > 0) == false]) := by kernel_rfl
theorem tA1 (cs : List AV) (m0 c0 o m c : Nat) (s : Nat → Int) (n : Int) : (evVg Try.prog SB0 (sy0 [0]) cvB 4 F36 60 (.inl p36_l0) (CA cs m0 c0 o m c s n) [Hint.is true, Hint.lit, Hint.is true]).map (fun r => (r.1.1, (tidyV (sy0 [0]) 4 (F36 0) r.1.2).1, (tidyV (sy0 [0]) 4 (F36 0) r.1.2).2, r.2.2)) = some (.normal, CA cs m0 c0 (if 64 = c then o else o + 64 * 1) (m - 64) (c - 64) (BL s ((cs.drop o).take 64)) n, [cs.all (isInt .u8), cs.all (isInt .u8)], [List.all cs (isInt IntKind.u8), List.all cs (isInt IntKind.u8), decide ((↑m : Int) > 0) == true, decide ((↑m : Int) ≥ 64) == true, true, decide (64 ≤ (↑m : Int)), true, true, decide (o + 64 ≤ List.length cs), true, isInts IntKind.u8 64 (List.take 64 (List.drop o cs)), true, true, true, decide (64 ≤ (↑m : Int))]) := by kernel_rfl
theorem tA2 (cs : List AV) (m0 c0 o m c : Nat) (s : Nat → Int) (n : Int) : (evVg Try.prog SB0 (sy0 [0]) cvB 4 F36 60 (.inl p36_l0) (CA cs m0 c0 o m c s n) [Hint.is true, Hint.lit, Hint.is false, Hint.is true]).map (fun r => (r.1.1, r.1.2.2, r.2.2)) = some (.ret, hpA cs m0 c0 s (.sl (some (4, 0)) (Int.toNat (IntKind.wrap .i64 (0 + ((min m 64 : Nat) : Int)))) (.fix 64)) n ++ [.row 26 64 (R64 (List.take (min m 64 * 1) (List.take (m * 1) (List.drop o cs))))], [List.all cs (isInt IntKind.u8), List.all cs (isInt IntKind.u8), decide ((↑m : Int) > 0) == true, decide ((↑m : Int) ≥ 64) == false, true, true, true, true, true, decide (o + m * 1 ≤ List.length cs), List.all (List.take (m * 1) (List.drop o cs)) AV.one, decide (0 + min m 64 * 1 ≤ List.length (z3 .u8 64)), true, decide ((↑(min m 64) : Int) ≤ (↑m : Int)), decide (IntKind.wrap IntKind.i64 (0 + (↑(min m 64) : Int)) < 64) == true, decide (0 ≤ IntKind.wrap IntKind.i64 (0 + (↑(min m 64) : Int))), decide (IntKind.wrap IntKind.i64 (0 + (↑(min m 64) : Int)) ≤ (↑64 : Int)), true, true, true]) := by kernel_rfl
theorem CAtidy (cs : List AV) (m0 c0 o m c : Nat) (s : Nat → Int) (n : Int) : ((tidyV (sy0 [0]) 4 (F36 0) (CA cs m0 c0 o m c s n)).1, (tidyV (sy0 [0]) 4 (F36 0) (CA cs m0 c0 o m c s n)).2) = (CA cs m0 c0 o m c s n, [cs.all (isInt .u8), cs.all (isInt .u8)]) := by kernel_rfl
theorem takeA_loop (cs : List AV) (hcs : cs.all (isInt .u8) = true) (m0 c0 : Nat) (n : Int) : ∀ (f o m c : Nat) (s : Nat → Int), m ≤ f → o + m ≤ cs.length → m ≤ c →
    ∃ N e st', evG Try.prog SB0 4 F36 N (.inl (.loop p36_l0)) (CA cs m0 c0 o m c s n) = some (e, st') ∧ (e = .exit 0 ∨ e = .ret) ∧
      st'.2 = hpA cs m0 c0 (absorb s ((cs.drop o).take m)).1 (restV 4 (absorb s ((cs.drop o).take m)).2) n ++ restH (absorb s ((cs.drop o).take m)).2 := by
  intro f
  induction f with
  | zero =>
    intro o m c s h1 h2 h3
    obtain rfl : m = 0 := by omega
    have h := tA0 cs m0 c0 o 0 c s n
    simp only [Option.map_eq_some_iff] at h
    obtain ⟨⟨⟨e, st'⟩, hs', cl⟩, a1, a2⟩ := h
    simp only [Prod.mk.injEq] at a2
    obtain ⟨rfl, a3, rfl⟩ := a2
    refine ⟨_, _, st', loop_stopg (evVg_ok _ _ _ _ cvB_ok _ _ a1 (by simp [hcs])) (fun h => by cases h), .inl rfl, ?_⟩
    rw [a3, List.take_zero, absorb_end (by simp)]
    simp [restV, restH]
  | succ f ih =>
    intro o m c s h1 h2 h3
    have hl : ((cs.drop o).take m).length = m := by simp; omega
    rcases Nat.eq_zero_or_pos m with rfl | hpos
    · exact ih o 0 c s (by omega) h2 h3
    · rcases Nat.lt_or_ge m 64 with q | q
      · have h := tA2 cs m0 c0 o m c s n
        simp only [Option.map_eq_some_iff] at h
        obtain ⟨⟨⟨e, st'⟩, hs', cl⟩, a1, a2⟩ := h
        simp only [Prod.mk.injEq] at a2
        obtain ⟨rfl, a3, rfl⟩ := a2
        have ew : IntKind.wrap .i64 (0 + ((min m 64 : Nat) : Int)) = (m : Int) := by rw [IntKind.wrap_i64]; omega
        have hone : List.all (List.take (m * 1) (List.drop o cs)) AV.one = true := by
          rw [List.all_eq_true] at hcs ⊢
          intro v hv
          have := hcs v (List.mem_of_mem_drop (List.mem_of_mem_take hv))
          cases v <;> first | rfl | cases this
        refine ⟨_, _, st', loop_stopg (evVg_ok _ _ _ _ cvB_ok _ _ a1 ?_) (fun h => by cases h), .inr rfl, ?_⟩
        · rw [ew]
          simp only [hcs, hone, z3, ints_length, List.all_cons, List.all_nil, id, Bool.and_true, Bool.and_eq_true, decide_eq_true_eq, beq_iff_eq, decide_eq_false_iff_not]
          simp
          omega
        · rw [a3, ew, absorb_end (by rw [hl]; exact q)]
          have e1 : List.take (min m 64 * 1) (List.take (m * 1) (List.drop o cs)) = (cs.drop o).take m := by
            rw [Nat.mul_one, Nat.mul_one, Nat.min_eq_left (by omega), List.take_take, Nat.min_self]
          rw [e1]
          have hne : (cs.drop o).take m ≠ [] := fun h => by rw [h] at hl; simp at hl; omega
          obtain ⟨a, l, hal⟩ : ∃ a l, (cs.drop o).take m = a :: l := by
            cases hx : (cs.drop o).take m with
            | nil => exact absurd hx hne
            | cons a l => exact ⟨a, l, rfl⟩
          rw [hal] at hl
          rw [hal]
          simp only [restV, restH, hl, Int.toNat_natCast]
      · have h := tA1 cs m0 c0 o m c s n
        simp only [Option.map_eq_some_iff] at h
        obtain ⟨⟨⟨e, st'⟩, hs', cl⟩, a1, a2⟩ := h
        simp only [Prod.mk.injEq] at a2
        obtain ⟨rfl, a3, a4, rfl⟩ := a2
        have hint : isInts IntKind.u8 64 (List.take 64 (List.drop o cs)) = true := by
          simp only [isInts, Bool.and_eq_true, beq_iff_eq]
          refine ⟨by simp; omega, ?_⟩
          rw [List.all_eq_true] at hcs ⊢
          exact fun v hv => hcs v (List.mem_of_mem_drop (List.mem_of_mem_take hv))
        have hev := evVg_ok _ _ _ _ cvB_ok _ _ a1 (by
          simp only [hcs, hint, List.all_cons, List.all_nil, id, Bool.and_true, Bool.and_eq_true, decide_eq_true_eq, beq_iff_eq]
          simp
          omega)
        have ht := tidyV_ok (sy := sy0 [0]) (b := 4) (t := F36 0) (st := st') (by rw [a4]; simp [hcs])
        rw [a3] at ht
        have hc := CAtidy cs m0 c0 (if 64 = c then o else o + 64 * 1) (m - 64) (c - 64) (BL s ((cs.drop o).take 64)) n
        simp only [Prod.mk.injEq] at hc
        have ht2 := tidyV_ok (sy := sy0 [0]) (b := 4) (t := F36 0) (st := CA cs m0 c0 (if 64 = c then o else o + 64 * 1) (m - 64) (c - 64) (BL s ((cs.drop o).take 64)) n) (by rw [hc.2]; simp [hcs])
        rw [hc.1] at ht2
        obtain ⟨N, e2, st2, b1, b2, b3⟩ := ih (if 64 = c then o else o + 64 * 1) (m - 64) (c - 64) (BL s ((cs.drop o).take 64)) (by omega) (by split <;> omega) (by omega)
        refine ⟨max 60 N + 1, e2, st2, loop_nextg (id := 0) rfl (evG_le hev (by omega)) (ht.trans ht2.symm) (evG_le b1 (by omega)), b2, ?_⟩
        have el : ((cs.drop o).take m).drop 64 = (cs.drop (if 64 = c then o else o + 64 * 1)).take (m - 64) := by
          split
          · rename_i hc64
            have : m - 64 = 0 := by omega
            rw [this, List.take_zero, List.drop_eq_nil_of_le (by omega)]
          · rw [List.drop_take, List.drop_drop]
        have et : ((cs.drop o).take m).take 64 = (cs.drop o).take 64 := by rw [List.take_take, Nat.min_eq_left q]
        rw [absorb_more (s := s) (l := (cs.drop o).take m) (by omega), el, et]
        exact b3
/-- takes, of a slice that is only read, by a hash that has nothing left over. -/
theorem takeA_run (cs : List AV) (hcs : cs.all (isInt .u8) = true) (m0 c0 o m c : Nat) (s : Nat → Int) (n : Int) (h2 : o + m ≤ cs.length) (h3 : m ≤ c) :
    ∃ N, runG Try.prog SB0 F36 N p36 [.ptr (some (3, 0)), .sl (some (0, o)) m (.fix c)] (hpA cs m0 c0 s (.sl none 0 (.fix 0)) n) =
      some (.tup [], hpA cs m0 c0 (absorb s ((cs.drop o).take m)).1 (restV 4 (absorb s ((cs.drop o).take m)).2) n ++ restH (absorb s ((cs.drop o).take m)).2) := by
  obtain ⟨N, e, st', a1, a2, a3⟩ := takeA_loop cs hcs m0 c0 n m o m c s (Nat.le_refl _) h2 h3
  have a1' : evG Try.prog SB0 (hpA cs m0 c0 s (.sl none 0 (.fix 0)) n).length F36 N (.inl (.loop p36_l0)) ([.ptr (some (3, 0)), .sl (some (0, o)) m (.fix c)] ++ List.replicate (p36.ntmps - [AV.ptr (some (3, 0)), .sl (some (0, o)) m (.fix c)].length) .any, hpA cs m0 c0 s (.sl none 0 (.fix 0)) n) = some (e, st') := a1
  rw [← a3]
  rcases a2 with rfl | rfl
  · exact ⟨N + 1, by unfold runG; rw [show p36.body = .block 0 (.loop p36_l0) from rfl, block_stopg a1']; rfl⟩
  · exact ⟨N + 1, by unfold runG; rw [show p36.body = .block 0 (.loop p36_l0) from rfl, block_passg a1']; rfl⟩
end Go.Proofs.Ytiijphmpkmmpjaa
