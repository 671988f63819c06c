/- Written by merging: Lya Lyb Lyc Lyd Lye Lyf. -/
import Derived.Test.YtahdfjmdoljgiaaDoorMe
import Derived.Test.YtahdfjmdoljgiaaDoorAmHe
namespace Go.Proofs.YtahdfjmdoljgiaaDoor
open Go Go.Am
set_option maxRecDepth 100000
set_option maxHeartbeats 1000000
set_option linter.unusedVariables false
set_option linter.unusedSimpArgs false

def tokText (l : List AV) : List UInt8 := match l with
  | _ :: .str t :: _ => t
  | _ => []
def blankN (s : List UInt8) (i : Nat) : Nat := i + blk (s.drop i) false
def scanFrom (s : List UInt8) : Nat → Nat → List (List AV) → List (List AV) × Nat × Int
  | 0, _, acc => (acc, 0, 0)
  | f + 1, i, acc => if i < s.length then (if ((nextF s i).2 != 0) = true then ([], i, (nextF s i).2) else scanFrom s f (blankN s (i + (tokText (nextF s i).1).length)) (acc ++ [(nextF s i).1])) else (acc, 0, 0)
def scanF (s : List UInt8) : List (List AV) × Nat × Int := scanFrom s (s.length + 1) (blankN s 0) []
def nilS : AV := .sl none 0 (.fix 0)
def s8 : List AV → Nat → Option (AV × List AObj)
  | [.str s], n => some (if s.length > 16384 then (.tup [nilS, .int .i64 0, .int .i64 3], [])
      else if ((scanF s).2.2 != 0) = true then (.tup [nilS, .int .i64 (scanF s).2.1, .int .i64 (scanF s).2.2], [])
      else if (scanF s).1.isEmpty = true then (.tup [nilS, .int .i64 0, .int .i64 0], [])
      else (.tup [.sl (some (n, 0)) (scanF s).1.length (.rel 0), .int .i64 0, .int .i64 0], [.row 41 13 (scanF s).1.flatten]))
  | _, _ => none
def T8 (vs : List AV) (h : AHeap) (K : AV × AHeap → Prop) : Prop := match vs with
  | [.str s] => askB (decide (s.length > 16384)) (K (.tup [nilS, .int .i64 0, .int .i64 3], h))
      (askB ((scanF s).2.2 != 0) (K (.tup [nilS, .int .i64 (scanF s).2.1, .int .i64 (scanF s).2.2], h))
      (askB (scanF s).1.isEmpty (K (.tup [nilS, .int .i64 0, .int .i64 0], h))
      (K (.tup [.sl (some (h.length, 0)) (scanF s).1.length (.rel 0), .int .i64 0, .int .i64 0], h ++ [.row 41 13 (scanF s).1.flatten]))))
  | _ => False
-- Scan
def tb8 : List TbE := [⟨16, fun vs _ => sBlank vs, .of (.one (.int .i64))⟩, ⟨18, fun vs _ => sNext vs, .tup [ag13, .one (.int .i64)]⟩]
def n8 (s : List UInt8) (i : Int) : St := (envOf 41 [(0, .str s), (5, .sl none 0 (.fix 0)), (6, .int .i64 i)], [])
def h8 (s : List UInt8) (i : Int) (n : Nat) (cs : List AV) : St := (envOf 41 [(0, .str s), (5, .sl (some (0, 0)) n (.rel 0)), (6, .int .i64 i)], [.row 41 13 cs])
def t8 : Tidy := ⟨dropT 41 [0, 5, 6], .auto⟩
def x8 : Tidy := ⟨dropT 41 [5], .auto⟩
def r8 : Tidy := ⟨dropT 41 [2, 3, 4], .rows []⟩
def C8n : Cfg := tbC Q tb8 (fun _ => false) kdI
def C8m : Cfg := tbC Q tb8 (fun k => k == 0 || k == 3) kdI
def C8 (s : List UInt8) : Cfg := { tbC Q tb8 (fun k => k == 0) kdI with
  lw := fun id => if id = 5 then some fun st K => st = n8 s (blankF s 0) ∧ s.length ≤ 16384 ∧ askB ((scanF s).2.2 != 0) (K .ret (envOf 41 [(2, .sl none 0 (.fix 0)), (3, .int .i64 (scanF s).2.1), (4, .int .i64 (scanF s).2.2)], []))
      (askB (scanF s).1.isEmpty (K (.exit 0) (envOf 41 [(5, .sl none 0 (.fix 0))], [])) (K (.exit 0) (envOf 41 [(5, .sl (some (0, 0)) (scanF s).1.length (.rel 0))], [.row 41 13 (scanF s).1.flatten]))) else none
  F := fun id => if id = 5 then t8 else ⟨[], .all⟩ }
-- the document's
def tb9 : List TbE := [⟨20, fun vs _ => sBlank vs, .of (.one (.int .i64))⟩, ⟨19, fun vs _ => sNext vs, .tup [ag13, .one (.int .i64)]⟩]
def n9 (s : List UInt8) (i : Int) : St := (envOf 40 [(0, .str s), (5, .sl none 0 (.fix 0)), (6, .int .i64 i)], [])
def t9 : Tidy := ⟨dropT 40 [0, 5, 6], .auto⟩
def x9 : Tidy := ⟨dropT 40 [5], .auto⟩
def C9 (s : List UInt8) : Cfg := { tbC Q tb9 (fun k => k == 0) kdI with
  lw := fun id => if id = 5 then some fun st K => st = n9 s (blankF s 0) ∧ s.length ≤ 16384 ∧ askB ((scanF s).2.2 != 0) (K .ret (envOf 40 [(2, .sl none 0 (.fix 0)), (3, .int .i64 (scanF s).2.1), (4, .int .i64 (scanF s).2.2)], []))
      (askB (scanF s).1.isEmpty (K (.exit 0) (envOf 40 [(5, .sl none 0 (.fix 0))], [])) (K (.exit 0) (envOf 40 [(5, .sl (some (0, 0)) (scanF s).1.length (.rel 0))], [.row 41 13 (scanF s).1.flatten]))) else none
  F := fun id => if id = 5 then t9 else ⟨[], .all⟩ }
theorem v8n (s : List UInt8) (i : Nat) (K : AExit → St → Prop) : (askB (decide ((↑i : Int) < (↑(List.length s) : Int))) (∃ (n : Int), ∃ (s_1 : List UInt8), ∃ (n_1 : Int), ∃ (b : Bool), ∃ (n_2 : Int), ∃ (n_3 : Int), ∃ (n_4 : Int), ∃ (n_5 : Int), ∃ (n_6 : Int), ∃ (b_1 : Bool), ∃ (s_2 : List UInt8), ∃ (n_7 : Int), ∃ (n_8 : Int), ∃ (n_9 : Int), sNext [AV.str s, AV.int .i64 (↑i : Int)] = some (AV.tup [AV.agg [AV.int .i64 n, AV.str s_1, AV.int .i64 n_1, AV.bool b, AV.int .u64 n_2, AV.int .u64 n_3, AV.int .u64 n_4, AV.int .u64 n_5, AV.int .i64 n_6, AV.bool b_1, AV.str s_2, AV.int .i64 n_7, AV.int .i64 n_8], AV.int .i64 n_9]) ∧ askB (n_9 != 0) (K AExit.ret (envOf 41 [(2, AV.sl none 0 (ACap.fix 0)), (3, AV.int .i64 (↑i : Int)), (4, AV.int .i64 n_9)], [])) (∃ (n_10 : Int), sBlank [AV.str s, AV.int .i64 (IntKind.wrap .i64 ((↑i : Int) + (↑(List.length s_1) : Int)))] = some (AV.int .i64 n_10) ∧ K AExit.normal (envOf 41 [(0, AV.str s), (5, AV.sl (some (0, 0)) 1 (ACap.rel 0)), (6, AV.int .i64 n_10)], [AObj.row 41 13 [AV.int .i64 n, AV.str s_1, AV.int .i64 n_1, AV.bool b, AV.int .u64 n_2, AV.int .u64 n_3, AV.int .u64 n_4, AV.int .u64 n_5, AV.int .i64 n_6, AV.bool b_1, AV.str s_2, AV.int .i64 n_7, AV.int .i64 n_8]]))) (K (AExit.exit 0) (envOf 41 [(5, AV.sl none 0 (ACap.fix 0))], []))) = (wpP Tryd.prog C8n 60 (.inl p8_l0) (n8 s i) (postX C8n t8 x8 r8 K)) := by kernel_rfl
theorem v8b (s : List UInt8) (i n : Nat) (cs : List AV) (K : AExit → St → Prop) : (askB (decide ((↑i : Int) < (↑(List.length s) : Int))) (∃ (n_1 : Int), ∃ (s_1 : List UInt8), ∃ (n_2 : Int), ∃ (b : Bool), ∃ (n_3 : Int), ∃ (n_4 : Int), ∃ (n_5 : Int), ∃ (n_6 : Int), ∃ (n_7 : Int), ∃ (b_1 : Bool), ∃ (s_2 : List UInt8), ∃ (n_8 : Int), ∃ (n_9 : Int), ∃ (n_10 : Int), sNext [AV.str s, AV.int .i64 (↑i : Int)] = some (AV.tup [AV.agg [AV.int .i64 n_1, AV.str s_1, AV.int .i64 n_2, AV.bool b, AV.int .u64 n_3, AV.int .u64 n_4, AV.int .u64 n_5, AV.int .u64 n_6, AV.int .i64 n_7, AV.bool b_1, AV.str s_2, AV.int .i64 n_8, AV.int .i64 n_9], AV.int .i64 n_10]) ∧ askB (n_10 != 0) (chkW (objClosed (AObj.row 41 13 cs)) (K AExit.ret (envOf 41 [(2, AV.sl none 0 (ACap.fix 0)), (3, AV.int .i64 (↑i : Int)), (4, AV.int .i64 n_10)], []))) (∃ (t : TypeId), ∃ (s_3 : Nat), ∃ (cs_1 : List AV), some (AObj.row 41 13 cs) = some (AObj.row t s_3 cs_1) ∧ chkW (decide (t = 41)) (chkW (decide (s_3 = 13)) (chkW (decide (List.length cs_1 = n * 13)) (chkW (decide ((n + 1) * 120 ≤ 140737488355328)) (chkW (decide (n + 1 ≤ 9223372036854775807)) (∃ (n_11 : Int), sBlank [AV.str s, AV.int .i64 (IntKind.wrap .i64 ((↑i : Int) + (↑(List.length s_1) : Int)))] = some (AV.int .i64 n_11) ∧ chkW (objClosed (AObj.row 41 13 (cs_1 ++ List.take (1 * 13) (List.drop 0 [AV.int .i64 n_1, AV.str s_1, AV.int .i64 n_2, AV.bool b, AV.int .u64 n_3, AV.int .u64 n_4, AV.int .u64 n_5, AV.int .u64 n_6, AV.int .i64 n_7, AV.bool b_1, AV.str s_2, AV.int .i64 n_8, AV.int .i64 n_9])))) (K AExit.normal (envOf 41 [(0, AV.str s), (5, AV.sl (some (0, 0)) (n + 1) (ACap.rel 0)), (6, AV.int .i64 n_11)], [AObj.row 41 13 (cs_1 ++ List.take (1 * 13) (List.drop 0 [AV.int .i64 n_1, AV.str s_1, AV.int .i64 n_2, AV.bool b, AV.int .u64 n_3, AV.int .u64 n_4, AV.int .u64 n_5, AV.int .u64 n_6, AV.int .i64 n_7, AV.bool b_1, AV.str s_2, AV.int .i64 n_8, AV.int .i64 n_9]))]))))))))) (chkW (objClosed (AObj.row 41 13 cs)) (K (AExit.exit 0) (envOf 41 [(5, AV.sl (some (0, 0)) n (ACap.rel 0))], [AObj.row 41 13 cs])))) = (wpP Tryd.prog C8m 60 (.inl p8_l0) (h8 s i n cs) (postX C8m t8 x8 r8 K)) := by kernel_rfl
theorem v8 (s : List UInt8) (R : AV → AHeap → Prop) : (askB (decide ((↑(List.length s) : Int) > 16384)) (R (AV.tup [AV.sl none 0 (ACap.fix 0), AV.int .i64 0, AV.int .i64 3]) []) (∃ (n : Int), sBlank [AV.str s, AV.int .i64 0] = some (AV.int .i64 n) ∧ (envOf 41 [(0, AV.str s), (5, AV.sl none 0 (ACap.fix 0)), (6, AV.int .i64 n)], ([] : AHeap)) = (envOf 41 [(0, AV.str s), (5, AV.sl none 0 (ACap.fix 0)), (6, AV.int .i64 (blankF s 0))], []) ∧ List.length s ≤ 16384 ∧ askB (Prod.snd (Prod.snd (scanF s)) != 0) (R (AV.tup [AV.sl none 0 (ACap.fix 0), AV.int .i64 (↑(Prod.fst (Prod.snd (scanF s))) : Int), AV.int .i64 (Prod.snd (Prod.snd (scanF s)))]) []) (askB (List.isEmpty (Prod.fst (scanF s))) (R (AV.tup [AV.sl none 0 (ACap.fix 0), AV.int .i64 0, AV.int .i64 0]) []) (R (AV.tup [AV.sl (some (0, 0)) (List.length (Prod.fst (scanF s))) (ACap.rel 0), AV.int .i64 0, AV.int .i64 0]) [AObj.row 41 13 (List.flatten (Prod.fst (scanF s)))])))) = (wpF Tryd.prog (C8 s) 60 p8 [.str s] [] R) := by kernel_rfl
theorem v9 (s : List UInt8) (R : AV → AHeap → Prop) : (askB (decide ((↑(List.length s) : Int) > 16384)) (R (AV.tup [AV.sl none 0 (ACap.fix 0), AV.int .i64 0, AV.int .i64 3]) []) (∃ (n : Int), sBlank [AV.str s, AV.int .i64 0] = some (AV.int .i64 n) ∧ (envOf 40 [(0, AV.str s), (5, AV.sl none 0 (ACap.fix 0)), (6, AV.int .i64 n)], ([] : AHeap)) = (envOf 40 [(0, AV.str s), (5, AV.sl none 0 (ACap.fix 0)), (6, AV.int .i64 (blankF s 0))], []) ∧ List.length s ≤ 16384 ∧ askB (Prod.snd (Prod.snd (scanF s)) != 0) (R (AV.tup [AV.sl none 0 (ACap.fix 0), AV.int .i64 (↑(Prod.fst (Prod.snd (scanF s))) : Int), AV.int .i64 (Prod.snd (Prod.snd (scanF s)))]) []) (askB (List.isEmpty (Prod.fst (scanF s))) (R (AV.tup [AV.sl none 0 (ACap.fix 0), AV.int .i64 0, AV.int .i64 0]) []) (R (AV.tup [AV.sl (some (0, 0)) (List.length (Prod.fst (scanF s))) (ACap.rel 0), AV.int .i64 0, AV.int .i64 0]) [AObj.row 41 13 (List.flatten (Prod.fst (scanF s)))])))) = (wpF Tryd.prog (C9 s) 60 p9 [.str s] [] R) := by kernel_rfl
theorem blk_le : ∀ (l : List UInt8) (b : Bool), blk l b ≤ l.length
  | [], _ => Nat.le_refl _
  | c :: l, true => by
    have h1 := blk_le l true
    have h2 := blk_le l false
    rw [blk_t]; simp only [List.length_cons]; split <;> omega
  | c :: l, false => by
    have h1 := blk_le l true
    have h2 := blk_le l false
    rw [blk_f]; simp only [List.length_cons]
    split
    · omega
    · split <;> omega
theorem blankN_le {s : List UInt8} {i : Nat} (h : i ≤ s.length) : i ≤ blankN s i ∧ blankN s i ≤ s.length := by
  have := blk_le (s.drop i) false
  rw [List.length_drop] at this
  unfold blankN; omega
theorem run_pos {t : List UInt8} (h0 : 0 < t.length) (h : letterF (t.getD 0 0) = true) : 1 ≤ runF t := by
  cases t with
  | nil => cases h0
  | cons c l =>
    have hl : lod c = true := by unfold lod; rw [show letterF c = true from h]; rfl
    unfold runF; rw [if_pos hl]; omega
theorem num_nil : numOK [] = false := by decide +kernel
/-- A word: some letters of the text, at its place. -/
theorem next_tok {s : List UInt8} {i : Nat} (hi : i < s.length) (h : (nextF s i).2 = 0) : ∃ k, 1 ≤ k ∧ i + k ≤ s.length ∧ tokText (nextF s i).1 = (s.drop i).take k ∧ (nextF s i).1.getD 12 .any = .int .i64 i := by
  have hN : nextF s i = nextAt (s.drop i) i := by unfold nextF; rw [if_neg (by omega), Int.toNat_natCast]
  have hl : (s.drop i).length = s.length - i := List.length_drop
  rw [hN] at h ⊢
  clear hN
  generalize s.drop i = t at h hl ⊢
  have h0 : 0 < t.length := by omega
  have hrl := run_le t
  have hpl := prefix_le t
  have hql := quoted_le t
  revert h
  unfold nextAt
  split
  · rename_i g
    split
    · intro _
      exact ⟨runF t, run_pos h0 g, by omega, rfl, rfl⟩
    · intro h; cases h
  · split
    · split
      · rename_i g
        intro _
        refine ⟨prefixF t, ?_, by omega, rfl, rfl⟩
        rcases Nat.eq_zero_or_pos (prefixF t) with e | e
        · rw [e, List.take_zero, num_nil] at g; cases g
        · exact e
      · intro h; cases h
    · split
      · split
        · rename_i g
          intro _
          refine ⟨quotedF t, ?_, by omega, rfl, rfl⟩
          rcases Nat.eq_zero_or_pos (quotedF t) with e | e
          · rw [e, List.take_zero, quo_nil] at g; cases g
          · exact e
        · intro h; cases h
      · split
        · intro h; cases h
        · rename_i g
          intro _
          have hY := symF_two t h0
          have hk : ∃ k, 1 ≤ k ∧ k ≤ t.length ∧ symF t = t.take k := by
            by_cases c : (decide (1 < t.length) && symR (t.take 2)) = true
            · rw [if_pos c] at hY
              simp only [Bool.and_eq_true, decide_eq_true_eq] at c
              exact ⟨2, by omega, by omega, hY⟩
            · rw [if_neg c] at hY
              by_cases c2 : symR (t.take 1) = true
              · rw [if_pos c2] at hY
                exact ⟨1, by omega, by omega, hY⟩
              · rw [if_neg c2] at hY
                rw [hY] at g
                exact absurd rfl g
          obtain ⟨k, k1, k2, k3⟩ := hk
          exact ⟨k, k1, by omega, k3, rfl⟩
theorem shaped_closed {l : List AV} (h : Shaped l) : ∀ x ∈ l, x.closed = true := by
  obtain ⟨n, s1, n1, b, n2, n3, n4, n5, n6, b1, s2, n7, n8, rfl⟩ := h
  intro x hx
  simp only [List.mem_cons, List.not_mem_nil, or_false] at hx
  rcases hx with rfl | rfl | rfl | rfl | rfl | rfl | rfl | rfl | rfl | rfl | rfl | rfl | rfl <;> rfl
theorem shaped_len {l : List AV} (h : Shaped l) : l.length = 13 := by
  obtain ⟨n, s1, n1, b, n2, n3, n4, n5, n6, b1, s2, n7, n8, rfl⟩ := h
  rfl
theorem fl_all {acc : List (List AV)} (h : ∀ t ∈ acc, Shaped t) : acc.flatten.all AV.closed = true := by
  rw [List.all_eq_true]
  intro x hx
  obtain ⟨t, ht, hx⟩ := List.mem_flatten.1 hx
  exact shaped_closed (h t ht) x hx
theorem fl_closed {acc : List (List AV)} (h : ∀ t ∈ acc, Shaped t) : objClosed (.row 41 13 acc.flatten) = true := closedL (fl_all h)
theorem fl_len : ∀ {acc : List (List AV)}, (∀ t ∈ acc, Shaped t) → acc.flatten.length = acc.length * 13
  | [], _ => rfl
  | t :: acc, h => by
    rw [List.flatten_cons, List.length_append, shaped_len (h t (List.mem_cons_self ..)), fl_len fun u hu => h u (List.mem_cons_of_mem _ hu), List.length_cons]
    omega
theorem blank_at {s : List UInt8} {i : Nat} (h : i ≤ s.length) (hs : s.length ≤ 1048577) : sBlank [.str s, .int .i64 (i : Int)] = some (.int .i64 (blankN s i : Int)) := by
  have : sBlank [.str s, .int .i64 (i : Int)] = some (.int .i64 (blankF s i)) := if_pos (by omega)
  rw [this, blank_in h]; rfl
/-- All words have the shape of words. -/
theorem scan_shaped (s : List UInt8) : ∀ (f i : Nat) (acc : List (List AV)), (∀ t ∈ acc, Shaped t) → ∀ t ∈ (scanFrom s f i acc).1, Shaped t
  | 0, _, acc, h => h
  | f + 1, i, acc, h => by
    rw [scanFrom]
    split
    · split
      · intro t ht; cases ht
      · refine scan_shaped s f _ _ fun t ht => ?_
        rcases List.mem_append.1 ht with ht | ht
        · exact h t ht
        · rw [List.mem_singleton] at ht
          rw [ht]; exact next_shaped s i
    · exact h
theorem tb8_ok : (tbS Q tb8).OK Tryd.prog := tbS_ok quietText (by
  intro x hx
  simp only [tb8, List.mem_cons, List.not_mem_nil, or_false] at hx
  rcases hx with rfl | rfl
  · exact blank_ok
  · exact next_ok)
def g8 (s : List UInt8) (p : Nat × Nat × List (List AV)) : St := if p.2.2.isEmpty then n8 s p.2.1 else h8 s p.2.1 p.2.2.length p.2.2.flatten
def K8 (r : List (List AV) × Nat × Int) (e : AExit) (st : St) : Prop := (e, st) = if (r.2.2 != 0) = true then (AExit.ret, (envOf 41 [(2, .sl none 0 (.fix 0)), (3, .int .i64 r.2.1), (4, .int .i64 r.2.2)], []))
  else if r.1.isEmpty then (AExit.exit 0, (envOf 41 [(5, .sl none 0 (.fix 0))], [])) else (AExit.exit 0, (envOf 41 [(5, .sl (some (0, 0)) r.1.length (.rel 0))], [.row 41 13 r.1.flatten]))
theorem loop8 (s : List UInt8) (hs : s.length ≤ 16384) : W Tryd.prog (tbS Q tb8) 0 (.inl (.loop p8_l0)) (n8 s (blankF s 0)) (K8 (scanF s)) := by
  have hcw : CwOK (tbS Q tb8) (tbW Q tb8) := tbW_ok rfl
  have hb0 := blankN_le (s := s) (i := 0) (Nat.zero_le _)
  have hbe : blankF s 0 = (blankN s 0 : Int) := blank_in (i := 0) (Nat.zero_le _)
  rw [hbe]
  have main := W_roundsG (P := Tryd.prog) (S := tbS Q tb8) (b0 := 0) (a := p8_l0) (g8 s)
    (fun p => p.2.1 ≤ s.length ∧ s.length + 1 ≤ p.1 + p.2.1 ∧ 1 ≤ p.1 ∧ p.2.2.length ≤ p.2.1 ∧ (∀ t ∈ p.2.2, Shaped t) ∧ scanFrom s p.1 p.2.1 p.2.2 = scanF s) (fun p => p.1) (fun _ => K8 (scanF s)) ?_ (s.length + 1, blankN s 0, []) ⟨hb0.2, by show s.length + 1 ≤ s.length + 1 + blankN s 0; omega, by show 1 ≤ s.length + 1; omega, Nat.zero_le _, (fun t ht => (by cases ht) : ∀ t ∈ ([] : List (List AV)), Shaped t), rfl⟩
  · exact main
  · generalize scanF s = r
    rintro ⟨f, i, acc⟩ ⟨h1, h2, h3, h4, h5, h6⟩
    simp only at h1 h2 h3 h4 h5 h6
    obtain ⟨f, rfl⟩ : ∃ g, f = g + 1 := ⟨f - 1, by omega⟩
    rw [scanFrom] at h6
    have hN : sNext [.str s, .int .i64 (i : Int)] = some (.tup [.agg (nextF s i).1, .int .i64 (nextF s i).2]) := if_pos (by omega)
    obtain ⟨n, s1, n1, b, n2, n3, n4, n5, n6, b1, s2, n7, n8', hsh⟩ := next_shaped s i
    have hst : tokText (nextF s i).1 = s1 := by rw [hsh]; rfl
    have hT := next_tok (s := s) (i := i)
    rw [hst] at h6 hT
    have go : ∀ (st : St), i < s.length → (nextF s i).2 = 0 → st = g8 s (f, blankN s (i + s1.length), acc ++ [(nextF s i).1]) → ∃ s', st = g8 s s' ∧ (s'.2.1 ≤ s.length ∧ s.length + 1 ≤ s'.1 + s'.2.1 ∧ 1 ≤ s'.1 ∧ s'.2.2.length ≤ s'.2.1 ∧ (∀ t ∈ s'.2.2, Shaped t) ∧ scanFrom s s'.1 s'.2.1 s'.2.2 = r) ∧ s'.1 < f + 1 ∧ ∀ e st, K8 r e st → K8 r e st := by
      intro st hi he hst'
      obtain ⟨k, k1, k2, k3, k4⟩ := hT hi he
      have hl1 : s1.length = k := by rw [k3, List.length_take, List.length_drop]; omega
      have hb := blankN_le (s := s) (i := i + s1.length) (by omega)
      refine ⟨_, hst', ⟨hb.2, by show s.length + 1 ≤ f + blankN s (i + s1.length); omega, by show 1 ≤ f; omega, by show (acc ++ [(nextF s i).1]).length ≤ blankN s (i + s1.length); rw [List.length_append, List.length_singleton]; omega, fun t ht => ?_, ?_⟩, by show f < f + 1; omega, fun _ _ h => h⟩
      · rcases List.mem_append.1 ht with ht | ht
        · exact h5 t ht
        · rw [List.mem_singleton] at ht
          rw [ht]; exact next_shaped s i
      · rw [if_pos hi, if_neg (by rw [he]; decide)] at h6
        exact h6
    have hB : i < s.length → (nextF s i).2 = 0 → sBlank [.str s, .int .i64 (IntKind.wrap .i64 ((i : Int) + (s1.length : Int)))] = some (.int .i64 (blankN s (i + s1.length) : Int)) := fun hi he => by
      obtain ⟨k, k1, k2, k3, k4⟩ := hT hi he
      have hl1 : s1.length = k := by rw [k3, List.length_take, List.length_drop]; omega
      have w1 : IntKind.wrap .i64 ((i : Int) + (s1.length : Int)) = ((i + s1.length : Nat) : Int) := by rw [IntKind.wrap_i64]; omega
      rw [w1]; exact blank_at (by omega) (by omega)
    rw [hsh] at hN
    by_cases hE : acc.isEmpty = true
    · obtain rfl := List.isEmpty_iff.1 hE
      refine W_wpX (C := C8n) hcw (by intro x hx; cases hx) (n := 60) (tn := t8) (tx := x8) (tr := r8) ((v8n s i _).mp ?_)
      rcases Nat.lt_or_ge i s.length with hi | hi
      · refine askT (decide_eq_true (by omega)) ⟨n, s1, n1, b, n2, n3, n4, n5, n6, b1, s2, n7, n8', _, hN, askI (fun g1 => ?_) fun g1 => ?_⟩
        · rw [if_pos hi, if_pos g1] at h6
          show K8 r _ _
          unfold K8
          rw [← h6, if_pos g1]
        · have he : (nextF s i).2 = 0 := by rw [bne, Bool.not_eq_false'] at g1; exact beq_iff_eq.1 g1
          refine ⟨_, hB hi he, go _ hi he ?_⟩
          rw [hsh]; rfl
      · rw [if_neg (by omega)] at h6
        refine askF (decide_eq_false (by omega)) ?_
        show K8 r _ _
        unfold K8
        rw [← h6]; rfl
    · have hE : acc.isEmpty = false := by simpa using hE
      have hg : g8 s (f + 1, i, acc) = h8 s i acc.length acc.flatten := by unfold g8; simp only [hE, Bool.false_eq_true, if_false]
      rw [hg]
      refine W_wpX (C := C8m) hcw (by intro x hx; cases hx) (n := 60) (tn := t8) (tx := x8) (tr := r8) ((v8b s i acc.length acc.flatten _).mp ?_)
      rcases Nat.lt_or_ge i s.length with hi | hi
      · refine askT (decide_eq_true (by omega)) ⟨n, s1, n1, b, n2, n3, n4, n5, n6, b1, s2, n7, n8', _, hN, askI (fun g1 => ?_) fun g1 => ?_⟩
        · rw [if_pos hi, if_pos g1] at h6
          refine chkI (fl_closed h5) ?_
          show K8 r _ _
          unfold K8
          rw [← h6, if_pos g1]
        · have he : (nextF s i).2 = 0 := by rw [bne, Bool.not_eq_false'] at g1; exact beq_iff_eq.1 g1
          have hX : acc.flatten ++ [AV.int .i64 n, .str s1, .int .i64 n1, .bool b, .int .u64 n2, .int .u64 n3, .int .u64 n4, .int .u64 n5, .int .i64 n6, .bool b1, .str s2, .int .i64 n7, .int .i64 n8'] = (acc ++ [(nextF s i).1]).flatten := by
            rw [List.flatten_append, hsh]; simp
          have h5' : ∀ t ∈ acc ++ [(nextF s i).1], Shaped t := fun t ht => by
            rcases List.mem_append.1 ht with ht | ht
            · exact h5 t ht
            · rw [List.mem_singleton] at ht
              rw [ht]; exact next_shaped s i
          have hcl := fl_closed h5'
          rw [← hX] at hcl
          have hE' : (acc ++ [(nextF s i).1]).isEmpty = false := by cases acc <;> rfl
          have hst' : ((envOf 41 [(0, .str s), (5, .sl (some (0, 0)) (acc.length + 1) (.rel 0)), (6, .int .i64 (blankN s (i + s1.length) : Int))], [.row 41 13 (acc.flatten ++ [AV.int .i64 n, .str s1, .int .i64 n1, .bool b, .int .u64 n2, .int .u64 n3, .int .u64 n4, .int .u64 n5, .int .i64 n6, .bool b1, .str s2, .int .i64 n7, .int .i64 n8'])]) : St) = g8 s (f, blankN s (i + s1.length), acc ++ [(nextF s i).1]) := by
            unfold g8
            simp only [hE', Bool.false_eq_true, if_false]
            rw [hX]
            unfold h8
            rw [List.length_append]; rfl
          exact ⟨41, 13, _, rfl, chkI rfl (chkI rfl (chkI (decide_eq_true (fl_len h5)) (chkI (decide_eq_true (by omega)) (chkI (decide_eq_true (by omega)) ⟨_, hB hi he, chkI hcl (go _ hi he hst')⟩))))⟩
      · rw [if_neg (by omega)] at h6
        refine askF (decide_eq_false (by omega)) (chkI (fl_closed h5) ?_)
        show K8 r _ _
        unfold K8
        rw [← h6]
        simp only [hE, Bool.false_eq_true, if_false]
        rfl
theorem scan8_sem (s : List UInt8) : ∃ hq, s8 [.str s] 0 = some ((s8 [.str s] 0).getD (.any, [])) ∧ hq = ((s8 [.str s] 0).getD (.any, [])).2 ∧ CallSem Tryd.prog 8 [.str s] [] ((s8 [.str s] 0).getD (.any, [])).1 hq := by
  obtain ⟨u, h', hR, hsem⟩ := sem_vc mixed (C := C8 s) tb8_ok (tbS_q _ _) (tbW_ok rfl) ht8 c8 (one_part rfl (part_loop (id := 5) rfl rfl fun st K hT => by
    obtain ⟨rfl, hs, hk⟩ := hT
    refine W_mono (loop8 s hs) fun e st he => ?_
    unfold K8 at he
    cases hE : ((scanF s).2.2 != 0) with
    | true =>
      rw [hE] at he hk
      simp only [if_true] at he
      cases he; exact hk
    | false =>
      rw [hE] at he hk
      simp only [Bool.false_eq_true, if_false] at he
      cases hF : (scanF s).1.isEmpty with
      | true =>
        have hk2 : askB (scanF s).1.isEmpty _ _ := hk
        rw [hF] at he hk2
        simp only [if_true] at he
        cases he; exact hk2
      | false =>
        have hk2 : askB (scanF s).1.isEmpty _ _ := hk
        rw [hF] at he hk2
        simp only [Bool.false_eq_true, if_false] at he
        cases he; exact hk2)) (v8 s fun u h => (u, h) = (s8 [.str s] 0).getD (.any, [])) (by
    have hs8 : (s8 [.str s] 0).getD (AV.any, []) = if s.length > 16384 then (.tup [nilS, .int .i64 0, .int .i64 3], [])
      else if ((scanF s).2.2 != 0) = true then (.tup [nilS, .int .i64 (scanF s).2.1, .int .i64 (scanF s).2.2], [])
      else if (scanF s).1.isEmpty = true then (.tup [nilS, .int .i64 0, .int .i64 0], [])
      else (.tup [.sl (some (0, 0)) (scanF s).1.length (.rel 0), .int .i64 0, .int .i64 0], [.row 41 13 (scanF s).1.flatten]) := rfl
    rw [hs8]
    refine askI (fun g1 => ?_) fun g1 => ?_
    · simp only [decide_eq_true_eq] at g1
      rw [if_pos (by omega)]; rfl
    · simp only [decide_eq_false_iff_not] at g1
      rw [if_neg (by omega)]
      refine ⟨_, if_pos (by omega), rfl, by omega, askI (fun g2 => ?_) fun g2 => askI (fun g3 => ?_) fun g3 => ?_⟩
      · rw [if_pos g2]; rfl
      · rw [if_neg (by rw [g2]; decide), if_pos g3]; rfl
      · rw [if_neg (by rw [g2]; decide), if_neg (by rw [g3]; decide)])
  refine ⟨h', rfl, ?_, ?_⟩
  · rw [← hR]
  · rw [← hR]; exact hsem
theorem scanF_shaped (s : List UInt8) : ∀ t ∈ (scanF s).1, Shaped t := scan_shaped s _ _ _ fun t ht => by cases ht
theorem s8_rows (s : List UInt8) (n : Nat) : ∃ (v0 v : AV) (hq rows : AHeap) (ks : List Nat), s8 [.str s] 0 = some (v0, hq) ∧ s8 [.str s] n = some (v, rows) ∧ ks.Nodup ∧ v0.ren (fun i => (ks.idxOf? i).map (n + ·)) = some v ∧ rows = ks.map fun k => renOwn (fun i => (ks.idxOf? i).map (n + ·)) (hq.getD k .dead) := by
  unfold s8
  simp only []
  split
  · exact ⟨_, _, _, _, [], rfl, rfl, List.nodup_nil, rfl, rfl⟩
  · split
    · exact ⟨_, _, _, _, [], rfl, rfl, List.nodup_nil, rfl, rfl⟩
    · split
      · exact ⟨_, _, _, _, [], rfl, rfl, List.nodup_nil, rfl, rfl⟩
      · refine ⟨_, _, _, _, [0], rfl, rfl, by simp, rfl, ?_⟩
        show _ = [renOwn _ (.row 41 13 (scanF s).1.flatten)]
        rw [renOwn_row (fl_all (scanF_shaped s))]
theorem scan_full {f : FuncId} {fn : Func} (hf : HasText Tryd.prog f fn) (h : ∀ s : List UInt8, ∃ hq, s8 [.str s] 0 = some ((s8 [.str s] 0).getD (.any, [])) ∧ hq = ((s8 [.str s] 0).getD (.any, [])).2 ∧ CallSem Tryd.prog f [.str s] [] ((s8 [.str s] 0).getD (.any, [])).1 hq) : FullOK Tryd.prog f (rowS s8) := by
  refine rows_full hf fun args n v rows hv => ?_
  have hargs : ∃ s, args = [.str s] := by
    unfold s8 at hv
    split at hv
    · exact ⟨_, rfl⟩
    · cases hv
  obtain ⟨s, rfl⟩ := hargs
  obtain ⟨v0, v1, hq, rows1, ks, h1, h2, h3, h4, h5⟩ := s8_rows s n
  obtain ⟨hq', -, e2, e3⟩ := h s
  rw [h1] at e2 e3
  rw [h2] at hv
  cases hv
  have e2' : hq' = hq := e2
  subst e2'
  exact ⟨rfl, v0, hq', ks, e3, h3, h4, h5⟩
theorem scan_ok : FullOK Tryd.prog 8 (rowS s8) := scan_full ht8 scan8_sem
def e8 : TbF := ⟨8, s8, T8⟩
def e9 : TbF := ⟨9, s8, T8⟩
theorem T8_ok {vs : List AV} {h : AHeap} {K : AV × AHeap → Prop} (hT : T8 vs h K) : ∃ v rows, s8 vs h.length = some (v, rows) ∧ K (v, h ++ rows) := by
  unfold T8 at hT
  split at hT
  · rename_i s
    unfold s8
    simp only []
    rcases askD hT with ⟨g, hT⟩ | ⟨g, hT⟩
    · rw [if_pos (by simpa using g)]
      exact ⟨_, _, rfl, by rw [List.append_nil]; exact hT⟩
    · rw [if_neg (by simpa using g)]
      rcases askD hT with ⟨g, hT⟩ | ⟨g, hT⟩
      · rw [if_pos g]
        exact ⟨_, _, rfl, by rw [List.append_nil]; exact hT⟩
      · rw [if_neg (by rw [g]; decide)]
        rcases askD hT with ⟨g, hT⟩ | ⟨g, hT⟩
        · rw [if_pos g]
          exact ⟨_, _, rfl, by rw [List.append_nil]; exact hT⟩
        · rw [if_neg (by rw [g]; decide)]
          exact ⟨_, _, rfl, hT⟩
  · exact hT.elim
theorem e8_ok : e8.OK := fun _ _ _ => T8_ok
noncomputable def gSame : List AV → List AObj → Option AV := fun args hs => @ite _ ((args = [nilS, nilS] ∧ hs = []) ∨ ∃ toks : List (List AV), ((∀ t ∈ toks, Shaped t) ∧ toks.length ≤ 1099511627776) ∧ args = [.sl (some (0, 0)) toks.length (.rel 0), .sl (some (1, 0)) toks.length (.rel 0)] ∧ hs = [.ro toks.flatten, .ro toks.flatten]) (Classical.propDecidable _) (some (.bool true)) none
noncomputable def sSame : List AV → AHeap → Option AV := fun args h => (impD 0 h args).bind fun r => gSame r.1 r.2
def kd11 (t : Nat) : Kd := .agg [.int .i64, .str, .int .i64, .bool, .int .u64, .int .u64, .int .u64, .int .u64, .int .i64, .bool, .str, .int .i64, .int .i64]
def q11 (n : Nat) (cs : List AV) (i : Int) : St := (envOf 26 [(0, .sl (some (0, 0)) n (.rel 0)), (1, .sl (some (1, 0)) n (.rel 0)), (5, .int .i64 i)], [.ro cs, .ro cs])
def t11 : Tidy := ⟨dropT 26 [0, 1, 5], .all⟩
def x11 : Tidy := ⟨dropT 26 [], .all⟩
def C11l : Cfg := tbC Q [] (fun k => k == 0 || k == 1) kd11
def C11 (n : Nat) (cs : List AV) : Cfg := { C11l with
  lw := fun id => if id = 4 then some fun st K => st = q11 n cs 0 ∧ K (.exit 0) (envOf 26 [], [.ro cs, .ro cs]) else none
  F := fun id => if id = 4 then t11 else ⟨[], .all⟩ }
noncomputable def tb3 : List TbE := [⟨10, sLive, .of (.one .bool)⟩, ⟨11, sSame, .of (.one .bool)⟩]
noncomputable def C3 : Cfg := tbCF Q tb3 [e8, e9] (fun k => k == 0 || k == 1) kd11
noncomputable def tb5 : List TbE := [⟨10, sLive, .of (.one .bool)⟩, ⟨16, fun vs _ => sBlank vs, .of (.one (.int .i64))⟩, ⟨17, fun vs _ => sHasPrefix vs, .of (.one .bool)⟩]
def q5 (s : List UInt8) (at' : Int) (sl : AV) (n i : Int) (hp : AHeap) : St := (envOf 60 [(0, .str s), (6, .int .i64 at'), (24, sl), (25, .int .i64 n), (26, .int .i64 i)], hp)
def t5 : Tidy := ⟨dropT 60 [0, 6, 24, 25, 26], .auto⟩
def x5 : Tidy := ⟨dropT 60 [0, 6], .rows []⟩
def P5 (s : List UInt8) (sl : AV) (n : Int) (hp : AHeap) : Prop := (((scanF s).2.2 != 0) = false ∧ s.length ≤ 16384) ∧ (((scanF s).1 = [] ∧ sl = nilS ∧ n = 0 ∧ hp = []) ∨ ((scanF s).1 ≠ [] ∧ sl = .sl (some (0, 0)) (scanF s).1.length (.rel 0) ∧ n = (scanF s).1.length ∧ hp = [.row 41 13 (scanF s).1.flatten]))
noncomputable def C5l : Cfg := tbCF Q tb5 [e8] (fun k => k == 0) kd11
noncomputable def C5 (s : List UInt8) : Cfg := { C5l with
  lw := fun id => if id = 6 then some fun st K => ∃ (sl : AV) (n : Int) (hp : AHeap), st = q5 s (blankF s 0) sl n 0 hp ∧ P5 s sl n hp ∧ K (.exit 0) (envOf 60 [(0, .str s), (6, .int .i64 s.length)], []) else none
  F := fun id => if id = 6 then t5 else ⟨[], .all⟩ }
theorem v11 (n : Nat) (cs : List AV) (R : AV → AHeap → Prop) : (askB ((↑n : Int) != (↑n : Int)) (R (AV.bool false) [AObj.ro cs, AObj.ro cs]) ((envOf 26 [(0, AV.sl (some (0, 0)) n (ACap.rel 0)), (1, AV.sl (some (1, 0)) n (ACap.rel 0)), (5, AV.int .i64 0)], [AObj.ro cs, AObj.ro cs]) = (envOf 26 [(0, AV.sl (some (0, 0)) n (ACap.rel 0)), (1, AV.sl (some (1, 0)) n (ACap.rel 0)), (5, AV.int .i64 0)], [AObj.ro cs, AObj.ro cs]) ∧ R (AV.bool true) [AObj.ro cs, AObj.ro cs])) = (wpF Tryd.prog (C11 n cs) 60 p11 [.sl (some (0, 0)) n (.rel 0), .sl (some (1, 0)) n (.rel 0)] [.ro cs, .ro cs] R) := by kernel_rfl
theorem v3 (s : List UInt8) (R : AV → AHeap → Prop) : (askB (decide (List.length s > 16384)) (askB (decide (List.length s > 16384)) (∃ (b : Bool), TbE.s { f := 10, s := sLive, r := Rs.of (Rs1.one K1.bool) } [] [] = some (AV.bool b) ∧ askB b (∃ (b : Bool), TbE.s { f := 11, s := sSame, r := Rs.of (Rs1.one K1.bool) } [AV.sl none 0 (ACap.fix 0), AV.sl none 0 (ACap.fix 0)] [] = some (AV.bool b) ∧ askB b (R (AV.bool true) []) (R (AV.bool false) [])) (R (AV.bool false) [])) (askB (Prod.snd (Prod.snd (scanF s)) != 0) (∃ (b : Bool), TbE.s { f := 10, s := sLive, r := Rs.of (Rs1.one K1.bool) } [] [] = some (AV.bool b) ∧ askB b (askB (0 == (↑(Prod.fst (Prod.snd (scanF s))) : Int)) (askB (3 == Prod.snd (Prod.snd (scanF s))) (∃ (b : Bool), TbE.s { f := 11, s := sSame, r := Rs.of (Rs1.one K1.bool) } [AV.sl none 0 (ACap.fix 0), AV.sl none 0 (ACap.fix 0)] [] = some (AV.bool b) ∧ askB b (R (AV.bool true) []) (R (AV.bool false) [])) (R (AV.bool false) [])) (R (AV.bool false) [])) (R (AV.bool false) [])) (askB (List.isEmpty (Prod.fst (scanF s))) (∃ (b : Bool), TbE.s { f := 10, s := sLive, r := Rs.of (Rs1.one K1.bool) } [] [] = some (AV.bool b) ∧ askB b (R (AV.bool false) []) (R (AV.bool false) [])) (∃ (b : Bool), TbE.s { f := 10, s := sLive, r := Rs.of (Rs1.one K1.bool) } [] [AObj.row 41 13 (List.flatten (Prod.fst (scanF s)))] = some (AV.bool b) ∧ askB b (R (AV.bool false) [AObj.row 41 13 (List.flatten (Prod.fst (scanF s)))]) (R (AV.bool false) [AObj.row 41 13 (List.flatten (Prod.fst (scanF s)))]))))) (askB (Prod.snd (Prod.snd (scanF s)) != 0) (askB (decide (List.length s > 16384)) (∃ (b : Bool), TbE.s { f := 10, s := sLive, r := Rs.of (Rs1.one K1.bool) } [] [] = some (AV.bool b) ∧ askB b (askB ((↑(Prod.fst (Prod.snd (scanF s))) : Int) == 0) (askB (Prod.snd (Prod.snd (scanF s)) == 3) (∃ (b : Bool), TbE.s { f := 11, s := sSame, r := Rs.of (Rs1.one K1.bool) } [AV.sl none 0 (ACap.fix 0), AV.sl none 0 (ACap.fix 0)] [] = some (AV.bool b) ∧ askB b (R (AV.bool true) []) (R (AV.bool false) [])) (R (AV.bool false) [])) (R (AV.bool false) [])) (R (AV.bool false) [])) (askB (Prod.snd (Prod.snd (scanF s)) != 0) (∃ (b : Bool), TbE.s { f := 10, s := sLive, r := Rs.of (Rs1.one K1.bool) } [] [] = some (AV.bool b) ∧ askB b (askB ((↑(Prod.fst (Prod.snd (scanF s))) : Int) == (↑(Prod.fst (Prod.snd (scanF s))) : Int)) (askB (Prod.snd (Prod.snd (scanF s)) == Prod.snd (Prod.snd (scanF s))) (∃ (b : Bool), TbE.s { f := 11, s := sSame, r := Rs.of (Rs1.one K1.bool) } [AV.sl none 0 (ACap.fix 0), AV.sl none 0 (ACap.fix 0)] [] = some (AV.bool b) ∧ askB b (R (AV.bool true) []) (R (AV.bool false) [])) (R (AV.bool false) [])) (R (AV.bool false) [])) (R (AV.bool false) [])) (askB (List.isEmpty (Prod.fst (scanF s))) (∃ (b : Bool), TbE.s { f := 10, s := sLive, r := Rs.of (Rs1.one K1.bool) } [] [] = some (AV.bool b) ∧ askB b (askB ((↑(Prod.fst (Prod.snd (scanF s))) : Int) == 0) (askB (Prod.snd (Prod.snd (scanF s)) == 0) (∃ (b : Bool), TbE.s { f := 11, s := sSame, r := Rs.of (Rs1.one K1.bool) } [AV.sl none 0 (ACap.fix 0), AV.sl none 0 (ACap.fix 0)] [] = some (AV.bool b) ∧ askB b (R (AV.bool true) []) (R (AV.bool false) [])) (R (AV.bool false) [])) (R (AV.bool false) [])) (R (AV.bool false) [])) (∃ (b : Bool), TbE.s { f := 10, s := sLive, r := Rs.of (Rs1.one K1.bool) } [] [AObj.row 41 13 (List.flatten (Prod.fst (scanF s)))] = some (AV.bool b) ∧ askB b (askB ((↑(Prod.fst (Prod.snd (scanF s))) : Int) == 0) (askB (Prod.snd (Prod.snd (scanF s)) == 0) (∃ (b : Bool), TbE.s { f := 11, s := sSame, r := Rs.of (Rs1.one K1.bool) } [AV.sl none 0 (ACap.fix 0), AV.sl (some (0, 0)) (List.length (Prod.fst (scanF s))) (ACap.rel 0)] [AObj.row 41 13 (List.flatten (Prod.fst (scanF s)))] = some (AV.bool b) ∧ askB b (R (AV.bool true) [AObj.row 41 13 (List.flatten (Prod.fst (scanF s)))]) (R (AV.bool false) [AObj.row 41 13 (List.flatten (Prod.fst (scanF s)))])) (R (AV.bool false) [AObj.row 41 13 (List.flatten (Prod.fst (scanF s)))])) (R (AV.bool false) [AObj.row 41 13 (List.flatten (Prod.fst (scanF s)))])) (R (AV.bool false) [AObj.row 41 13 (List.flatten (Prod.fst (scanF s)))]))))) (askB (List.isEmpty (Prod.fst (scanF s))) (askB (decide (List.length s > 16384)) (∃ (b : Bool), TbE.s { f := 10, s := sLive, r := Rs.of (Rs1.one K1.bool) } [] [] = some (AV.bool b) ∧ askB b (R (AV.bool false) []) (R (AV.bool false) [])) (askB (Prod.snd (Prod.snd (scanF s)) != 0) (∃ (b : Bool), TbE.s { f := 10, s := sLive, r := Rs.of (Rs1.one K1.bool) } [] [] = some (AV.bool b) ∧ askB b (askB (0 == (↑(Prod.fst (Prod.snd (scanF s))) : Int)) (askB (0 == Prod.snd (Prod.snd (scanF s))) (∃ (b : Bool), TbE.s { f := 11, s := sSame, r := Rs.of (Rs1.one K1.bool) } [AV.sl none 0 (ACap.fix 0), AV.sl none 0 (ACap.fix 0)] [] = some (AV.bool b) ∧ askB b (R (AV.bool true) []) (R (AV.bool false) [])) (R (AV.bool false) [])) (R (AV.bool false) [])) (R (AV.bool false) [])) (askB (List.isEmpty (Prod.fst (scanF s))) (∃ (b : Bool), TbE.s { f := 10, s := sLive, r := Rs.of (Rs1.one K1.bool) } [] [] = some (AV.bool b) ∧ askB b (∃ (b : Bool), TbE.s { f := 11, s := sSame, r := Rs.of (Rs1.one K1.bool) } [AV.sl none 0 (ACap.fix 0), AV.sl none 0 (ACap.fix 0)] [] = some (AV.bool b) ∧ askB b (R (AV.bool true) []) (R (AV.bool false) [])) (R (AV.bool false) [])) (∃ (b : Bool), TbE.s { f := 10, s := sLive, r := Rs.of (Rs1.one K1.bool) } [] [AObj.row 41 13 (List.flatten (Prod.fst (scanF s)))] = some (AV.bool b) ∧ askB b (∃ (b : Bool), TbE.s { f := 11, s := sSame, r := Rs.of (Rs1.one K1.bool) } [AV.sl none 0 (ACap.fix 0), AV.sl (some (0, 0)) (List.length (Prod.fst (scanF s))) (ACap.rel 0)] [AObj.row 41 13 (List.flatten (Prod.fst (scanF s)))] = some (AV.bool b) ∧ askB b (R (AV.bool true) [AObj.row 41 13 (List.flatten (Prod.fst (scanF s)))]) (R (AV.bool false) [AObj.row 41 13 (List.flatten (Prod.fst (scanF s)))])) (R (AV.bool false) [AObj.row 41 13 (List.flatten (Prod.fst (scanF s)))]))))) (askB (decide (List.length s > 16384)) (∃ (b : Bool), TbE.s { f := 10, s := sLive, r := Rs.of (Rs1.one K1.bool) } [] [AObj.row 41 13 (List.flatten (Prod.fst (scanF s)))] = some (AV.bool b) ∧ askB b (R (AV.bool false) [AObj.row 41 13 (List.flatten (Prod.fst (scanF s)))]) (R (AV.bool false) [AObj.row 41 13 (List.flatten (Prod.fst (scanF s)))])) (askB (Prod.snd (Prod.snd (scanF s)) != 0) (∃ (b : Bool), TbE.s { f := 10, s := sLive, r := Rs.of (Rs1.one K1.bool) } [] [AObj.row 41 13 (List.flatten (Prod.fst (scanF s)))] = some (AV.bool b) ∧ askB b (askB (0 == (↑(Prod.fst (Prod.snd (scanF s))) : Int)) (askB (0 == Prod.snd (Prod.snd (scanF s))) (∃ (b : Bool), TbE.s { f := 11, s := sSame, r := Rs.of (Rs1.one K1.bool) } [AV.sl (some (0, 0)) (List.length (Prod.fst (scanF s))) (ACap.rel 0), AV.sl none 0 (ACap.fix 0)] [AObj.row 41 13 (List.flatten (Prod.fst (scanF s)))] = some (AV.bool b) ∧ askB b (R (AV.bool true) [AObj.row 41 13 (List.flatten (Prod.fst (scanF s)))]) (R (AV.bool false) [AObj.row 41 13 (List.flatten (Prod.fst (scanF s)))])) (R (AV.bool false) [AObj.row 41 13 (List.flatten (Prod.fst (scanF s)))])) (R (AV.bool false) [AObj.row 41 13 (List.flatten (Prod.fst (scanF s)))])) (R (AV.bool false) [AObj.row 41 13 (List.flatten (Prod.fst (scanF s)))])) (askB (List.isEmpty (Prod.fst (scanF s))) (∃ (b : Bool), TbE.s { f := 10, s := sLive, r := Rs.of (Rs1.one K1.bool) } [] [AObj.row 41 13 (List.flatten (Prod.fst (scanF s)))] = some (AV.bool b) ∧ askB b (∃ (b : Bool), TbE.s { f := 11, s := sSame, r := Rs.of (Rs1.one K1.bool) } [AV.sl (some (0, 0)) (List.length (Prod.fst (scanF s))) (ACap.rel 0), AV.sl none 0 (ACap.fix 0)] [AObj.row 41 13 (List.flatten (Prod.fst (scanF s)))] = some (AV.bool b) ∧ askB b (R (AV.bool true) [AObj.row 41 13 (List.flatten (Prod.fst (scanF s)))]) (R (AV.bool false) [AObj.row 41 13 (List.flatten (Prod.fst (scanF s)))])) (R (AV.bool false) [AObj.row 41 13 (List.flatten (Prod.fst (scanF s)))])) (∃ (b : Bool), TbE.s { f := 10, s := sLive, r := Rs.of (Rs1.one K1.bool) } [] [AObj.row 41 13 (List.flatten (Prod.fst (scanF s))), AObj.row 41 13 (List.flatten (Prod.fst (scanF s)))] = some (AV.bool b) ∧ askB b (∃ (b : Bool), TbE.s { f := 11, s := sSame, r := Rs.of (Rs1.one K1.bool) } [AV.sl (some (0, 0)) (List.length (Prod.fst (scanF s))) (ACap.rel 0), AV.sl (some (1, 0)) (List.length (Prod.fst (scanF s))) (ACap.rel 0)] [AObj.row 41 13 (List.flatten (Prod.fst (scanF s))), AObj.row 41 13 (List.flatten (Prod.fst (scanF s)))] = some (AV.bool b) ∧ askB b (R (AV.bool true) [AObj.row 41 13 (List.flatten (Prod.fst (scanF s))), AObj.row 41 13 (List.flatten (Prod.fst (scanF s)))]) (R (AV.bool false) [AObj.row 41 13 (List.flatten (Prod.fst (scanF s))), AObj.row 41 13 (List.flatten (Prod.fst (scanF s)))])) (R (AV.bool false) [AObj.row 41 13 (List.flatten (Prod.fst (scanF s))), AObj.row 41 13 (List.flatten (Prod.fst (scanF s)))])))))))) = (wpF Tryd.prog C3 80 p3 [.str s] [] R) := by kernel_rfl
theorem v5 (s : List UInt8) (R : AV → AHeap → Prop) : (askB (decide (List.length s > 16384)) (∃ (b : Bool), TbE.s { f := 10, s := sLive, r := Rs.of (Rs1.one K1.bool) } [] [] = some (AV.bool b) ∧ askB b (R (AV.bool true) []) (R (AV.bool false) [])) (askB (Prod.snd (Prod.snd (scanF s)) != 0) (askB (Prod.snd (Prod.snd (scanF s)) != 0) (∃ (b : Bool), TbE.s { f := 10, s := sLive, r := Rs.of (Rs1.one K1.bool) } [] [] = some (AV.bool b) ∧ askB b (R (AV.bool true) []) (R (AV.bool false) [])) (∃ (b : Bool), TbE.s { f := 10, s := sLive, r := Rs.of (Rs1.one K1.bool) } [] [] = some (AV.bool b) ∧ askB b (∃ (n : Int), sBlank [AV.str s, AV.int .i64 0] = some (AV.int .i64 n) ∧ ∃ (sl : AV), ∃ (n_1 : Int), ∃ (hp : AHeap), (envOf 60 [(0, AV.str s), (6, AV.int .i64 n), (24, AV.sl none 0 (ACap.fix 0)), (25, AV.int .i64 0), (26, AV.int .i64 0)], ([] : AHeap)) = (envOf 60 [(0, AV.str s), (6, AV.int .i64 (blankF s 0)), (24, sl), (25, AV.int .i64 n_1), (26, AV.int .i64 0)], hp) ∧ P5 s sl n_1 hp ∧ askB ((↑(List.length s) : Int) == (↑(List.length s) : Int)) (R (AV.bool true) []) (R (AV.bool false) [])) (∃ (b : Bool), TbE.s { f := 10, s := sLive, r := Rs.of (Rs1.one K1.bool) } [] [] = some (AV.bool b) ∧ askB b (R (AV.bool true) []) (R (AV.bool false) [])))) (askB (List.isEmpty (Prod.fst (scanF s))) (∃ (b : Bool), TbE.s { f := 10, s := sLive, r := Rs.of (Rs1.one K1.bool) } [] [] = some (AV.bool b) ∧ askB b (∃ (n : Int), sBlank [AV.str s, AV.int .i64 0] = some (AV.int .i64 n) ∧ ∃ (sl : AV), ∃ (n_1 : Int), ∃ (hp : AHeap), (envOf 60 [(0, AV.str s), (6, AV.int .i64 n), (24, AV.sl none 0 (ACap.fix 0)), (25, AV.int .i64 0), (26, AV.int .i64 0)], ([] : AHeap)) = (envOf 60 [(0, AV.str s), (6, AV.int .i64 (blankF s 0)), (24, sl), (25, AV.int .i64 n_1), (26, AV.int .i64 0)], hp) ∧ P5 s sl n_1 hp ∧ askB ((↑(List.length s) : Int) == (↑(List.length s) : Int)) (R (AV.bool true) []) (R (AV.bool false) [])) (∃ (b : Bool), TbE.s { f := 10, s := sLive, r := Rs.of (Rs1.one K1.bool) } [] [] = some (AV.bool b) ∧ askB b (R (AV.bool true) []) (R (AV.bool false) []))) (∃ (b : Bool), TbE.s { f := 10, s := sLive, r := Rs.of (Rs1.one K1.bool) } [] [AObj.row 41 13 (List.flatten (Prod.fst (scanF s)))] = some (AV.bool b) ∧ askB b (∃ (n : Int), sBlank [AV.str s, AV.int .i64 0] = some (AV.int .i64 n) ∧ chkW (objClosed (AObj.row 41 13 (List.flatten (Prod.fst (scanF s))))) (∃ (sl : AV), ∃ (n_1 : Int), ∃ (hp : AHeap), (envOf 60 [(0, AV.str s), (6, AV.int .i64 n), (24, AV.sl (some (0, 0)) (List.length (Prod.fst (scanF s))) (ACap.rel 0)), (25, AV.int .i64 (↑(List.length (Prod.fst (scanF s))) : Int)), (26, AV.int .i64 0)], [AObj.row 41 13 (List.flatten (Prod.fst (scanF s)))]) = (envOf 60 [(0, AV.str s), (6, AV.int .i64 (blankF s 0)), (24, sl), (25, AV.int .i64 n_1), (26, AV.int .i64 0)], hp) ∧ P5 s sl n_1 hp ∧ askB ((↑(List.length s) : Int) == (↑(List.length s) : Int)) (R (AV.bool true) []) (R (AV.bool false) []))) (∃ (b : Bool), TbE.s { f := 10, s := sLive, r := Rs.of (Rs1.one K1.bool) } [] [AObj.row 41 13 (List.flatten (Prod.fst (scanF s)))] = some (AV.bool b) ∧ askB b (R (AV.bool true) [AObj.row 41 13 (List.flatten (Prod.fst (scanF s)))]) (R (AV.bool false) [AObj.row 41 13 (List.flatten (Prod.fst (scanF s)))])))))) = (wpF Tryd.prog (C5 s) 80 p5 [.str s] [] R) := by kernel_rfl
theorem fl_at : ∀ {toks : List (List AV)} (i : Nat) (hi : i < toks.length), (∀ t ∈ toks, Shaped t) → (toks.flatten.drop (i * 13)).take 13 = toks[i]
  | t :: toks, 0, hi, h => by
    have ht := shaped_len (h t (List.mem_cons_self ..))
    rw [Nat.zero_mul, List.drop_zero, List.flatten_cons, List.take_left' ht]
    rfl
  | t :: toks, i + 1, hi, h => by
    have ht := shaped_len (h t (List.mem_cons_self ..))
    have hl : i < toks.length := by simpa using hi
    rw [List.flatten_cons, show (i + 1) * 13 = t.length + i * 13 by rw [ht]; omega, ← List.drop_drop, List.drop_left, fl_at i hl fun u hu => h u (List.mem_cons_of_mem _ hu)]
    rfl
theorem load_at {toks : List (List AV)} {i : Nat} (hi : i < toks.length) (h : ∀ t ∈ toks, Shaped t) : partR (some 13) toks.flatten (0 + i * 13) = some (.agg toks[i]) := by
  have hl := fl_len h
  rw [Nat.zero_add]
  unfold partR
  simp only []
  rw [if_pos (by omega), fl_at i hi h]
theorem tb0_ok : (tbS Q []).OK Tryd.prog := tbS_ok quietText (by simp)
def Chain (s : List UInt8) : Nat → List (List AV) → Prop
  | p, [] => p = s.length
  | p, t :: ts => p < s.length ∧ (nextF s p).2 = 0 ∧ t = (nextF s p).1 ∧ Chain s (blankN s (p + (tokText t).length)) ts
theorem tok_le {s : List UInt8} {i : Nat} (hi : i < s.length) (h : (nextF s i).2 = 0) : 1 ≤ (tokText (nextF s i).1).length ∧ i + (tokText (nextF s i).1).length ≤ s.length := by
  obtain ⟨k, k1, k2, k3, k4⟩ := next_tok hi h
  rw [k3, List.length_take, List.length_drop]; omega
theorem scan_chain (s : List UInt8) : ∀ (f i : Nat) (acc : List (List AV)), i ≤ s.length → s.length + 1 ≤ f + i → 1 ≤ f → (scanFrom s f i acc).2.2 = 0 → ∃ ts, (scanFrom s f i acc).1 = acc ++ ts ∧ Chain s i ts ∧ ts.length + i ≤ s.length
  | f + 1, i, acc, h1, h2, h3, h => by
    rw [scanFrom] at h ⊢
    split at h
    · rename_i hi
      rw [if_pos hi]
      split at h
      · rename_i he
        rw [h] at he; cases he
      · rename_i he
        rw [if_neg he]
        have he' : (nextF s i).2 = 0 := by
          rcases Decidable.em ((nextF s i).2 = 0) with e | e
          · exact e
          · exact absurd (bne_iff_ne.2 e) he
        obtain ⟨t1, t2⟩ := tok_le hi he'
        have hb := blankN_le (s := s) (i := i + (tokText (nextF s i).1).length) t2
        obtain ⟨ts, e1, e2, e3⟩ := scan_chain s f (blankN s (i + (tokText (nextF s i).1).length)) (acc ++ [(nextF s i).1]) hb.2 (by omega) (by omega) h
        refine ⟨(nextF s i).1 :: ts, ?_, ⟨hi, he', rfl, e2⟩, ?_⟩
        · rw [e1, List.append_assoc]; rfl
        · simp only [List.length_cons]; omega
    · rename_i hi
      rw [if_neg hi]
      exact ⟨[], (List.append_nil _).symm, by show i = s.length; omega, by simpa using h1⟩
theorem scanF_chain {s : List UInt8} (h : (scanF s).2.2 = 0) : Chain s (blankN s 0) (scanF s).1 ∧ (scanF s).1.length ≤ s.length := by
  have hb := blankN_le (s := s) (i := 0) (Nat.zero_le _)
  obtain ⟨ts, e1, e2, e3⟩ := scan_chain s (s.length + 1) (blankN s 0) [] hb.2 (by omega) (by omega) h
  have e1' : (scanF s).1 = ts := e1
  rw [e1']
  exact ⟨e2, by omega⟩
theorem scan_err {s : List UInt8} (h : ((scanF s).2.2 != 0) = false) : (scanF s).2.2 = 0 := by
  rw [bne, Bool.not_eq_false'] at h; exact beq_iff_eq.1 h

end Go.Proofs.YtahdfjmdoljgiaaDoor
