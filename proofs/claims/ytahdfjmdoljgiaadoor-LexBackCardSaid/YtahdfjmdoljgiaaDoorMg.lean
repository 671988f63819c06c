/- Written by merging: Lza Lzb Lzc Lzd Lze Lzf Lzg Lzh. -/
import Derived.Test.YtahdfjmdoljgiaaDoorMf
import Derived.Test.YtahdfjmdoljgiaaDoorMe
import Derived.Test.YtahdfjmdoljgiaaDoorAmHf
import Derived.Test.YtahdfjmdoljgiaaDoorShelf
namespace Go.Proofs.YtahdfjmdoljgiaaDoor
open Go Go.Am Go.RowKit
set_option maxRecDepth 100000
set_option maxHeartbeats 1000000
set_option linter.unusedVariables false
set_option linter.unusedSimpArgs false

/-- What may stand behind a word. -/
def Rst (r : List UInt8) : Prop := r = [] ∨ ∃ r', r = 32 :: r'
theorem run_all : ∀ (w : List UInt8), runF w = w.length → ∀ c ∈ w, lod c = true
  | [], _, c, hc => by cases hc
  | d :: w, h, c, hc => by
    rw [runF] at h
    split at h
    · rename_i hd
      simp only [List.length_cons] at h
      rcases List.mem_cons.1 hc with rfl | hc
      · exact hd
      · exact run_all w (by omega) c hc
    · simp at h
theorem run_ext : ∀ (w r : List UInt8), (∀ c ∈ w, lod c = true) → Rst r → runF (w ++ r) = w.length
  | [], r, _, h => by
    rcases h with rfl | ⟨r', rfl⟩
    · rfl
    · rw [List.nil_append, runF, if_neg (by decide)]; rfl
  | c :: w, r, hw, h => by
    rw [List.cons_append, runF, if_pos (hw c (List.mem_cons_self ..)), run_ext w r (fun d hd => hw d (List.mem_cons_of_mem _ hd)) h, List.length_cons]
theorem run_take : ∀ (l : List UInt8), runF (l.take (runF l)) = (l.take (runF l)).length
  | [] => rfl
  | c :: l => by
    rw [runF]
    split
    · rename_i h
      rw [List.take_succ_cons, runF, if_pos h, run_take l, List.length_cons]
    · rfl
theorem pfx_ext (fr : Nat) (f0 : UInt8) : ∀ (l r : List UInt8) (i : Nat) (sm pt : Bool) (best : Nat), Rst r → pfxR fr f0 (l ++ r) i sm pt best = pfxR fr f0 l i sm pt best
  | [], r, i, sm, pt, best, h => by
    rcases h with rfl | ⟨r', rfl⟩
    · rfl
    · have e1 : ((32 : UInt8) == 46 && !pt && decide (fr < i)) = false := rfl
      have e2 : (!isD 32 || (!pt && decide (fr < i) && f0 == 48)) = true := rfl
      show pfxR fr f0 (32 :: r') i sm pt best = best
      rw [pfxR.eq_2, e1, e2]; rfl
  | c :: l, r, i, sm, pt, best, h => by
    rw [List.cons_append, pfxR, pfxR, pfx_ext fr f0 l r _ _ _ _ h, pfx_ext fr f0 l r _ _ _ _ h]
theorem qd_ext : ∀ (l r : List UInt8) (k : Nat), qd l k ≠ 0 → qd (l ++ r) k = qd l k
  | [], r, k, h => absurd rfl h
  | [c], r, k, h => by
    unfold qd at h
    have hc : (c == 34) = true := by
      cases e : (c == 34) with
      | true => rfl
      | false => rw [e] at h; exact absurd rfl h
    have e2 : qd [c] k = k + 1 := if_pos hc
    rw [e2]
    cases r with
    | nil => exact if_pos hc
    | cons d r => exact if_pos hc
  | c :: x :: l, r, k, h => by
    rw [List.cons_append, List.cons_append]
    rw [qd] at h ⊢
    rw [qd]
    split
    · rfl
    · rename_i h1
      rw [if_neg h1] at h
      split
      · rename_i h2
        rw [if_pos h2] at h
        exact qd_ext l r (k + 2) h
      · rename_i h2
        rw [if_neg h2] at h
        exact qd_ext (x :: l) r (k + 1) h
theorem qd_take : ∀ (l : List UInt8) (k : Nat), qd l k ≠ 0 → qd (l.take (qd l k - k)) k = qd l k
  | [], k, h => absurd rfl h
  | [c], k, h => by
    unfold qd at h
    have hc : (c == 34) = true := by
      cases e : (c == 34) with
      | true => rfl
      | false => rw [e] at h; exact absurd rfl h
    have e2 : qd [c] k = k + 1 := if_pos hc
    rw [e2, show k + 1 - k = 1 by omega]
    exact e2
  | c :: x :: l, k, h => by
    by_cases h1 : (c == 34) = true
    · have e : qd (c :: x :: l) k = k + 1 := if_pos h1
      rw [e, show k + 1 - k = 1 by omega]
      exact if_pos h1
    · by_cases h2 : (c == 92) = true
      · have e : qd (c :: x :: l) k = qd l (k + 2) := by rw [qd, if_neg h1, if_pos h2]
        rw [e] at h ⊢
        have hk : k + 2 < qd l (k + 2) := by
          have := qd_shift l 0 (k + 2)
          rw [Nat.zero_add] at this
          by_cases z : qd l 0 = 0
          · rw [if_pos z] at this; exact absurd this h
          · rw [if_neg z] at this; omega
        have ih := qd_take l (k + 2) h
        rw [show qd l (k + 2) - k = (qd l (k + 2) - (k + 2)) + 2 by omega, List.take_succ_cons, List.take_succ_cons, qd, if_neg h1, if_pos h2]
        exact ih
      · have e : qd (c :: x :: l) k = qd (x :: l) (k + 1) := by rw [qd, if_neg h1, if_neg h2]
        rw [e] at h ⊢
        have hk : k + 1 < qd (x :: l) (k + 1) := by
          have := qd_shift (x :: l) 0 (k + 1)
          rw [Nat.zero_add] at this
          by_cases z : qd (x :: l) 0 = 0
          · rw [if_pos z] at this; exact absurd this h
          · rw [if_neg z] at this; omega
        have ih := qd_take (x :: l) (k + 1) h
        rw [show qd (x :: l) (k + 1) - k = (qd (x :: l) (k + 1) - (k + 1)) + 1 by omega, List.take_succ_cons]
        generalize hw : (x :: l).take (qd (x :: l) (k + 1) - (k + 1)) = w at ih ⊢
        cases w with
        | nil =>
          have := congrArg List.length hw
          simp only [List.length_take, List.length_cons, List.length_nil] at this
          omega
        | cons y w =>
          rw [qd, if_neg h1, if_neg h2]
          exact ih
theorem getD_app {w r : List UInt8} {i : Nat} (h : i < w.length) : (w ++ r).getD i 0 = w.getD i 0 := by
  rw [List.getD_eq_getElem?_getD, List.getElem?_append_left h, ← List.getD_eq_getElem?_getD]
theorem getD_take {t : List UInt8} {i k : Nat} (h : i < k) : (t.take k).getD i 0 = t.getD i 0 := by
  rw [List.getD_eq_getElem?_getD, List.getElem?_take_of_lt h, ← List.getD_eq_getElem?_getD]
theorem prefix_ext {w r : List UInt8} (hw : wR w = true) (h : Rst r) : prefixF (w ++ r) = w.length := by
  have hl : 0 < w.length := by
    cases w with
    | nil => rw [wR_nil] at hw; cases hw
    | cons _ _ => simp
  have hp := (wR_len hl).1 hw
  have hR := prefix_R w
  have h1 := pr_best (frB w) (w.getD (frB w) 0) (w.drop (frB w)) (frB w) false false 0 (Nat.zero_le _)
  rw [← hR] at h1
  have hlt : frB w < w.length := by omega
  have hn : negB (w ++ r) = negB w := by
    unfold negB
    rw [getD_app hl, decide_eq_true hl, decide_eq_true (by rw [List.length_append]; omega)]
  have hfr : frB (w ++ r) = frB w := by unfold frB; rw [hn]
  rw [prefix_R (w ++ r), hfr, getD_app hlt, List.drop_append_of_le_length (by omega), pfx_ext _ _ _ _ _ _ _ _ h, ← hR]
  exact hp
theorem quoted_ext {t r : List UInt8} (h : quotedF t ≠ 0) : quotedF (t.take (quotedF t) ++ r) = (t.take (quotedF t)).length := by
  have hle := quoted_le t
  have hlen : (t.take (quotedF t)).length = quotedF t := by rw [List.length_take]; omega
  have hd : (t.take (quotedF t)).drop 1 = (t.drop 1).take (quotedF t - 1) := by rw [List.drop_take]
  have hq : qd ((t.take (quotedF t)).drop 1) 1 = quotedF t := by
    rw [hd]; exact qd_take (t.drop 1) 1 h
  rw [hlen]
  unfold quotedF at hq ⊢
  rw [List.drop_append_of_le_length (by show 1 ≤ (t.take (quotedF t)).length; omega), qd_ext _ _ _ (by rw [hq]; exact h)]
  exact hq
theorem sym_ext {t r : List UInt8} (h0 : 0 < t.length) (hne : (symF t == []) = false) (hr : Rst r) : symF (symF t ++ r) = symF t := by
  have hY := symF_two t h0
  by_cases c : (decide (1 < t.length) && symR (t.take 2)) = true
  · rw [if_pos c] at hY
    simp only [Bool.and_eq_true, decide_eq_true_eq] at c
    have hl : (t.take 2).length = 2 := by rw [List.length_take]; omega
    rw [hY, symF_two _ (by rw [List.length_append]; omega), List.take_left' hl, if_pos (by rw [c.2, decide_eq_true (by rw [List.length_append]; omega)]; rfl)]
  · rw [if_neg c] at hY
    by_cases c2 : symR (t.take 1) = true
    · rw [if_pos c2] at hY
      have hl : (t.take 1).length = 1 := by rw [List.length_take]; omega
      obtain ⟨x, hx⟩ : ∃ x, t.take 1 = [x] := by
        cases t with
        | nil => cases h0
        | cons x l => exact ⟨x, rfl⟩
      have c3 : symR [x] = true := by rw [← hx]; exact c2
      rw [hY, hx]
      rcases hr with rfl | ⟨r', rfl⟩
      · rw [symF_two _ (by simp)]
        have e1 : List.take 1 ([x] ++ []) = [x] := rfl
        rw [if_neg (by simp), e1, if_pos c3]
      · rw [symF_two _ (by simp)]
        have e2 : List.take 2 ([x] ++ 32 :: r') = [x, 32] := rfl
        have e1 : List.take 1 ([x] ++ 32 :: r') = [x] := rfl
        rw [e2, e1, sym2, if_neg (by rw [show ((61 : UInt8) == 32) = false from rfl, Bool.and_false, Bool.and_false]; decide), if_pos c3]
    · rw [if_neg c2] at hY
      rw [hY] at hne; cases hne
def at12 (l : List AV) (q : Int) : List AV := l.set 12 (.int .i64 q)
/-- A word that stands at the head of a text, with a blank or nothing behind it, is that word. -/
theorem next_again {t r : List UInt8} {p q : Int} (h0 : 0 < t.length) (h : (nextAt t p).2 = 0) (hr : Rst r) : nextAt (tokText (nextAt t p).1 ++ r) q = (at12 (nextAt t p).1 q, 0) := by
  have hrl := run_le t
  have hpl := prefix_le t
  have hql := quoted_le t
  have first : ∀ k, 1 ≤ k → k ≤ t.length → (t.take k ++ r).getD 0 0 = t.getD 0 0 := fun k h1 h2 => by
    rw [getD_app (by rw [List.length_take]; omega), getD_take (by omega)]
  by_cases g1 : letterF (t.getD 0 0) = true
  · have hX : nextAt t p = if nameF (t.take (runF t)) then (tokName t p, 0) else (z13, 70) := by unfold nextAt; rw [if_pos g1]
    by_cases g : nameF (t.take (runF t)) = true
    · rw [hX, if_pos g]
      have hk := run_pos h0 g1
      have hl : (t.take (runF t)).length = runF t := by rw [List.length_take]; omega
      have hrun : runF (t.take (runF t) ++ r) = (t.take (runF t)).length := run_ext _ _ (run_all _ (run_take t)) hr
      show nextAt (t.take (runF t) ++ r) q = _
      unfold nextAt
      rw [first _ hk hrl, if_pos g1, hrun, List.take_left' rfl, if_pos g]
      unfold tokName
      rw [hrun, List.take_left' rfl]; rfl
    · rw [hX, if_neg g] at h; cases h
  · by_cases g2 : isD (t.getD 0 0) = true
    · have hX : nextAt t p = if numOK (t.take (prefixF t)) then (tokNum t p, 0) else (z13, 70) := by unfold nextAt; rw [if_neg g1, if_pos g2]
      by_cases g : numOK (t.take (prefixF t)) = true
      · rw [hX, if_pos g]
        have hk : 1 ≤ prefixF t := by
          rcases Nat.eq_zero_or_pos (prefixF t) with e | e
          · rw [e, List.take_zero, num_nil] at g; cases g
          · exact e
        have hw : wR (t.take (prefixF t)) = true := by
          rw [← err30]
          unfold numOK at g
          rw [beq_iff_eq] at g
          rw [g]; rfl
        have hpf := prefix_ext hw hr
        show nextAt (t.take (prefixF t) ++ r) q = _
        unfold nextAt
        rw [first _ hk hpl, if_neg g1, if_pos g2, hpf, List.take_left' rfl, if_pos g]
        unfold tokNum
        rw [hpf, List.take_left' rfl]; rfl
      · rw [hX, if_neg g] at h; cases h
    · by_cases g3 : (t.getD 0 0 == 34) = true
      · have hX : nextAt t p = if quoOK (t.take (quotedF t)) then (tokQuo t p, 0) else (z13, 70) := by unfold nextAt; rw [if_neg g1, if_neg g2, if_pos g3]
        by_cases g : quoOK (t.take (quotedF t)) = true
        · rw [hX, if_pos g]
          have hk : quotedF t ≠ 0 := fun e => by rw [e, List.take_zero, quo_nil] at g; cases g
          have hqf := quoted_ext (r := r) hk
          show nextAt (t.take (quotedF t) ++ r) q = _
          unfold nextAt
          rw [first _ (by omega) hql, if_neg g1, if_neg g2, if_pos g3, hqf, List.take_left' rfl, if_pos g]
          unfold tokQuo
          rw [hqf, List.take_left' rfl]; rfl
        · rw [hX, if_neg g] at h; cases h
      · have hX : nextAt t p = if symF t == [] then (z13, 70) else (tokSym t p, 0) := by unfold nextAt; rw [if_neg g1, if_neg g2, if_neg g3]
        cases g : (symF t == []) with
        | true => rw [hX, if_pos g] at h; cases h
        | false =>
          rw [hX, if_neg (by rw [g]; decide)]
          have hs := sym_ext h0 g hr
          have hf : (symF t ++ r).getD 0 0 = t.getD 0 0 := by
            have hY := symF_two t h0
            by_cases c : (decide (1 < t.length) && symR (t.take 2)) = true
            · rw [if_pos c] at hY
              simp only [Bool.and_eq_true, decide_eq_true_eq] at c
              rw [hY]; exact first 2 (by omega) (by omega)
            · rw [if_neg c] at hY
              by_cases c2 : symR (t.take 1) = true
              · rw [if_pos c2] at hY
                rw [hY]; exact first 1 (by omega) (by omega)
              · rw [if_neg c2] at hY
                rw [hY] at g; cases g
          show nextAt (symF t ++ r) q = _
          unfold nextAt
          rw [hf, if_neg g1, if_neg g2, if_neg g3, hs, if_neg (by rw [g]; decide)]
          unfold tokSym
          rw [hs]; rfl
def okF (c : UInt8) : Bool := !isBl c && !(c == 47)
theorem okF_all : ∀ n : Fin 256, (letterF n.1.toUInt8 || isD n.1.toUInt8 || n.1.toUInt8 == 34 || symR [n.1.toUInt8] || 33 == n.1.toUInt8 || 60 == n.1.toUInt8 || 62 == n.1.toUInt8) = true → okF n.1.toUInt8 = true := by decide +kernel
theorem okF_of {c : UInt8} (h : (letterF c || isD c || c == 34 || symR [c] || 33 == c || 60 == c || 62 == c) = true) : okF c = true := by
  have := okF_all ⟨c.toNat, c.toNat_lt⟩
  rw [tou] at this
  exact this h
/-- No word begins with a blank, or with a slash. -/
theorem first_ok {t : List UInt8} {p : Int} (h0 : 0 < t.length) (h : (nextAt t p).2 = 0) : okF (t.getD 0 0) = true := by
  apply okF_of
  by_cases g1 : letterF (t.getD 0 0) = true
  · rw [g1]; rfl
  · by_cases g2 : isD (t.getD 0 0) = true
    · rw [g2]; simp
    · by_cases g3 : (t.getD 0 0 == 34) = true
      · rw [g3]; simp
      · have hX : nextAt t p = if symF t == [] then (z13, 70) else (tokSym t p, 0) := by unfold nextAt; rw [if_neg g1, if_neg g2, if_neg g3]
        cases g : (symF t == []) with
        | true => rw [hX, if_pos g] at h; cases h
        | false =>
          have hY := symF_two t h0
          by_cases c : (decide (1 < t.length) && symR (t.take 2)) = true
          · simp only [Bool.and_eq_true, decide_eq_true_eq] at c
            match t, h0, c with
            | x :: y :: l, _, c =>
              have c2 : symR [x, y] = true := c.2
              rw [sym2] at c2
              simp only [Bool.and_eq_true] at c2
              have c3 := c2.1
              show (letterF x || isD x || x == 34 || symR [x] || 33 == x || 60 == x || 62 == x) = true
              simp only [Bool.or_eq_true] at c3 ⊢
              rcases c3 with (c3 | c3) | c3
              · exact .inl (.inl (.inr c3))
              · exact .inl (.inr c3)
              · exact .inr c3
          · rw [if_neg c] at hY
            by_cases c2 : symR (t.take 1) = true
            · match t, h0, c2 with
              | x :: l, _, c2 =>
                have c3 : symR [x] = true := c2
                show (letterF x || isD x || x == 34 || symR [x] || 33 == x || 60 == x || 62 == x) = true
                rw [c3]; simp
            · rw [if_neg c2] at hY
              rw [hY] at g; cases g
theorem blk_first {t : List UInt8} (h : okF (t.getD 0 0) = true) (h0 : 0 < t.length) : blk t false = 0 := by
  cases t with
  | nil => cases h0
  | cons c l =>
    have h' : okF c = true := h
    unfold okF at h'
    simp only [Bool.and_eq_true, Bool.not_eq_true'] at h'
    rw [blk_f, if_neg (by rw [h'.1]; decide), if_neg (by rw [h'.2, Bool.false_and, Bool.false_and]; decide)]
def jn : List (List UInt8) → List UInt8
  | [] => []
  | [w] => w
  | w :: v :: ws => w ++ 32 :: jn (v :: ws)
def Again : List (List AV) → List (List AV) → Prop
  | [], [] => True
  | t :: a, u :: b => (∃ q : Int, u = at12 t q) ∧ Again a b
  | _, _ => False
theorem at12_text {t : List AV} (h : Shaped t) (q : Int) : tokText (at12 t q) = tokText t := by
  obtain ⟨n, s1, n1, b, n2, n3, n4, n5, n6, b1, s2, n7, n8, rfl⟩ := h
  rfl
theorem nextF_at {J : List UInt8} {i : Nat} (h : i < J.length) : nextF J i = nextAt (J.drop i) i := by
  unfold nextF; rw [if_neg (by omega), Int.toNat_natCast]
/-- The first word of a chain, and its letters. -/
theorem chain_head {s : List UInt8} {p : Nat} {t : List AV} {ts : List (List AV)} (h : Chain s p (t :: ts)) : 0 < (tokText t).length ∧ okF ((tokText t).getD 0 0) = true ∧ Shaped t ∧ ∀ (r : List UInt8) (q : Int), Rst r → nextAt (tokText t ++ r) q = (at12 t q, 0) := by
  obtain ⟨c1, c2, c3, c4⟩ := h
  obtain ⟨k, k1, k2, k3, k4⟩ := next_tok c1 c2
  have hd : 0 < (s.drop p).length := by rw [List.length_drop]; omega
  rw [← c3] at k3
  have hN := nextF_at c1
  rw [hN] at c2 c3
  have hlen : (tokText t).length = k := by rw [k3, List.length_take, List.length_drop]; omega
  refine ⟨by omega, ?_, by rw [c3]; exact nextAt_shaped _ _, fun r q hr => ?_⟩
  · have := first_ok hd c2
    rw [k3, getD_take (by omega)]; exact this
  · have := next_again (q := q) hd c2 hr
    rw [← c3] at this
    exact this
theorem jn_first {s : List UInt8} {p : Nat} {t : List AV} {ts : List (List AV)} (h : Chain s p (t :: ts)) : 0 < (jn ((t :: ts).map tokText)).length ∧ okF ((jn ((t :: ts).map tokText)).getD 0 0) = true := by
  obtain ⟨h1, h2, -, -⟩ := chain_head h
  cases ts with
  | nil => exact ⟨h1, h2⟩
  | cons u ts =>
    show 0 < (tokText t ++ 32 :: jn _).length ∧ okF ((tokText t ++ 32 :: jn _).getD 0 0) = true
    rw [getD_app h1, List.length_append]
    exact ⟨by omega, h2⟩
theorem scan_again {s : List UInt8} : ∀ (toks : List (List AV)) (p : Nat) (pre : List UInt8) (acc : List (List AV)) (f : Nat), Chain s p toks → toks.length + 1 ≤ f → ∃ ts, scanFrom (pre ++ jn (toks.map tokText)) f pre.length acc = (acc ++ ts, 0, 0) ∧ Again toks ts
  | [], p, pre, acc, f, hc, hf => by
    obtain ⟨f, rfl⟩ : ∃ g, f = g + 1 := ⟨f - 1, by omega⟩
    have e : pre ++ jn (List.map tokText []) = pre := List.append_nil pre
    rw [e, scanFrom, if_neg (by omega)]
    exact ⟨[], by rw [List.append_nil], trivial⟩
  | t :: ts, p, pre, acc, f, hc, hf => by
    obtain ⟨f, rfl⟩ : ∃ g, f = g + 1 := ⟨f - 1, by omega⟩
    obtain ⟨h1, h2, h3, h4⟩ := chain_head hc
    have hc' := hc.2.2.2
    simp only [List.length_cons] at hf
    cases ts with
    | nil =>
      have e : pre ++ jn (List.map tokText [t]) = pre ++ tokText t := rfl
      have hlt : pre.length < (pre ++ tokText t).length := by rw [List.length_append]; omega
      have hn : nextF (pre ++ tokText t) (pre.length : Nat) = (at12 t pre.length, 0) := by
        rw [nextF_at hlt, List.drop_left]
        have := h4 [] pre.length (.inl rfl)
        rw [List.append_nil] at this
        exact this
      have hb : blankN (pre ++ tokText t) (pre.length + (tokText t).length) = (pre ++ tokText t).length := by
        unfold blankN
        rw [List.drop_eq_nil_of_le (by rw [List.length_append]; omega), List.length_append]; rfl
      obtain ⟨us, e1, e2⟩ := scan_again [] _ (pre ++ tokText t) (acc ++ [at12 t pre.length]) f hc' (by simp at hf ⊢; omega)
      have e0 : (pre ++ tokText t) ++ jn (List.map tokText []) = pre ++ tokText t := List.append_nil _
      rw [e0] at e1
      refine ⟨at12 t pre.length :: us, ?_, ⟨_, rfl⟩, e2⟩
      rw [e, scanFrom, if_pos hlt, hn, if_neg (by show ¬ ((0 : Int) != 0) = true; decide)]
      show scanFrom _ f (blankN _ (pre.length + (tokText (at12 t pre.length)).length)) (acc ++ [at12 t pre.length]) = _
      rw [at12_text h3, hb, e1, List.append_assoc]; rfl
    | cons u ts =>
      obtain ⟨R, hR⟩ : ∃ R, R = jn (List.map tokText (u :: ts)) := ⟨_, rfl⟩
      obtain ⟨j1, j2⟩ := jn_first hc'
      have e : pre ++ jn (List.map tokText (t :: u :: ts)) = pre ++ (tokText t ++ 32 :: R) := by rw [hR]; rfl
      rw [← hR] at j1 j2
      have hlt : pre.length < (pre ++ (tokText t ++ 32 :: R)).length := by rw [List.length_append, List.length_append]; omega
      have hn : nextF (pre ++ (tokText t ++ 32 :: R)) (pre.length : Nat) = (at12 t pre.length, 0) := by
        rw [nextF_at hlt, List.drop_left]
        exact h4 (32 :: R) pre.length (.inr ⟨R, rfl⟩)
      have e3 : pre ++ (tokText t ++ 32 :: R) = (pre ++ tokText t ++ [32]) ++ R := by simp
      have hb : blankN (pre ++ (tokText t ++ 32 :: R)) (pre.length + (tokText t).length) = (pre ++ tokText t ++ [32]).length := by
        unfold blankN
        have e4 : pre ++ (tokText t ++ 32 :: R) = (pre ++ tokText t) ++ 32 :: R := by simp
        rw [e4, show pre.length + (tokText t).length = (pre ++ tokText t).length from (List.length_append ..).symm, List.drop_left, blk_f, if_pos (by decide), blk_first j2 j1, List.length_append (bs := [32])]
        rfl
      obtain ⟨us, e1, e2⟩ := scan_again (u :: ts) _ (pre ++ tokText t ++ [32]) (acc ++ [at12 t pre.length]) f hc' (by simp only [List.length_cons] at hf ⊢; omega)
      rw [← hR] at e1
      refine ⟨at12 t pre.length :: us, ?_, ⟨_, rfl⟩, e2⟩
      rw [e, scanFrom, if_pos hlt, hn, if_neg (by show ¬ ((0 : Int) != 0) = true; decide)]
      show scanFrom _ f (blankN _ (pre.length + (tokText (at12 t pre.length)).length)) (acc ++ [at12 t pre.length]) = _
      rw [at12_text h3, hb, e3, e1, List.append_assoc]; rfl
theorem jn_len {s : List UInt8} : ∀ (toks : List (List AV)) (p : Nat), Chain s p toks → toks.length ≤ (jn (toks.map tokText)).length
  | [], _, _ => Nat.le_refl _
  | [t], p, hc => (chain_head hc).1
  | t :: u :: ts, p, hc => by
    have h1 := (chain_head hc).1
    have h2 := jn_len (u :: ts) _ hc.2.2.2
    show (t :: u :: ts).length ≤ (tokText t ++ 32 :: jn (List.map tokText (u :: ts))).length
    rw [List.length_append]
    simp only [List.length_cons] at h2 ⊢
    omega
theorem scanF_again {s : List UInt8} {toks : List (List AV)} {p : Nat} (hc : Chain s p toks) : Again toks (scanF (jn (toks.map tokText))).1 ∧ (scanF (jn (toks.map tokText))).2.2 = 0 := by
  have hb : blankN (jn (toks.map tokText)) 0 = 0 := by
    unfold blankN
    rw [List.drop_zero]
    cases toks with
    | nil => rfl
    | cons t ts =>
      obtain ⟨j1, j2⟩ := jn_first hc
      rw [blk_first j2 j1]
  obtain ⟨us, e1, e2⟩ := scan_again toks p [] [] ((jn (toks.map tokText)).length + 1) hc (by have := jn_len toks p hc; omega)
  have e : scanF (jn (toks.map tokText)) = (us, 0, 0) := by
    unfold scanF
    rw [hb]
    exact e1
  rw [e]
  exact ⟨e2, rfl⟩
theorem again_len : ∀ (a b : List (List AV)), Again a b → a.length = b.length
  | [], [], _ => rfl
  | _ :: a, _ :: b, h => by rw [List.length_cons, List.length_cons, again_len a b h.2]
theorem sem_belowH {P : Program} {f : FuncId} {args : List AV} {h : AHeap} {v : AV} (hv : v.closed = true)
    (H : ∀ (ρ : Rho) (B : Fr) (w0 w : World), Inv ρ B w0 h w → (∀ x ∈ args, AV.ok h ρ x) → Calls P f (args.map (AV.real ρ)).toArray w fun e w' => e = .returned (v.real ρ) ∧ Below w.heap.size w w') : CallSem P f args h v h := fun ρ B w0 w hI hok =>
  (H ρ B w0 w hI hok).mono fun e w' ⟨he, hb⟩ => ⟨ρ, he, ⟨hI.below.trans (Kept.of_below hb fun k hk => hI.size k hk), fun k hk => Nat.lt_of_lt_of_le (hI.size k hk) hb.size, fun k o ho => objRel_kept hb.size (fun hlt => hb.block _ hlt) (hI.obj k o ho), hI.sep, hI.sepr, hI.wf⟩, fun i hi => ⟨hi, rfl⟩, closed_ok hv _ _⟩
theorem tail_jn : ∀ (w : List UInt8) (ws : List (List UInt8)), w ++ Lib.joinTail [32] ws = jn (w :: ws)
  | w, [] => by show w ++ _ = w; simp [Lib.joinTail]
  | w, v :: ws => by
    show w ++ _ = w ++ 32 :: jn (v :: ws)
    rw [← tail_jn v ws]; simp [Lib.joinTail]
theorem join_jn (ws : List (List UInt8)) : Lib.join ws [32] = jn ws := by
  cases ws with
  | nil => rfl
  | cons w ws => rw [Lib.join_cons, tail_jn]
theorem ht46 : HasText Tryd.prog 46 Tryd.f46 := ⟨Tryd.func46, rfl, by decide⟩
noncomputable def gJoin (ws : List (List UInt8)) : List AV → List AObj → Option AV := fun args hs => @ite _ ((ws = [] ∧ args = [nilS, .str [32]] ∧ hs = []) ∨ ((ws.length ≤ 1099511627776 ∧ (jn ws).length ≤ 140737488355328) ∧ args = [.sl (some (0, 0)) ws.length (.rel 0), .str [32]] ∧ hs = [.ro (ws.map .str)])) (Classical.propDecidable _) (some (.str (jn ws))) none
noncomputable def sJoin (ws : List (List UInt8)) : List AV → AHeap → Option AV := fun args h => (impD 0 h args).bind fun r => gJoin ws r.1 r.2
theorem gJoin_ok (ws : List (List UInt8)) (args : List AV) (hs : List AObj) (v : AV) (hv : gJoin ws args hs = some v) : v.closed = true ∧ ∃ h', CallSem Tryd.prog 46 args hs v h' := by
  unfold gJoin at hv
  split at hv
  · rename_i hc
    cases hv
    refine ⟨rfl, _, sem_belowH rfl fun ρ B w0 w hI hok => ?_⟩
    rcases hc with ⟨rfl, rfl, rfl⟩ | ⟨⟨hn, hl⟩, rfl, rfl⟩
    · exact (Tryd.strings_Join_none none 0 ⟨#[32]⟩ w).mono fun e w' ⟨h1, h2⟩ => ⟨h1, h2 ▸ Below.refl _ _⟩
    · obtain ⟨hb, hcell⟩ := hI.obj 0 _ rfl
      have hcap := hok _ (List.mem_cons_self ..)
      have hcap' : ws.length + 0 ≤ (ρ 0).cap := by
        unfold AV.ok at hcap
        simp only [AV.refs, Bool.and_eq_true, decide_eq_true_eq] at hcap
        exact hcap.2
      have hm : (ws.map fun x => (⟨x.toArray⟩ : ByteArray)).map (·.data.toList) = ws := by
        rw [List.map_map]
        exact (List.map_congr_left fun x _ => by simp).trans (List.map_id ws)
      have := Tryd.strings_Join (ρ 0).blk ((ρ 0).off + 0) ((ρ 0).cap - 0) (ws.map fun x => (⟨x.toArray⟩ : ByteArray)) ⟨#[32]⟩ w (fun j x hx => by
        simp only [List.getElem?_map, Option.map_eq_some_iff] at hx
        obtain ⟨y, hy, rfl⟩ := hx
        have := hcell j (.str y) (by simp [hy])
        exact this) hb (by rw [List.length_map]; omega) (by rw [List.length_map]; omega) (by rw [hm, join_jn]; exact hl)
      rw [hm, join_jn, List.length_map] at this
      exact this
  · cases hv
theorem join_ok (ws : List (List UInt8)) : QuietOK Tryd.prog 46 (sJoin ws) := quiet_of_sem ht46 0 (g := gJoin ws) (gJoin_ok ws)
theorem join_nil (ws : List (List UInt8)) (h : AHeap) (hw : ws = []) : sJoin ws [nilS, .str [32]] h = some (.str (jn ws)) := by
  unfold sJoin
  rw [imp_closed rfl]
  show gJoin ws _ [] = _
  unfold gJoin
  exact if_pos (.inl ⟨hw, rfl, rfl⟩)
theorem imp_row {h : AHeap} {k n t s : Nat} {cs rest : List AV} (hk : h.getD k .dead = .row t s cs) (hc : cs.all AV.closed = true) (hr : rest.all AV.closed = true) : impD 0 h (.sl (some (k, 0)) n (.rel 0) :: rest) = some (.sl (some (0, 0)) n (.rel 0) :: rest, [.ro cs]) := by
  have h0 : AV.namesL rest = [] := namesL_refs0 _ (closedL hr)
  have hr' : reachK 0 h (.sl (some (k, 0)) n (.rel 0) :: rest) = [k] := by
    unfold reachK
    show (AV.namesL (_ :: rest)).eraseDups = [k]
    rw [AV.namesL, h0]
    rfl
  unfold impD
  rw [hr', if_pos (by simp)]
  have hi : List.idxOf? k [k] = some 0 := by simp [List.idxOf?]
  have e1 : AV.renL (fun i => List.idxOf? i [k]) (.sl (some (k, 0)) n (.rel 0) :: rest) = some (.sl (some (0, 0)) n (.rel 0) :: rest) := by
    simp only [AV.renL, AV.ren, hi, Option.map_some, renL_closed _ (closedL hr)]
  have e2 : roObj (renObj (fun i => List.idxOf? i [k]) (.row t s cs)) = .ro cs := by
    simp only [renObj, renL_closed _ (closedL hc), roObj]
  rw [e1]
  simp only [Option.map_some, List.map_cons, List.map_nil, hk, e2]
theorem strs_closed (ws : List (List UInt8)) : (ws.map AV.str).all AV.closed = true := by
  rw [List.all_eq_true]
  intro x hx
  obtain ⟨w, _, rfl⟩ := List.mem_map.1 hx
  rfl
theorem join_at {ws : List (List UInt8)} {h : AHeap} {k t s : Nat} (hk : h.getD k .dead = .row t s (ws.map .str)) (hn : ws.length ≤ 1099511627776) (hl : (jn ws).length ≤ 140737488355328) : sJoin ws [.sl (some (k, 0)) ws.length (.rel 0), .str [32]] h = some (.str (jn ws)) := by
  unfold sJoin
  rw [imp_row hk (strs_closed ws) rfl]
  show gJoin ws _ _ = _
  unfold gJoin
  exact if_pos (.inr ⟨⟨hn, hl⟩, rfl, rfl⟩)
noncomputable def gJW (toks : List (List AV)) : List AV → List AObj → Option AV := fun args hs => @ite _ (((∀ t ∈ toks, Shaped t) ∧ (∀ t ∈ toks, 0 < (tokText t).length) ∧ toks.length ≤ 1099511627776 ∧ (jn (toks.map tokText)).length ≤ 1099511627776) ∧ ((toks = [] ∧ args = [nilS] ∧ hs = []) ∨ (toks ≠ [] ∧ args = [.sl (some (0, 0)) toks.length (.rel 0)] ∧ hs = [.ro toks.flatten]))) (Classical.propDecidable _) (some (.str (jn (toks.map tokText)))) none
noncomputable def sJW (toks : List (List AV)) : List AV → AHeap → Option AV := fun args h => (impD 0 h args).bind fun r => gJW toks r.1 r.2
-- the document's Join (26): over the words' row
def kd26 (t : Nat) : Kd := .one .str
def t26 : Tidy := ⟨dropT 25 [0, 3, 4], .auto⟩
def x26 : Tidy := ⟨dropT 25 [3], .auto⟩
def n26 (n : Nat) (cs : List AV) : St := (envOf 25 [(0, .sl (some (0, 0)) n (.rel 0)), (3, .sl none 0 (.fix 0)), (4, .int .i64 0)], [.ro cs])
def z26 : St := (envOf 25 [(0, nilS), (3, .sl none 0 (.fix 0)), (4, .int .i64 0)], [])
def h26 (n : Nat) (cs : List AV) (acc : List UInt8) (i : Int) : St := (envOf 25 [(0, .sl (some (0, 0)) n (.rel 0)), (3, .sl (some (1, 0)) acc.length (.rel 0)), (4, .int .i64 i)], [.ro cs, .row 5 1 (bv acc)])
def C26n : Cfg := { tbC Q [] (fun k => k == 0 || k == 1) kd26 with b0 := 1 }
def C26m : Cfg := { tbC Q [] (fun k => k == 0 || k == 1 || k == 3 || k == 4 || k == 2) kd26 with b0 := 1 }
def C26z : Cfg := tbC Q [] (fun _ => false) kd26
def C26 (toks : List (List AV)) : Cfg := { tbC Q [] (fun k => k == 0 || k == 1) kd26 with
  lw := fun id => if id = 3 then some fun st K => st = n26 toks.length toks.flatten ∧ K (.exit 0) (envOf 25 [(3, .sl (some (1, 0)) (jn (toks.map tokText)).length (.rel 0))], [.ro toks.flatten, .row 5 1 (bv (jn (toks.map tokText)))]) else none
  F := fun id => if id = 3 then t26 else ⟨[], .all⟩ }
def C26Z : Cfg := { tbC Q [] (fun _ => false) kd26 with
  lw := fun id => if id = 3 then some fun st K => st = z26 ∧ K (.exit 0) (envOf 25 [(3, nilS)], []) else none
  F := fun id => if id = 3 then t26 else ⟨[], .all⟩ }
-- Join (25)
def kd25 (t : Nat) : Kd := if t = 14 then .one .str else kd11 t
def t25 : Tidy := ⟨dropT 20 [3, 6, 7, 8], .auto⟩
def x25 : Tidy := ⟨dropT 20 [3], .auto⟩
def n25 (n : Nat) (cs : List AV) : St := (envOf 20 [(3, .sl none 0 (.fix 0)), (6, .sl (some (0, 0)) n (.rel 0)), (7, .int .i64 n), (8, .int .i64 0)], [.ro cs])
def z25 : St := (envOf 20 [(3, .sl none 0 (.fix 0)), (6, nilS), (7, .int .i64 0), (8, .int .i64 0)], [])
def h25 (n : Nat) (cs : List AV) (ws : List (List UInt8)) (i : Int) : St := (envOf 20 [(3, .sl (some (1, 0)) ws.length (.rel 0)), (6, .sl (some (0, 0)) n (.rel 0)), (7, .int .i64 n), (8, .int .i64 i)], [.ro cs, .row 9 1 (ws.map .str)])
def T46 (ws : List (List UInt8)) (vs : List AV) (h : AHeap) (K : AV × AHeap → Prop) : Prop := sJoin ws vs h = some (.str (jn ws)) ∧ K (.str (jn ws), h)
noncomputable def e46 (ws : List (List UInt8)) : TbG := ⟨46, qS (sJoin ws), T46 ws⟩
noncomputable def C25 (toks : List (List AV)) : Cfg := { tbCG Q [] [e46 (toks.map tokText)] (fun k => k == 0 || k == 1) kd25 with
  lw := fun id => if id = 3 then some fun st K => st = n25 toks.length toks.flatten ∧ K (.exit 0) (envOf 20 [(3, .sl (some (1, 0)) toks.length (.rel 0))], [.ro toks.flatten, .row 9 1 ((toks.map tokText).map .str)]) else none
  F := fun id => if id = 3 then t25 else ⟨[], .all⟩ }
noncomputable def C25Z : Cfg := { tbCG Q [] [e46 []] (fun _ => false) kd25 with
  lw := fun id => if id = 3 then some fun st K => st = z25 ∧ K (.exit 0) (envOf 20 [(3, nilS)], []) else none
  F := fun id => if id = 3 then t25 else ⟨[], .all⟩ }
-- the law
def kd7 (t : Nat) : Kd := if t = 58 then .one (.int .i64) else kd11 t
def q7 (s1 s2 : AV) (n i : Int) (hp : AHeap) : St := (envOf 71 [(3, s1), (7, s2), (48, .int .i64 n), (49, .int .i64 i)], hp)
def t7 : Tidy := ⟨dropT 71 [3, 7, 48, 49], .auto⟩
def x7 : Tidy := ⟨dropT 71 [], .rows []⟩
def r7 : Tidy := ⟨dropT 71 [2], .rows []⟩
noncomputable def tb7 (toks : List (List AV)) : List TbE := [⟨10, sLive, .of (.one .bool)⟩, ⟨25, sJW toks, .of (.one .str)⟩, ⟨26, sJW toks, .of (.one .str)⟩]
noncomputable def C7l (toks : List (List AV)) : Cfg := tbCF Q (tb7 toks) [e8] (fun k => k == 0 || k == 1) kd7
def P7 (toks us : List (List AV)) (s1 s2 : AV) (n : Int) (hp : AHeap) : Prop := (toks = [] ∧ s1 = nilS ∧ s2 = nilS ∧ n = 0 ∧ hp = []) ∨ ((Again toks us ∧ toks.length ≤ 1099511627776) ∧ s1 = .sl (some (0, 0)) toks.length (.rel 0) ∧ s2 = .sl (some (1, 0)) us.length (.rel 0) ∧ n = us.length ∧ hp = [.row 41 13 toks.flatten, .row 41 13 us.flatten])
noncomputable def C7 (toks us : List (List AV)) : Cfg := { C7l toks with
  lw := fun id => if id = 13 then some fun st K => ∃ (s1 s2 : AV) (n : Int) (hp : AHeap), st = q7 s1 s2 n 0 hp ∧ P7 toks us s1 s2 n hp ∧ K (.exit 0) (envOf 71 [], []) else none
  F := fun id => if id = 13 then t7 else ⟨[], .all⟩ }
theorem v26n (n : Nat) (cs : List AV) (K : AExit → St → Prop) : (askB (decide (0 < (↑n : Int))) (chkW (decide (0 < (↑n : Int))) (∃ (s : List UInt8), (Option.bind (cellsAt [AObj.ro cs, AObj.hole] 0) fun (x : List AV) => partR none x 1) = some (AV.str s) ∧ chkW (List.all (List.map (fun (b : UInt8) => AV.int .u8 (↑(UInt8.toNat b) : Int)) s) AV.one) (askB (decide (List.length s = 0)) (chkW (objClosed (AObj.ro cs)) False) (chkW (decide (List.length s * 1 ≤ 140737488355328)) (chkW (decide (List.length s ≤ 9223372036854775807)) (chkW (objClosed (AObj.ro cs)) (chkW (objClosed (AObj.row 5 1 (List.map (fun (b : UInt8) => AV.int .u8 (↑(UInt8.toNat b) : Int)) s))) (K AExit.normal (envOf 25 [(0, AV.sl (some (0, 0)) n (ACap.rel 0)), (3, AV.sl (some (1, 0)) (List.length s) (ACap.rel 0)), (4, AV.int .i64 1)], [AObj.ro cs, AObj.row 5 1 (List.map (fun (b : UInt8) => AV.int .u8 (↑(UInt8.toNat b) : Int)) s)]))))))))) (chkW (objClosed (AObj.ro cs)) (K (AExit.exit 0) (envOf 25 [(3, AV.sl none 0 (ACap.fix 0))], [AObj.ro cs])))) = (wpP Tryd.prog C26n 60 (.inl p26_l0) (n26 n cs) (postX C26n t26 x26 x26 K)) := by kernel_rfl
theorem v26b (n i : Nat) (cs : List AV) (acc : List UInt8) (K : AExit → St → Prop) : (askB (decide ((↑i : Int) < (↑n : Int))) (askB (decide ((↑i : Int) > 0)) (∃ (cs_1 : List AV), some (1, [AV.int .u8 32]) = some (1, cs_1) ∧ ∃ (t : TypeId), ∃ (s : Nat), ∃ (cs_2 : List AV), some (AObj.row 5 1 (bv acc)) = some (AObj.row t s cs_2) ∧ chkW (List.all cs_1 AV.one) (chkW (decide (t = 5)) (chkW (decide (s = 1)) (chkW (decide (List.length cs_2 = List.length acc * 1)) (chkW (decide ((List.length acc + 1) * 1 ≤ 140737488355328)) (chkW (decide (List.length acc + 1 ≤ 9223372036854775807)) (chkW (decide ((↑i : Int) < (↑n : Int))) (∃ (s : List UInt8), (Option.bind (cellsAt [AObj.ro cs, AObj.dead, AObj.row 5 1 [AV.int .u8 32], AObj.row 5 1 (cs_2 ++ cs_1), AObj.hole] 0) fun (x : List AV) => partR none x (0 + i * 13 + 1)) = some (AV.str s) ∧ ∃ (t : TypeId), ∃ (s_1 : Nat), ∃ (cs_3 : List AV), some (AObj.row 5 1 (cs_2 ++ cs_1)) = some (AObj.row t s_1 cs_3) ∧ chkW (List.all (List.map (fun (b : UInt8) => AV.int .u8 (↑(UInt8.toNat b) : Int)) s) AV.one) (chkW (decide (t = 5)) (chkW (decide (s_1 = 1)) (chkW (decide (List.length cs_3 = (List.length acc + 1) * 1)) (chkW (decide ((List.length acc + 1 + List.length s) * 1 ≤ 140737488355328)) (chkW (decide (List.length acc + 1 + List.length s ≤ 9223372036854775807)) (chkW (objClosed (AObj.ro cs)) (chkW (objClosed (AObj.row 5 1 (cs_3 ++ List.map (fun (b : UInt8) => AV.int .u8 (↑(UInt8.toNat b) : Int)) s))) (K AExit.normal (envOf 25 [(0, AV.sl (some (0, 0)) n (ACap.rel 0)), (3, AV.sl (some (1, 0)) (List.length acc + 1 + List.length s) (ACap.rel 0)), (4, AV.int .i64 (IntKind.wrap .i64 ((↑i : Int) + 1)))], [AObj.ro cs, AObj.row 5 1 (cs_3 ++ List.map (fun (b : UInt8) => AV.int .u8 (↑(UInt8.toNat b) : Int)) s)]))))))))))))))))) (chkW (decide ((↑i : Int) < (↑n : Int))) (∃ (s : List UInt8), (Option.bind (cellsAt [AObj.ro cs, AObj.row 5 1 (bv acc), AObj.hole] 0) fun (x : List AV) => partR none x (0 + i * 13 + 1)) = some (AV.str s) ∧ ∃ (t : TypeId), ∃ (s_1 : Nat), ∃ (cs_1 : List AV), some (AObj.row 5 1 (bv acc)) = some (AObj.row t s_1 cs_1) ∧ chkW (List.all (List.map (fun (b : UInt8) => AV.int .u8 (↑(UInt8.toNat b) : Int)) s) AV.one) (chkW (decide (t = 5)) (chkW (decide (s_1 = 1)) (chkW (decide (List.length cs_1 = List.length acc * 1)) (chkW (decide ((List.length acc + List.length s) * 1 ≤ 140737488355328)) (chkW (decide (List.length acc + List.length s ≤ 9223372036854775807)) (chkW (objClosed (AObj.ro cs)) (chkW (objClosed (AObj.row 5 1 (cs_1 ++ List.map (fun (b : UInt8) => AV.int .u8 (↑(UInt8.toNat b) : Int)) s))) (K AExit.normal (envOf 25 [(0, AV.sl (some (0, 0)) n (ACap.rel 0)), (3, AV.sl (some (1, 0)) (List.length acc + List.length s) (ACap.rel 0)), (4, AV.int .i64 (IntKind.wrap .i64 ((↑i : Int) + 1)))], [AObj.ro cs, AObj.row 5 1 (cs_1 ++ List.map (fun (b : UInt8) => AV.int .u8 (↑(UInt8.toNat b) : Int)) s)])))))))))))) (chkW (objClosed (AObj.ro cs)) (chkW (objClosed (AObj.row 5 1 (bv acc))) (K (AExit.exit 0) (envOf 25 [(3, AV.sl (some (1, 0)) (List.length acc) (ACap.rel 0))], [AObj.ro cs, AObj.row 5 1 (bv acc)]))))) = (wpP Tryd.prog C26m 60 (.inl p26_l0) (h26 n cs acc i) (postX C26m t26 x26 x26 K)) := by kernel_rfl
theorem v26z (K : AExit → St → Prop) : (K (AExit.exit 0) (envOf 25 [(3, AV.sl none 0 (ACap.fix 0))], [])) = (wpP Tryd.prog C26z 60 (.inl p26_l0) z26 (postX C26z t26 x26 x26 K)) := by kernel_rfl
theorem v26 (toks : List (List AV)) (R : AV → AHeap → Prop) : (chkW (objClosed (AObj.ro (List.flatten toks))) ((envOf 25 [(0, AV.sl (some (0, 0)) (List.length toks) (ACap.rel 0)), (3, AV.sl none 0 (ACap.fix 0)), (4, AV.int .i64 0)], [AObj.ro (List.flatten toks)]) = (envOf 25 [(0, AV.sl (some (0, 0)) (List.length toks) (ACap.rel 0)), (3, AV.sl none 0 (ACap.fix 0)), (4, AV.int .i64 0)], [AObj.ro (List.flatten toks)]) ∧ ∃ (l : List UInt8), strOf [AObj.ro (List.flatten toks), AObj.row 5 1 (bv (jn (List.map tokText toks)))] 1 0 (List.length (jn (List.map tokText toks))) = some l ∧ R (AV.str l) [AObj.ro (List.flatten toks), AObj.row 5 1 (bv (jn (List.map tokText toks)))])) = (wpF Tryd.prog (C26 toks) 60 p26 [.sl (some (0, 0)) toks.length (.rel 0)] [.ro toks.flatten] R) := by kernel_rfl
theorem v26Z (R : AV → AHeap → Prop) : ((envOf 25 [(0, AV.sl none 0 (ACap.fix 0)), (3, AV.sl none 0 (ACap.fix 0)), (4, AV.int .i64 0)], ([] : AHeap)) = (envOf 25 [(0, AV.sl none 0 (ACap.fix 0)), (3, AV.sl none 0 (ACap.fix 0)), (4, AV.int .i64 0)], []) ∧ R (AV.str []) []) = (wpF Tryd.prog C26Z 60 p26 [nilS] [] R) := by kernel_rfl
theorem v25n (lg : List TbG) (n : Nat) (cs : List AV) (K : AExit → St → Prop) : (askB (decide (0 < (↑n : Int))) (chkW (decide (0 < (↑n : Int))) (∃ (n_1 : Int), ∃ (s : List UInt8), ∃ (n_2 : Int), ∃ (b : Bool), ∃ (n_3 : Int), ∃ (n_4 : Int), ∃ (n_5 : Int), ∃ (n_6 : Int), ∃ (n_7 : Int), ∃ (b_1 : Bool), ∃ (s_1 : List UInt8), ∃ (n_8 : Int), ∃ (n_9 : Int), (Option.bind (cellsAt [AObj.ro cs, AObj.hole] 0) fun (x : List AV) => partR (some 13) x 0) = some (AV.agg [AV.int .i64 n_1, AV.str s, AV.int .i64 n_2, AV.bool b, AV.int .u64 n_3, AV.int .u64 n_4, AV.int .u64 n_5, AV.int .u64 n_6, AV.int .i64 n_7, AV.bool b_1, AV.str s_1, AV.int .i64 n_8, AV.int .i64 n_9]) ∧ chkW (objClosed (AObj.ro cs)) (K AExit.normal (envOf 20 [(3, AV.sl (some (1, 0)) 1 (ACap.rel 0)), (6, AV.sl (some (0, 0)) n (ACap.rel 0)), (7, AV.int .i64 (↑n : Int)), (8, AV.int .i64 1)], [AObj.ro cs, AObj.row 9 1 [AV.str s]])))) (chkW (objClosed (AObj.ro cs)) (K (AExit.exit 0) (envOf 20 [(3, AV.sl none 0 (ACap.fix 0))], [AObj.ro cs])))) = (wpP Tryd.prog { tbCG Q [] lg (fun k => k == 0) kd25 with b0 := 1 } 60 (.inl p25_l0) (n25 n cs) (postX { tbCG Q [] lg (fun k => k == 0) kd25 with b0 := 1 } t25 x25 x25 K)) := by kernel_rfl
theorem v25b (lg : List TbG) (n i : Nat) (cs : List AV) (ws : List (List UInt8)) (K : AExit → St → Prop) : (askB (decide ((↑i : Int) < (↑n : Int))) (chkW (decide ((↑i : Int) < (↑n : Int))) (∃ (n_1 : Int), ∃ (s : List UInt8), ∃ (n_2 : Int), ∃ (b : Bool), ∃ (n_3 : Int), ∃ (n_4 : Int), ∃ (n_5 : Int), ∃ (n_6 : Int), ∃ (n_7 : Int), ∃ (b_1 : Bool), ∃ (s_1 : List UInt8), ∃ (n_8 : Int), ∃ (n_9 : Int), (Option.bind (cellsAt [AObj.ro cs, AObj.row 9 1 (List.map AV.str ws), AObj.hole] 0) fun (x : List AV) => partR (some 13) x (0 + i * 13)) = some (AV.agg [AV.int .i64 n_1, AV.str s, AV.int .i64 n_2, AV.bool b, AV.int .u64 n_3, AV.int .u64 n_4, AV.int .u64 n_5, AV.int .u64 n_6, AV.int .i64 n_7, AV.bool b_1, AV.str s_1, AV.int .i64 n_8, AV.int .i64 n_9]) ∧ ∃ (t : TypeId), ∃ (s_2 : Nat), ∃ (cs_1 : List AV), some (AObj.row 9 1 (List.map AV.str ws)) = some (AObj.row t s_2 cs_1) ∧ chkW (decide (t = 9)) (chkW (decide (s_2 = 1)) (chkW (decide (List.length cs_1 = List.length ws * 1)) (chkW (decide ((List.length ws + 1) * 16 ≤ 140737488355328)) (chkW (decide (List.length ws + 1 ≤ 9223372036854775807)) (chkW (objClosed (AObj.ro cs)) (chkW (objClosed (AObj.row 9 1 (cs_1 ++ List.take (1 * 1) (List.drop 0 [AV.str s])))) (K AExit.normal (envOf 20 [(3, AV.sl (some (1, 0)) (List.length ws + 1) (ACap.rel 0)), (6, AV.sl (some (0, 0)) n (ACap.rel 0)), (7, AV.int .i64 (↑n : Int)), (8, AV.int .i64 (IntKind.wrap .i64 ((↑i : Int) + 1)))], [AObj.ro cs, AObj.row 9 1 (cs_1 ++ List.take (1 * 1) (List.drop 0 [AV.str s]))])))))))))) (chkW (objClosed (AObj.ro cs)) (chkW (objClosed (AObj.row 9 1 (List.map AV.str ws))) (K (AExit.exit 0) (envOf 20 [(3, AV.sl (some (1, 0)) (List.length ws) (ACap.rel 0))], [AObj.ro cs, AObj.row 9 1 (List.map AV.str ws)]))))) = (wpP Tryd.prog { tbCG Q [] lg (fun k => k == 0 || k == 1 || k == 4) kd25 with b0 := 1 } 60 (.inl p25_l0) (h25 n cs ws i) (postX { tbCG Q [] lg (fun k => k == 0 || k == 1 || k == 4) kd25 with b0 := 1 } t25 x25 x25 K)) := by kernel_rfl
theorem v25z (lg : List TbG) (K : AExit → St → Prop) : (K (AExit.exit 0) (envOf 20 [(3, AV.sl none 0 (ACap.fix 0))], [])) = (wpP Tryd.prog (tbCG Q [] lg (fun _ => false) kd25) 60 (.inl p25_l0) z25 (postX (tbCG Q [] lg (fun _ => false) kd25) t25 x25 x25 K)) := by kernel_rfl
theorem v25 (toks : List (List AV)) (R : AV → AHeap → Prop) : (chkW (objClosed (AObj.ro (List.flatten toks))) ((envOf 20 [(3, AV.sl none 0 (ACap.fix 0)), (6, AV.sl (some (0, 0)) (List.length toks) (ACap.rel 0)), (7, AV.int .i64 (↑(List.length toks) : Int)), (8, AV.int .i64 0)], [AObj.ro (List.flatten toks)]) = (envOf 20 [(3, AV.sl none 0 (ACap.fix 0)), (6, AV.sl (some (0, 0)) (List.length toks) (ACap.rel 0)), (7, AV.int .i64 (↑(List.length toks) : Int)), (8, AV.int .i64 0)], [AObj.ro (List.flatten toks)]) ∧ sJoin (List.map tokText toks) [AV.sl (some (1, 0)) (List.length toks) (ACap.rel 0), AV.str [32]] [AObj.ro (List.flatten toks), AObj.row 9 1 (List.map AV.str (List.map tokText toks))] = some (AV.str (jn (List.map tokText toks))) ∧ R (AV.str (jn (List.map tokText toks))) [AObj.ro (List.flatten toks), AObj.row 9 1 (List.map AV.str (List.map tokText toks))])) = (wpF Tryd.prog (C25 toks) 60 p25 [.sl (some (0, 0)) toks.length (.rel 0)] [.ro toks.flatten] R) := by kernel_rfl
theorem v25Z (R : AV → AHeap → Prop) : ((envOf 20 [(3, AV.sl none 0 (ACap.fix 0)), (6, AV.sl none 0 (ACap.fix 0)), (7, AV.int .i64 0), (8, AV.int .i64 0)], ([] : AHeap)) = (envOf 20 [(3, AV.sl none 0 (ACap.fix 0)), (6, AV.sl none 0 (ACap.fix 0)), (7, AV.int .i64 0), (8, AV.int .i64 0)], []) ∧ sJoin [] [AV.sl none 0 (ACap.fix 0), AV.str [32]] [] = some (AV.str []) ∧ R (AV.str []) []) = (wpF Tryd.prog C25Z 60 p25 [nilS] [] R) := by kernel_rfl
theorem v7b (toks us : List (List AV)) (n m i : Nat) (c1 c2 : List AV) (K : AExit → St → Prop) : (askB (decide ((↑i : Int) < (↑m : Int))) (chkW (decide ((↑i : Int) < (↑n : Int))) (∃ (n_1 : Int), (Option.bind (cellsAt [AObj.row 41 13 c1, AObj.row 41 13 c2] 0) fun (x : List AV) => partR none x (0 + i * 13 + 12)) = some (AV.int .i64 n_1) ∧ chkW (decide ((↑i : Int) < (↑m : Int))) (∃ (t : TypeId), ∃ (s : Nat), ∃ (cs : List AV), some (AObj.row 41 13 c2) = some (AObj.row t s cs) ∧ chkW (decide (0 + i * 13 + 12 + 1 ≤ List.length cs)) (chkW (decide ((↑i : Int) < (↑m : Int))) (∃ (n_2 : Int), ∃ (s_1 : List UInt8), ∃ (n_3 : Int), ∃ (b : Bool), ∃ (n_4 : Int), ∃ (n_5 : Int), ∃ (n_6 : Int), ∃ (n_7 : Int), ∃ (n_8 : Int), ∃ (b_1 : Bool), ∃ (s_2 : List UInt8), ∃ (n_9 : Int), ∃ (n_10 : Int), (Option.bind (cellsAt [AObj.row 41 13 c1, AObj.row t s (spliceA cs (0 + i * 13 + 12) (AV.cells (AV.int .i64 n_1)))] 1) fun (x : List AV) => partR (some 13) x (0 + i * 13)) = some (AV.agg [AV.int .i64 n_2, AV.str s_1, AV.int .i64 n_3, AV.bool b, AV.int .u64 n_4, AV.int .u64 n_5, AV.int .u64 n_6, AV.int .u64 n_7, AV.int .i64 n_8, AV.bool b_1, AV.str s_2, AV.int .i64 n_9, AV.int .i64 n_10]) ∧ chkW (decide ((↑i : Int) < (↑n : Int))) (∃ (n_11 : Int), ∃ (s_3 : List UInt8), ∃ (n_12 : Int), ∃ (b_2 : Bool), ∃ (n_13 : Int), ∃ (n_14 : Int), ∃ (n_15 : Int), ∃ (n_16 : Int), ∃ (n_17 : Int), ∃ (b_3 : Bool), ∃ (s_4 : List UInt8), ∃ (n_18 : Int), ∃ (n_19 : Int), (Option.bind (cellsAt [AObj.row 41 13 c1, AObj.row t s (spliceA cs (0 + i * 13 + 12) (AV.cells (AV.int .i64 n_1)))] 0) fun (x : List AV) => partR (some 13) x (0 + i * 13)) = some (AV.agg [AV.int .i64 n_11, AV.str s_3, AV.int .i64 n_12, AV.bool b_2, AV.int .u64 n_13, AV.int .u64 n_14, AV.int .u64 n_15, AV.int .u64 n_16, AV.int .i64 n_17, AV.bool b_3, AV.str s_4, AV.int .i64 n_18, AV.int .i64 n_19]) ∧ askB (!(n_2 == n_11 && (s_1 == s_3 && (n_3 == n_12 && (b == b_2 && (n_4 == n_13 && (n_5 == n_14 && (n_6 == n_15 && (n_7 == n_16 && true))) && (n_8 == n_17 && true)) && (b_1 == b_3 && (s_2 == s_4 && (n_9 == n_18 && true)))) && (n_10 == n_19 && true))))) (chkW (objClosed (AObj.row 41 13 c1)) (chkW (objClosed (AObj.row t s (spliceA cs (0 + i * 13 + 12) (AV.cells (AV.int .i64 n_1))))) (K AExit.ret (envOf 71 [(2, AV.bool false)], [])))) (chkW (objClosed (AObj.row 41 13 c1)) (chkW (objClosed (AObj.row t s (spliceA cs (0 + i * 13 + 12) (AV.cells (AV.int .i64 n_1))))) (K AExit.normal (envOf 71 [(3, AV.sl (some (0, 0)) n (ACap.rel 0)), (7, AV.sl (some (1, 0)) m (ACap.rel 0)), (48, AV.int .i64 (↑m : Int)), (49, AV.int .i64 (IntKind.wrap .i64 ((↑i : Int) + 1)))], [AObj.row 41 13 c1, AObj.row t s (spliceA cs (0 + i * 13 + 12) (AV.cells (AV.int .i64 n_1)))])))))))))) (chkW (objClosed (AObj.row 41 13 c1)) (chkW (objClosed (AObj.row 41 13 c2)) (K (AExit.exit 0) (envOf 71 [], []))))) = (wpP Tryd.prog (C7l toks) 60 (.inl p7_l0) (q7 (.sl (some (0, 0)) n (.rel 0)) (.sl (some (1, 0)) m (.rel 0)) m i [.row 41 13 c1, .row 41 13 c2]) (postX (C7l toks) t7 x7 r7 K)) := by kernel_rfl
theorem v7z (toks : List (List AV)) (K : AExit → St → Prop) : (K (AExit.exit 0) (envOf 71 [], [])) = (wpP Tryd.prog (C7l toks) 60 (.inl p7_l0) (q7 nilS nilS 0 0 []) (postX (C7l toks) t7 x7 r7 K)) := by kernel_rfl
theorem v7 (s : List UInt8) (toks us : List (List AV)) (R : AV → AHeap → Prop) : (askB (decide (List.length s > 16384)) (∃ (b : Bool), TbE.s { f := 10, s := sLive, r := Rs.of (Rs1.one K1.bool) } [] [] = some (AV.bool b) ∧ askB b (R (AV.bool true) []) (R (AV.bool false) [])) (askB (Prod.snd (Prod.snd (scanF s)) != 0) (askB (Prod.snd (Prod.snd (scanF s)) != 0) (∃ (b : Bool), TbE.s { f := 10, s := sLive, r := Rs.of (Rs1.one K1.bool) } [] [] = some (AV.bool b) ∧ askB b (R (AV.bool true) []) (R (AV.bool false) [])) (∃ (b : Bool), TbE.s { f := 10, s := sLive, r := Rs.of (Rs1.one K1.bool) } [] [] = some (AV.bool b) ∧ askB b (∃ (s : List UInt8), TbE.s { f := 25, s := sJW toks, r := Rs.of (Rs1.one K1.str) } [AV.sl none 0 (ACap.fix 0)] [] = some (AV.str s) ∧ ∃ (s_1 : List UInt8), TbE.s { f := 26, s := sJW toks, r := Rs.of (Rs1.one K1.str) } [AV.sl none 0 (ACap.fix 0)] [] = some (AV.str s_1) ∧ askB (!s == s_1) (R (AV.bool false) []) (askB (decide ((↑(List.length s) : Int) > 16384)) (R (AV.bool true) []) (askB (decide (List.length s > 16384)) (R (AV.bool false) []) (askB (Prod.snd (Prod.snd (scanF s)) != 0) (askB (Prod.snd (Prod.snd (scanF s)) != 0) (R (AV.bool false) []) (∃ (s1 : AV), ∃ (s2 : AV), ∃ (n : Int), ∃ (hp : AHeap), (envOf 71 [(3, AV.sl none 0 (ACap.fix 0)), (7, AV.sl none 0 (ACap.fix 0)), (48, AV.int .i64 0), (49, AV.int .i64 0)], ([] : AHeap)) = (envOf 71 [(3, s1), (7, s2), (48, AV.int .i64 n), (49, AV.int .i64 0)], hp) ∧ P7 toks us s1 s2 n hp ∧ R (AV.bool true) [])) (askB (List.isEmpty (Prod.fst (scanF s))) (∃ (s1 : AV), ∃ (s2 : AV), ∃ (n : Int), ∃ (hp : AHeap), (envOf 71 [(3, AV.sl none 0 (ACap.fix 0)), (7, AV.sl none 0 (ACap.fix 0)), (48, AV.int .i64 0), (49, AV.int .i64 0)], ([] : AHeap)) = (envOf 71 [(3, s1), (7, s2), (48, AV.int .i64 n), (49, AV.int .i64 0)], hp) ∧ P7 toks us s1 s2 n hp ∧ R (AV.bool true) []) (askB ((↑(List.length (Prod.fst (scanF s))) : Int) != 0) (R (AV.bool false) [AObj.row 41 13 (List.flatten (Prod.fst (scanF s)))]) (chkW (objClosed (AObj.row 41 13 (List.flatten (Prod.fst (scanF s))))) (∃ (s1 : AV), ∃ (s2 : AV), ∃ (n : Int), ∃ (hp : AHeap), (envOf 71 [(3, AV.sl none 0 (ACap.fix 0)), (7, AV.sl (some (0, 0)) (List.length (Prod.fst (scanF s))) (ACap.rel 0)), (48, AV.int .i64 (↑(List.length (Prod.fst (scanF s))) : Int)), (49, AV.int .i64 0)], [AObj.row 41 13 (List.flatten (Prod.fst (scanF s)))]) = (envOf 71 [(3, s1), (7, s2), (48, AV.int .i64 n), (49, AV.int .i64 0)], hp) ∧ P7 toks us s1 s2 n hp ∧ R (AV.bool true) [])))))))) (∃ (b : Bool), TbE.s { f := 10, s := sLive, r := Rs.of (Rs1.one K1.bool) } [] [] = some (AV.bool b) ∧ askB b (R (AV.bool true) []) (R (AV.bool false) [])))) (askB (List.isEmpty (Prod.fst (scanF s))) (∃ (b : Bool), TbE.s { f := 10, s := sLive, r := Rs.of (Rs1.one K1.bool) } [] [] = some (AV.bool b) ∧ askB b (∃ (s : List UInt8), TbE.s { f := 25, s := sJW toks, r := Rs.of (Rs1.one K1.str) } [AV.sl none 0 (ACap.fix 0)] [] = some (AV.str s) ∧ ∃ (s_1 : List UInt8), TbE.s { f := 26, s := sJW toks, r := Rs.of (Rs1.one K1.str) } [AV.sl none 0 (ACap.fix 0)] [] = some (AV.str s_1) ∧ askB (!s == s_1) (R (AV.bool false) []) (askB (decide ((↑(List.length s) : Int) > 16384)) (R (AV.bool true) []) (askB (decide (List.length s > 16384)) (R (AV.bool false) []) (askB (Prod.snd (Prod.snd (scanF s)) != 0) (askB (Prod.snd (Prod.snd (scanF s)) != 0) (R (AV.bool false) []) (∃ (s1 : AV), ∃ (s2 : AV), ∃ (n : Int), ∃ (hp : AHeap), (envOf 71 [(3, AV.sl none 0 (ACap.fix 0)), (7, AV.sl none 0 (ACap.fix 0)), (48, AV.int .i64 0), (49, AV.int .i64 0)], ([] : AHeap)) = (envOf 71 [(3, s1), (7, s2), (48, AV.int .i64 n), (49, AV.int .i64 0)], hp) ∧ P7 toks us s1 s2 n hp ∧ R (AV.bool true) [])) (askB (List.isEmpty (Prod.fst (scanF s))) (∃ (s1 : AV), ∃ (s2 : AV), ∃ (n : Int), ∃ (hp : AHeap), (envOf 71 [(3, AV.sl none 0 (ACap.fix 0)), (7, AV.sl none 0 (ACap.fix 0)), (48, AV.int .i64 0), (49, AV.int .i64 0)], ([] : AHeap)) = (envOf 71 [(3, s1), (7, s2), (48, AV.int .i64 n), (49, AV.int .i64 0)], hp) ∧ P7 toks us s1 s2 n hp ∧ R (AV.bool true) []) (askB ((↑(List.length (Prod.fst (scanF s))) : Int) != 0) (R (AV.bool false) [AObj.row 41 13 (List.flatten (Prod.fst (scanF s)))]) (chkW (objClosed (AObj.row 41 13 (List.flatten (Prod.fst (scanF s))))) (∃ (s1 : AV), ∃ (s2 : AV), ∃ (n : Int), ∃ (hp : AHeap), (envOf 71 [(3, AV.sl none 0 (ACap.fix 0)), (7, AV.sl (some (0, 0)) (List.length (Prod.fst (scanF s))) (ACap.rel 0)), (48, AV.int .i64 (↑(List.length (Prod.fst (scanF s))) : Int)), (49, AV.int .i64 0)], [AObj.row 41 13 (List.flatten (Prod.fst (scanF s)))]) = (envOf 71 [(3, s1), (7, s2), (48, AV.int .i64 n), (49, AV.int .i64 0)], hp) ∧ P7 toks us s1 s2 n hp ∧ R (AV.bool true) [])))))))) (∃ (b : Bool), TbE.s { f := 10, s := sLive, r := Rs.of (Rs1.one K1.bool) } [] [] = some (AV.bool b) ∧ askB b (R (AV.bool true) []) (R (AV.bool false) []))) (∃ (b : Bool), TbE.s { f := 10, s := sLive, r := Rs.of (Rs1.one K1.bool) } [] [AObj.row 41 13 (List.flatten (Prod.fst (scanF s)))] = some (AV.bool b) ∧ askB b (∃ (s_1 : List UInt8), TbE.s { f := 25, s := sJW toks, r := Rs.of (Rs1.one K1.str) } [AV.sl (some (0, 0)) (List.length (Prod.fst (scanF s))) (ACap.rel 0)] [AObj.row 41 13 (List.flatten (Prod.fst (scanF s)))] = some (AV.str s_1) ∧ ∃ (s_2 : List UInt8), TbE.s { f := 26, s := sJW toks, r := Rs.of (Rs1.one K1.str) } [AV.sl (some (0, 0)) (List.length (Prod.fst (scanF s))) (ACap.rel 0)] [AObj.row 41 13 (List.flatten (Prod.fst (scanF s)))] = some (AV.str s_2) ∧ askB (!s_1 == s_2) (R (AV.bool false) [AObj.row 41 13 (List.flatten (Prod.fst (scanF s)))]) (askB (decide ((↑(List.length s_1) : Int) > 16384)) (R (AV.bool true) [AObj.row 41 13 (List.flatten (Prod.fst (scanF s)))]) (askB (decide (List.length s_1 > 16384)) (R (AV.bool false) [AObj.row 41 13 (List.flatten (Prod.fst (scanF s)))]) (askB (Prod.snd (Prod.snd (scanF s_1)) != 0) (askB (Prod.snd (Prod.snd (scanF s_1)) != 0) (R (AV.bool false) [AObj.row 41 13 (List.flatten (Prod.fst (scanF s)))]) (askB (0 != (↑(List.length (Prod.fst (scanF s))) : Int)) (R (AV.bool false) [AObj.row 41 13 (List.flatten (Prod.fst (scanF s)))]) (chkW (objClosed (AObj.row 41 13 (List.flatten (Prod.fst (scanF s))))) (∃ (s1 : AV), ∃ (s2 : AV), ∃ (n : Int), ∃ (hp : AHeap), (envOf 71 [(3, AV.sl (some (0, 0)) (List.length (Prod.fst (scanF s))) (ACap.rel 0)), (7, AV.sl none 0 (ACap.fix 0)), (48, AV.int .i64 0), (49, AV.int .i64 0)], [AObj.row 41 13 (List.flatten (Prod.fst (scanF s)))]) = (envOf 71 [(3, s1), (7, s2), (48, AV.int .i64 n), (49, AV.int .i64 0)], hp) ∧ P7 toks us s1 s2 n hp ∧ R (AV.bool true) [])))) (askB (List.isEmpty (Prod.fst (scanF s_1))) (askB (0 != (↑(List.length (Prod.fst (scanF s))) : Int)) (R (AV.bool false) [AObj.row 41 13 (List.flatten (Prod.fst (scanF s)))]) (chkW (objClosed (AObj.row 41 13 (List.flatten (Prod.fst (scanF s))))) (∃ (s1 : AV), ∃ (s2 : AV), ∃ (n : Int), ∃ (hp : AHeap), (envOf 71 [(3, AV.sl (some (0, 0)) (List.length (Prod.fst (scanF s))) (ACap.rel 0)), (7, AV.sl none 0 (ACap.fix 0)), (48, AV.int .i64 0), (49, AV.int .i64 0)], [AObj.row 41 13 (List.flatten (Prod.fst (scanF s)))]) = (envOf 71 [(3, s1), (7, s2), (48, AV.int .i64 n), (49, AV.int .i64 0)], hp) ∧ P7 toks us s1 s2 n hp ∧ R (AV.bool true) []))) (askB ((↑(List.length (Prod.fst (scanF s_1))) : Int) != (↑(List.length (Prod.fst (scanF s))) : Int)) (R (AV.bool false) [AObj.row 41 13 (List.flatten (Prod.fst (scanF s))), AObj.row 41 13 (List.flatten (Prod.fst (scanF s_1)))]) (chkW (objClosed (AObj.row 41 13 (List.flatten (Prod.fst (scanF s))))) (chkW (objClosed (AObj.row 41 13 (List.flatten (Prod.fst (scanF s_1))))) (∃ (s1 : AV), ∃ (s2 : AV), ∃ (n : Int), ∃ (hp : AHeap), (envOf 71 [(3, AV.sl (some (0, 0)) (List.length (Prod.fst (scanF s))) (ACap.rel 0)), (7, AV.sl (some (1, 0)) (List.length (Prod.fst (scanF s_1))) (ACap.rel 0)), (48, AV.int .i64 (↑(List.length (Prod.fst (scanF s_1))) : Int)), (49, AV.int .i64 0)], [AObj.row 41 13 (List.flatten (Prod.fst (scanF s))), AObj.row 41 13 (List.flatten (Prod.fst (scanF s_1)))]) = (envOf 71 [(3, s1), (7, s2), (48, AV.int .i64 n), (49, AV.int .i64 0)], hp) ∧ P7 toks us s1 s2 n hp ∧ R (AV.bool true) []))))))))) (∃ (b : Bool), TbE.s { f := 10, s := sLive, r := Rs.of (Rs1.one K1.bool) } [] [AObj.row 41 13 (List.flatten (Prod.fst (scanF s)))] = some (AV.bool b) ∧ askB b (R (AV.bool true) [AObj.row 41 13 (List.flatten (Prod.fst (scanF s)))]) (R (AV.bool false) [AObj.row 41 13 (List.flatten (Prod.fst (scanF s)))])))))) = (wpF Tryd.prog (C7 toks us) 80 p7 [.str s] [] R) := by kernel_rfl
theorem jn_split : ∀ (ws : List (List UInt8)) (i : Nat), ∃ r, jn ws = jn (ws.take i) ++ r
  | ws, 0 => ⟨jn ws, rfl⟩
  | [], i + 1 => ⟨[], rfl⟩
  | [w], i + 1 => ⟨[], by rw [List.take_succ_cons, List.take_nil, List.append_nil]⟩
  | w :: v :: ws, 1 => ⟨32 :: jn (v :: ws), rfl⟩
  | w :: v :: ws, i + 2 => by
    obtain ⟨r, h⟩ := jn_split (v :: ws) (i + 1)
    refine ⟨r, ?_⟩
    show w ++ 32 :: jn (v :: ws) = (w ++ 32 :: jn ((v :: ws).take (i + 1))) ++ r
    rw [h]; simp
theorem jn_le (ws : List (List UInt8)) (i : Nat) : (jn (ws.take i)).length ≤ (jn ws).length := by
  obtain ⟨r, h⟩ := jn_split ws i
  rw [h, List.length_append]; omega
theorem jn_snoc : ∀ (ws : List (List UInt8)) (w : List UInt8), ws ≠ [] → jn (ws ++ [w]) = jn ws ++ 32 :: w
  | [a], w, _ => rfl
  | a :: b :: ws, w, _ => by
    show a ++ 32 :: jn ((b :: ws) ++ [w]) = (a ++ 32 :: jn (b :: ws)) ++ 32 :: w
    rw [jn_snoc (b :: ws) w (List.cons_ne_nil _ _)]; simp
theorem jn_take {ws : List (List UInt8)} {i : Nat} (hi : i < ws.length) (h0 : 0 < i) : jn (ws.take (i + 1)) = jn (ws.take i) ++ 32 :: ws[i] := by
  rw [List.take_succ_eq_append_getElem hi, jn_snoc]
  intro e
  have := congrArg List.length e
  rw [List.length_take, List.length_nil] at this
  omega
theorem txt_at {toks : List (List AV)} {i : Nat} (hi : i < toks.length) (h : ∀ t ∈ toks, Shaped t) : partR none toks.flatten (0 + i * 13 + 1) = some (.str (tokText toks[i])) := by
  have hf := fl_at i hi h
  obtain ⟨n1, s1, n2, b, n3, n4, n5, n6, n7, b1, s2, n8, n9, hsh⟩ := h _ (List.getElem_mem hi)
  have e : ((toks.flatten.drop (i * 13)).take 13)[1]? = some (.str s1) := by rw [hf, hsh]; rfl
  rw [List.getElem?_take_of_lt (by decide), List.getElem?_drop] at e
  rw [hsh]
  show toks.flatten[0 + i * 13 + 1]? = _
  rw [Nat.zero_add]
  exact e
theorem at_at {toks : List (List AV)} {i : Nat} (hi : i < toks.length) (h : ∀ t ∈ toks, Shaped t) : partR none toks.flatten (0 + i * 13 + 12) = toks[i][12]? := by
  have hf := fl_at i hi h
  have e : ((toks.flatten.drop (i * 13)).take 13)[12]? = toks[i][12]? := by rw [hf]
  rw [List.getElem?_take_of_lt (by decide), List.getElem?_drop] at e
  show toks.flatten[0 + i * 13 + 12]? = _
  rw [Nat.zero_add]
  exact e
theorem bv_one (l : List UInt8) : List.all (List.map (fun (b : UInt8) => AV.int .u8 (↑(UInt8.toNat b) : Int)) l) AV.one = true := by
  rw [List.all_eq_true]
  intro x hx
  obtain ⟨c, _, rfl⟩ := List.mem_map.1 hx
  rfl
theorem map_txt {toks : List (List AV)} {i : Nat} (hi : i < toks.length) : (toks.map tokText)[i]'(by rw [List.length_map]; exact hi) = tokText toks[i] := List.getElem_map ..
theorem jn_one {ws : List (List UInt8)} (h : 0 < ws.length) : jn (ws.take 1) = ws[0] := by
  cases ws with
  | nil => cases h
  | cons w ws => rfl
theorem loop26 (toks : List (List AV)) (hS : ∀ t ∈ toks, Shaped t) (hp : ∀ t ∈ toks, 0 < (tokText t).length) (hne : toks ≠ []) (hn : toks.length ≤ 1099511627776) (hl : (jn (toks.map tokText)).length ≤ 1099511627776) : W Tryd.prog (tbS Q []) 1 (.inl (.loop p26_l0)) (n26 toks.length toks.flatten) (fun e st => e = .exit 0 ∧ st = (envOf 25 [(3, .sl (some (1, 0)) (jn (toks.map tokText)).length (.rel 0))], [.ro toks.flatten, .row 5 1 (bv (jn (toks.map tokText)))])) := by
  have hcw : CwOK (tbS Q []) (tbW Q []) := tbW_ok rfl
  have hlen : (toks.map tokText).length = toks.length := List.length_map ..
  have main := W_roundsG (P := Tryd.prog) (S := tbS Q []) (b0 := 1) (a := p26_l0) (fun i : Nat => if i = 0 then n26 toks.length toks.flatten else h26 toks.length toks.flatten (jn ((toks.map tokText).take i)) i)
    (fun i => i ≤ toks.length) (fun i => toks.length - i) (fun _ e st => e = .exit 0 ∧ st = (envOf 25 [(3, .sl (some (1, 0)) (jn (toks.map tokText)).length (.rel 0))], [.ro toks.flatten, .row 5 1 (bv (jn (toks.map tokText)))])) ?_ 0 (Nat.zero_le _)
  · exact main
  · rintro i h1
    have hcl : objClosed (.ro toks.flatten) = true := closedL (fl_all hS)
    by_cases h0 : i = 0
    · subst h0
      have hpos : 0 < toks.length := List.length_pos_iff.2 hne
      have hL := txt_at hpos hS
      have hP := hp _ (List.getElem_mem hpos)
      have e1 : jn ((toks.map tokText).take 1) = tokText toks[0] := by rw [jn_one (by omega), map_txt hpos]
      have hle := jn_le (toks.map tokText) 1
      rw [e1] at hle
      show W Tryd.prog (tbS Q []) 1 (.inl p26_l0) (n26 toks.length toks.flatten) _
      refine W_wpX (C := C26n) hcw (by intro x hx; cases hx) (n := 60) (tn := t26) (tx := x26) (tr := x26) ((v26n toks.length toks.flatten _).mp ?_)
      refine askT (decide_eq_true (by omega)) (chkI (decide_eq_true (by omega)) ⟨tokText toks[0], hL, chkI (bv_one _) (askF (decide_eq_false (by omega)) (chkI (decide_eq_true (by omega)) (chkI (decide_eq_true (by omega)) (chkI hcl (chkI (bv_ocl _) ⟨1, ?_, hpos, by show toks.length - 1 < toks.length - 0; omega, fun _ _ h => h⟩)))))⟩)
      show _ = h26 toks.length toks.flatten (jn ((toks.map tokText).take 1)) 1
      rw [e1]; rfl
    · have hc : (if i = 0 then n26 toks.length toks.flatten else h26 toks.length toks.flatten (jn ((toks.map tokText).take i)) i) = h26 toks.length toks.flatten (jn ((toks.map tokText).take i)) i := if_neg h0
      simp only [hc]
      refine W_wpX (C := C26m) hcw (by intro x hx; cases hx) (n := 60) (tn := t26) (tx := x26) (tr := x26) ((v26b toks.length i toks.flatten _ _).mp ?_)
      rcases Nat.lt_or_ge i toks.length with hi | hi
      · have w1 : IntKind.wrap .i64 ((i : Int) + 1) = ((i + 1 : Nat) : Int) := by rw [IntKind.wrap_i64]; omega
        have hL := txt_at hi hS
        have e1 : jn ((toks.map tokText).take (i + 1)) = jn ((toks.map tokText).take i) ++ 32 :: tokText toks[i] := by rw [jn_take (by omega) (by omega), map_txt hi]
        have hle := jn_le (toks.map tokText) (i + 1)
        rw [e1, List.length_append, List.length_cons] at hle
        rw [w1]
        have hst : ((envOf 25 [(0, .sl (some (0, 0)) toks.length (.rel 0)), (3, .sl (some (1, 0)) ((jn ((toks.map tokText).take i)).length + 1 + (tokText toks[i]).length) (.rel 0)), (4, .int .i64 ((i + 1 : Nat) : Int))], [.ro toks.flatten, .row 5 1 ((bv (jn ((toks.map tokText).take i)) ++ [.int .u8 32]) ++ bv (tokText toks[i]))]) : St) = if i + 1 = 0 then n26 toks.length toks.flatten else h26 toks.length toks.flatten (jn ((toks.map tokText).take (i + 1))) ((i + 1 : Nat) : Int) := by
          rw [if_neg (by omega), e1]
          unfold h26
          rw [bv_apps, List.length_append, List.length_cons, List.append_assoc, Nat.add_assoc, Nat.add_comm 1]
          rfl
        have hob : objClosed (.row 5 1 ((bv (jn ((toks.map tokText).take i)) ++ [.int .u8 32]) ++ bv (tokText toks[i]))) = true := by
          have : (bv (jn ((toks.map tokText).take i)) ++ [.int .u8 32]) ++ bv (tokText toks[i]) = bv (jn ((toks.map tokText).take i) ++ 32 :: tokText toks[i]) := by
            rw [bv_apps, List.append_assoc]; rfl
          rw [this]; exact bv_ocl _
        refine askT (decide_eq_true (by omega)) (askT (decide_eq_true (by omega)) ⟨_, rfl, 5, 1, _, rfl, chkI rfl (chkI rfl (chkI rfl (chkI (decide_eq_true (by rw [bv_len]; omega)) (chkI (decide_eq_true (by omega)) (chkI (decide_eq_true (by omega)) (chkI (decide_eq_true (by omega)) ⟨_, hL, 5, 1, _, rfl, chkI (bv_one _) (chkI rfl (chkI rfl (chkI (decide_eq_true (by rw [List.length_append, bv_len]; simp)) (chkI (decide_eq_true (by omega)) (chkI (decide_eq_true (by omega)) (chkI hcl (chkI hob ⟨i + 1, hst, hi, by show toks.length - (i + 1) < toks.length - i; omega, fun _ _ h => h⟩)))))))⟩))))))⟩)
      · have hi' : (toks.map tokText).take i = toks.map tokText := List.take_of_length_le (by omega)
        rw [hi']
        exact askF (decide_eq_false (by omega)) (chkI hcl (chkI (bv_ocl _) ⟨rfl, rfl⟩))
theorem loop26z : W Tryd.prog (tbS Q []) 0 (.inl (.loop p26_l0)) z26 (fun e st => e = .exit 0 ∧ st = (envOf 25 [(3, nilS)], [])) := by
  have hcw : CwOK (tbS Q []) (tbW Q []) := tbW_ok rfl
  have main := W_roundsG (P := Tryd.prog) (S := tbS Q []) (b0 := 0) (a := p26_l0) (fun _ : Unit => z26) (fun _ => True) (fun _ => 0) (fun _ e st => e = .exit 0 ∧ st = (envOf 25 [(3, nilS)], [])) ?_ () trivial
  · exact main
  · rintro - -
    refine W_wpX (C := C26z) hcw (by intro x hx; cases hx) (n := 60) (tn := t26) (tx := x26) (tr := x26) ((v26z _).mp ?_)
    exact ⟨rfl, rfl⟩
theorem gJW26_ok (toks : List (List AV)) (args : List AV) (hs : List AObj) (v : AV) (hv : gJW toks args hs = some v) : v.closed = true ∧ ∃ h', CallSem Tryd.prog 26 args hs v h' := by
  unfold gJW at hv
  split at hv
  · rename_i hc
    cases hv
    refine ⟨rfl, ?_⟩
    obtain ⟨⟨hS, hp, hn, hl⟩, hc⟩ := hc
    rcases hc with ⟨rfl, rfl, rfl⟩ | ⟨hne, rfl, rfl⟩
    · obtain ⟨u, h', rfl, hsem⟩ := sem_vc mixed (C := C26Z) tb0_ok (tbS_q _ _) (tbW_ok rfl) ht26 c26 (one_part rfl (part_loop (id := 3) rfl rfl fun st K hT => by
        obtain ⟨rfl, hk⟩ := hT
        refine W_mono loop26z fun e st he => ?_
        obtain ⟨rfl, rfl⟩ := he
        exact hk)) (v26Z fun u _ => u = .str []) ⟨rfl, rfl⟩
      exact ⟨h', hsem⟩
    · obtain ⟨u, h', rfl, hsem⟩ := sem_vc mixed (C := C26 toks) tb0_ok (tbS_q _ _) (tbW_ok rfl) ht26 c26 (one_part rfl (part_loop (id := 3) rfl rfl fun st K hT => by
        obtain ⟨rfl, hk⟩ := hT
        refine W_mono (loop26 toks hS hp hne hn hl) fun e st he => ?_
        obtain ⟨rfl, rfl⟩ := he
        exact hk)) (v26 toks fun u _ => u = .str (jn (toks.map tokText))) (chkI (closedL (fl_all hS)) ⟨rfl, _, strOf_bv _ _ 1 rfl, rfl⟩)
      exact ⟨h', hsem⟩
  · cases hv
theorem refJoin_ok (toks : List (List AV)) : QuietOK Tryd.prog 26 (sJW toks) := quiet_of_sem ht26 0 (g := gJW toks) (gJW26_ok toks)
theorem eq46_ok (ws : List (List UInt8)) : (e46 ws).OK := fun vs h K hT => ⟨(.str (jn ws), h), by show (sJoin ws vs h).map (·, h) = _; rw [hT.1]; rfl, hT.2⟩
theorem tb46_ok (ws : List (List UInt8)) : (tbSG Q [] [e46 ws]).OK Tryd.prog := tbSG_ok quietText (by simp) (by
  intro x hx
  rw [List.mem_singleton] at hx
  subst hx
  exact qS_full (join_ok ws))
theorem tbW46_ok (ws : List (List UInt8)) : CwOK (tbSG Q [] [e46 ws]) (tbWG Q [] [e46 ws]) := tbWG_ok rfl (by
  intro x hx
  rw [List.mem_singleton] at hx
  subst hx
  exact eq46_ok ws)
theorem loop25 (toks : List (List AV)) (lg : List TbG) (hcw : CwOK (tbSG Q [] lg) (tbWG Q [] lg)) (hS : ∀ t ∈ toks, Shaped t) (hne : toks ≠ []) (hn : toks.length ≤ 1099511627776) : W Tryd.prog (tbSG Q [] lg) 1 (.inl (.loop p25_l0)) (n25 toks.length toks.flatten) (fun e st => e = .exit 0 ∧ st = (envOf 20 [(3, .sl (some (1, 0)) toks.length (.rel 0))], [.ro toks.flatten, .row 9 1 ((toks.map tokText).map .str)])) := by
  have hlen : (toks.map tokText).length = toks.length := List.length_map ..
  have main := W_roundsG (P := Tryd.prog) (S := tbSG Q [] lg) (b0 := 1) (a := p25_l0) (fun i : Nat => if i = 0 then n25 toks.length toks.flatten else h25 toks.length toks.flatten ((toks.map tokText).take i) i)
    (fun i => i ≤ toks.length) (fun i => toks.length - i) (fun _ e st => e = .exit 0 ∧ st = (envOf 20 [(3, .sl (some (1, 0)) toks.length (.rel 0))], [.ro toks.flatten, .row 9 1 ((toks.map tokText).map .str)])) ?_ 0 (Nat.zero_le _)
  · exact main
  · rintro i h1
    have hcl : objClosed (.ro toks.flatten) = true := closedL (fl_all hS)
    have hob : ∀ l : List (List UInt8), objClosed (.row 9 1 (l.map .str)) = true := fun l => closedL (strs_closed l)
    by_cases h0 : i = 0
    · subst h0
      have hpos : 0 < toks.length := List.length_pos_iff.2 hne
      have hL := load_at hpos hS
      have hx := map_txt hpos
      obtain ⟨n1, s1, n2, b, n3, n4, n5, n6, n7, b1, s2, n8, n9, hsh⟩ := hS _ (List.getElem_mem hpos)
      rw [hsh] at hL hx
      have e1 : (toks.map tokText).take 1 = [s1] := by
        rw [List.take_succ_eq_append_getElem (by omega), hx]; rfl
      show W Tryd.prog (tbSG Q [] lg) 1 (.inl p25_l0) (n25 toks.length toks.flatten) _
      refine W_wpX (C := { tbCG Q [] lg (fun k => k == 0) kd25 with b0 := 1 }) hcw (by intro x hx; cases hx) (n := 60) (tn := t25) (tx := x25) (tr := x25) ((v25n lg toks.length toks.flatten _).mp ?_)
      refine askT (decide_eq_true (by omega)) (chkI (decide_eq_true (by omega)) ⟨n1, s1, n2, b, n3, n4, n5, n6, n7, b1, s2, n8, n9, hL, chkI hcl ⟨1, ?_, hpos, by show toks.length - 1 < toks.length - 0; omega, fun _ _ h => h⟩⟩)
      show _ = h25 toks.length toks.flatten ((toks.map tokText).take 1) 1
      rw [e1]; rfl
    · have hc : (if i = 0 then n25 toks.length toks.flatten else h25 toks.length toks.flatten ((toks.map tokText).take i) i) = h25 toks.length toks.flatten ((toks.map tokText).take i) i := if_neg h0
      simp only [hc]
      refine W_wpX (C := { tbCG Q [] lg (fun k => k == 0 || k == 1 || k == 4) kd25 with b0 := 1 }) hcw (by intro x hx; cases hx) (n := 60) (tn := t25) (tx := x25) (tr := x25) ((v25b lg toks.length i toks.flatten _ _).mp ?_)
      rcases Nat.lt_or_ge i toks.length with hi | hi
      · have w1 : IntKind.wrap .i64 ((i : Int) + 1) = ((i + 1 : Nat) : Int) := by rw [IntKind.wrap_i64]; omega
        have hL := load_at hi hS
        have hx := map_txt hi
        obtain ⟨n1, s1, n2, b, n3, n4, n5, n6, n7, b1, s2, n8, n9, hsh⟩ := hS _ (List.getElem_mem hi)
        rw [hsh] at hL hx
        have hx' : tokText [AV.int .i64 n1, .str s1, .int .i64 n2, .bool b, .int .u64 n3, .int .u64 n4, .int .u64 n5, .int .u64 n6, .int .i64 n7, .bool b1, .str s2, .int .i64 n8, .int .i64 n9] = s1 := rfl
        rw [hx'] at hx
        have e1 : (toks.map tokText).take (i + 1) = (toks.map tokText).take i ++ [s1] := by
          rw [List.take_succ_eq_append_getElem (by omega), hx]
        have hlt : ((toks.map tokText).take i).length = i := by rw [List.length_take]; omega
        rw [w1]
        have hst : ((envOf 20 [(3, .sl (some (1, 0)) (((toks.map tokText).take i).length + 1) (.rel 0)), (6, .sl (some (0, 0)) toks.length (.rel 0)), (7, .int .i64 toks.length), (8, .int .i64 ((i + 1 : Nat) : Int))], [.ro toks.flatten, .row 9 1 (((toks.map tokText).take i).map .str ++ [.str s1])]) : St) = if i + 1 = 0 then n25 toks.length toks.flatten else h25 toks.length toks.flatten ((toks.map tokText).take (i + 1)) ((i + 1 : Nat) : Int) := by
          rw [if_neg (by omega), e1]
          unfold h25
          rw [List.map_append, List.length_append]
          rfl
        have hob' : objClosed (.row 9 1 (((toks.map tokText).take i).map .str ++ [.str s1])) = true := by
          have : ((toks.map tokText).take i).map AV.str ++ [.str s1] = ((toks.map tokText).take i ++ [s1]).map AV.str := by rw [List.map_append]; rfl
          rw [this]; exact hob _
        exact askT (decide_eq_true (by omega)) (chkI (decide_eq_true (by omega)) ⟨n1, s1, n2, b, n3, n4, n5, n6, n7, b1, s2, n8, n9, hL, 9, 1, _, rfl, chkI rfl (chkI rfl (chkI (decide_eq_true (by rw [List.length_map]; omega)) (chkI (decide_eq_true (by omega)) (chkI (decide_eq_true (by omega)) (chkI hcl (chkI hob' ⟨i + 1, hst, hi, by show toks.length - (i + 1) < toks.length - i; omega, fun _ _ h => h⟩))))))⟩)
      · have hi' : (toks.map tokText).take i = toks.map tokText := List.take_of_length_le (by omega)
        rw [hi']
        exact askF (decide_eq_false (by omega)) (chkI hcl (chkI (hob _) ⟨rfl, by rw [hlen]⟩))
theorem loop25z (lg : List TbG) (hcw : CwOK (tbSG Q [] lg) (tbWG Q [] lg)) : W Tryd.prog (tbSG Q [] lg) 0 (.inl (.loop p25_l0)) z25 (fun e st => e = .exit 0 ∧ st = (envOf 20 [(3, nilS)], [])) := by
  have main := W_roundsG (P := Tryd.prog) (S := tbSG Q [] lg) (b0 := 0) (a := p25_l0) (fun _ : Unit => z25) (fun _ => True) (fun _ => 0) (fun _ e st => e = .exit 0 ∧ st = (envOf 20 [(3, nilS)], [])) ?_ () trivial
  · exact main
  · rintro - -
    refine W_wpX (C := tbCG Q [] lg (fun _ => false) kd25) hcw (by intro x hx; cases hx) (n := 60) (tn := t25) (tx := x25) (tr := x25) ((v25z lg _).mp ?_)
    exact ⟨rfl, rfl⟩
theorem gJW25_ok (toks : List (List AV)) (args : List AV) (hs : List AObj) (v : AV) (hv : gJW toks args hs = some v) : v.closed = true ∧ ∃ h', CallSem Tryd.prog 25 args hs v h' := by
  unfold gJW at hv
  split at hv
  · rename_i hc
    cases hv
    refine ⟨rfl, ?_⟩
    obtain ⟨⟨hS, hp, hn, hl⟩, hc⟩ := hc
    rcases hc with ⟨rfl, rfl, rfl⟩ | ⟨hne, rfl, rfl⟩
    · obtain ⟨u, h', rfl, hsem⟩ := sem_vc mixed (C := C25Z) (tb46_ok []) (tbSG_q _ _ _) (tbW46_ok []) ht25 c25 (one_part rfl (part_loop (id := 3) rfl rfl fun st K hT => by
        obtain ⟨rfl, hk⟩ := hT
        refine W_mono (loop25z _ (tbW46_ok [])) fun e st he => ?_
        obtain ⟨rfl, rfl⟩ := he
        exact hk)) (v25Z fun u _ => u = .str []) ⟨rfl, join_nil [] [] rfl, rfl⟩
      exact ⟨h', hsem⟩
    · have hlen : (toks.map tokText).length = toks.length := List.length_map ..
      obtain ⟨u, h', rfl, hsem⟩ := sem_vc mixed (C := C25 toks) (tb46_ok _) (tbSG_q _ _ _) (tbW46_ok _) ht25 c25 (one_part rfl (part_loop (id := 3) rfl rfl fun st K hT => by
        obtain ⟨rfl, hk⟩ := hT
        refine W_mono (loop25 toks _ (tbW46_ok _) hS hne hn) fun e st he => ?_
        obtain ⟨rfl, rfl⟩ := he
        exact hk)) (v25 toks fun u _ => u = .str (jn (toks.map tokText))) (chkI (closedL (fl_all hS)) ⟨rfl, by
          have := join_at (ws := toks.map tokText) (h := [.ro toks.flatten, .row 9 1 ((toks.map tokText).map .str)]) (k := 1) (t := 9) (s := 1) rfl (by omega) (by omega)
          rw [hlen] at this
          exact this, rfl⟩)
      exact ⟨h', hsem⟩
  · cases hv
theorem joinW_ok (toks : List (List AV)) : QuietOK Tryd.prog 25 (sJW toks) := quiet_of_sem ht25 0 (g := gJW toks) (gJW25_ok toks)
theorem jw_nil (h : AHeap) : sJW [] [nilS] h = some (.str []) := by
  unfold sJW
  rw [imp_closed rfl]
  show gJW [] _ [] = _
  unfold gJW
  exact if_pos ⟨⟨(fun t ht => by cases ht), (fun t ht => by cases ht), by decide, by decide⟩, .inl ⟨rfl, rfl, rfl⟩⟩
theorem jw_at {toks : List (List AV)} (hS : ∀ t ∈ toks, Shaped t) (hp : ∀ t ∈ toks, 0 < (tokText t).length) (hne : toks ≠ []) (hn : toks.length ≤ 1099511627776) (hl : (jn (toks.map tokText)).length ≤ 1099511627776) : sJW toks [.sl (some (0, 0)) toks.length (.rel 0)] [.row 41 13 toks.flatten] = some (.str (jn (toks.map tokText))) := by
  unfold sJW
  rw [imp_row (t := 41) (s := 13) (cs := toks.flatten) rfl (fl_all hS) rfl]
  show gJW toks _ _ = _
  unfold gJW
  exact if_pos ⟨⟨hS, hp, hn, hl⟩, .inr ⟨hne, rfl, rfl⟩⟩
theorem splice_tok (A B : List AV) (x0 x1 x2 x3 x4 x5 x6 x7 x8 x9 x10 x11 q x : AV) : spliceA (A ++ ([x0, x1, x2, x3, x4, x5, x6, x7, x8, x9, x10, x11, q] ++ B)) (A.length + 12) [x] = A ++ ([x0, x1, x2, x3, x4, x5, x6, x7, x8, x9, x10, x11, x] ++ B) := by
  unfold spliceA
  rw [List.take_length_add_append, Nat.add_assoc, List.drop_length_add_append]
  simp
theorem again_at : ∀ (a b : List (List AV)), Again a b → ∀ (i : Nat) (h : i < a.length) (h' : i < b.length), ∃ q : Int, b[i] = at12 a[i] q
  | t :: a, u :: b, h, 0, _, _ => h.1
  | t :: a, u :: b, h, i + 1, h1, h2 => again_at a b h.2 i (by simpa using h1) (by simpa using h2)
theorem tbS7_ok (toks : List (List AV)) : (tbSF Q (tb7 toks) [e8]).OK Tryd.prog := tbSF_ok quietText (by
  intro x hx
  simp only [tb7, List.mem_cons, List.not_mem_nil, or_false] at hx
  rcases hx with rfl | rfl | rfl
  · exact live_ok
  · exact joinW_ok toks
  · exact refJoin_ok toks) (by
  intro x hx
  rw [List.mem_singleton] at hx
  subst hx
  exact scan_ok)
theorem tbW7_ok (toks : List (List AV)) : CwOK (tbSF Q (tb7 toks) [e8]) (tbWF Q (tb7 toks) [e8]) := tbWF_ok rfl (by
  intro x hx
  rw [List.mem_singleton] at hx
  subst hx
  exact e8_ok)
def m7 (toks us : List (List AV)) (i : Nat) : List AV := (toks.take i ++ us.drop i).flatten
theorem loop7 (toks us : List (List AV)) (hS : ∀ t ∈ toks, Shaped t) (hU : ∀ t ∈ us, Shaped t) (hA : Again toks us) (hn : toks.length ≤ 1099511627776) : W Tryd.prog (tbSF Q (tb7 toks) [e8]) 0 (.inl (.loop p7_l0)) (q7 (.sl (some (0, 0)) toks.length (.rel 0)) (.sl (some (1, 0)) us.length (.rel 0)) us.length 0 [.row 41 13 toks.flatten, .row 41 13 us.flatten]) (fun e st => e = .exit 0 ∧ st = (envOf 71 [], [])) := by
  have hcw := tbW7_ok toks
  have hlen := again_len _ _ hA
  have main := W_roundsG (P := Tryd.prog) (S := tbSF Q (tb7 toks) [e8]) (b0 := 0) (a := p7_l0) (fun i : Nat => q7 (.sl (some (0, 0)) toks.length (.rel 0)) (.sl (some (1, 0)) us.length (.rel 0)) us.length i [.row 41 13 toks.flatten, .row 41 13 (m7 toks us i)])
    (fun i => i ≤ toks.length) (fun i => toks.length - i) (fun _ e st => e = .exit 0 ∧ st = (envOf 71 [], [])) ?_ 0 (Nat.zero_le _)
  · exact main
  · rintro i h1
    have hM : ∀ j, ∀ t ∈ toks.take j ++ us.drop j, Shaped t := fun j t ht => by
      rcases List.mem_append.1 ht with ht | ht
      · exact hS t (List.mem_of_mem_take ht)
      · exact hU t (List.mem_of_mem_drop ht)
    refine W_wpX (C := C7l toks) hcw (by intro x hx; cases hx) (n := 60) (tn := t7) (tx := x7) (tr := r7) ((v7b toks us toks.length us.length i toks.flatten (m7 toks us i) _).mp ?_)
    rcases Nat.lt_or_ge i toks.length with hi | hi
    · have w1 : IntKind.wrap .i64 ((i : Int) + 1) = ((i + 1 : Nat) : Int) := by rw [IntKind.wrap_i64]; omega
      have hi2 : i < us.length := by omega
      have hL := load_at hi hS
      have hL12 := at_at hi hS
      obtain ⟨q, hq⟩ := again_at _ _ hA i hi hi2
      have hl := fl_len (hM i)
      have hmid : m7 toks us i = (toks.take i).flatten ++ (us[i] ++ (us.drop (i + 1)).flatten) := by
        unfold m7
        rw [List.drop_eq_getElem_cons hi2, List.flatten_append, List.flatten_cons]
      have hmid2 : m7 toks us (i + 1) = (toks.take i).flatten ++ (toks[i] ++ (us.drop (i + 1)).flatten) := by
        unfold m7
        rw [List.take_succ_eq_append_getElem hi, List.flatten_append, List.flatten_append, List.append_assoc]
        simp
      have hA' : (toks.take i).flatten.length = i * 13 := by
        have := fl_len (acc := toks.take i) fun t ht => hS t (List.mem_of_mem_take ht)
        rw [this, List.length_take, Nat.min_eq_left (by omega)]
      have hL2 : partR (some 13) (m7 toks us (i + 1)) (0 + i * 13) = some (.agg toks[i]) := by
        have hlt : i < (toks.take (i + 1) ++ us.drop (i + 1)).length := by rw [List.length_append, List.length_take]; omega
        have := load_at hlt (hM (i + 1))
        have e : (toks.take (i + 1) ++ us.drop (i + 1))[i] = toks[i] := by
          rw [List.getElem_append_left (by rw [List.length_take]; omega), List.getElem_take]
        rw [e] at this
        exact this
      have hcl2 : objClosed (.row 41 13 (m7 toks us (i + 1))) = true := fl_closed (hM (i + 1))
      obtain ⟨n1, s1, n2, b, n3, n4, n5, n6, n7, b1, s2, n8, n9, hsh⟩ := hS _ (List.getElem_mem hi)
      rw [hsh] at hL hL12 hq hmid2 hL2
      have hq' : us[i] = [.int .i64 n1, .str s1, .int .i64 n2, .bool b, .int .u64 n3, .int .u64 n4, .int .u64 n5, .int .u64 n6, .int .i64 n7, .bool b1, .str s2, .int .i64 n8, .int .i64 q] := hq
      have hsp : spliceA (m7 toks us i) (0 + i * 13 + 12) (AV.cells (.int .i64 n9)) = m7 toks us (i + 1) := by
        rw [hmid, hmid2, hq', Nat.zero_add, ← hA']
        exact splice_tok _ _ _ _ _ _ _ _ _ _ _ _ _ _ _ _
      rw [w1]
      refine askT (decide_eq_true (by omega)) (chkI (decide_eq_true (by omega)) ⟨n9, hL12, chkI (decide_eq_true (by omega)) ⟨41, 13, m7 toks us i, rfl, chkI (decide_eq_true (by unfold m7; rw [hl, List.length_append, List.length_take, List.length_drop]; omega)) (chkI (decide_eq_true (by omega)) ?_)⟩⟩)
      rw [hsp]
      exact ⟨n1, s1, n2, b, n3, n4, n5, n6, n7, b1, s2, n8, n9, hL2, chkI (decide_eq_true (by omega)) ⟨n1, s1, n2, b, n3, n4, n5, n6, n7, b1, s2, n8, n9, hL, askF (by simp) (chkI (fl_closed hS) (chkI hcl2 ⟨i + 1, rfl, hi, by show toks.length - (i + 1) < toks.length - i; omega, fun _ _ h => h⟩))⟩⟩
    · exact askF (decide_eq_false (by omega)) (chkI (fl_closed hS) (chkI (fl_closed (hM i)) ⟨rfl, rfl⟩))
theorem loop7z (toks : List (List AV)) : W Tryd.prog (tbSF Q (tb7 toks) [e8]) 0 (.inl (.loop p7_l0)) (q7 nilS nilS 0 0 []) (fun e st => e = .exit 0 ∧ st = (envOf 71 [], [])) := by
  have main := W_roundsG (P := Tryd.prog) (S := tbSF Q (tb7 toks) [e8]) (b0 := 0) (a := p7_l0) (fun _ : Unit => q7 nilS nilS 0 0 []) (fun _ => True) (fun _ => 0) (fun _ e st => e = .exit 0 ∧ st = (envOf 71 [], [])) ?_ () trivial
  · exact main
  · rintro - -
    refine W_wpX (C := C7l toks) (tbW7_ok toks) (by intro x hx; cases hx) (n := 60) (tn := t7) (tx := x7) (tr := r7) ((v7z toks _).mp ?_)
    exact ⟨rfl, rfl⟩
theorem jn_bd {s : List UInt8} : ∀ (toks : List (List AV)) (p : Nat), Chain s p toks → p ≤ s.length → (jn (toks.map tokText)).length + p ≤ s.length + toks.length
  | [], p, hc, hp => by show 0 + p ≤ s.length + 0; omega
  | [t], p, hc, hp => by
    obtain ⟨c1, c2, c3, c4⟩ := hc
    have := (tok_le c1 c2).2
    rw [← c3] at this
    show (tokText t).length + p ≤ s.length + 1
    omega
  | t :: u :: ts, p, hc, hp => by
    obtain ⟨c1, c2, c3, c4⟩ := hc
    have h1 := (tok_le c1 c2).2
    rw [← c3] at h1
    have hb := blankN_le (s := s) (i := p + (tokText t).length) h1
    have h2 := jn_bd (u :: ts) _ c4 hb.2
    show (tokText t ++ 32 :: jn ((u :: ts).map tokText)).length + p ≤ s.length + (ts.length + 1 + 1)
    rw [List.length_append, List.length_cons]
    simp only [List.length_cons] at h2
    omega
theorem chain_pos {s : List UInt8} : ∀ (toks : List (List AV)) (p : Nat), Chain s p toks → ∀ t ∈ toks, 0 < (tokText t).length
  | t :: ts, p, hc, u, hu => by
    rcases List.mem_cons.1 hu with rfl | hu
    · exact (chain_head hc).1
    · exact chain_pos ts _ hc.2.2.2 u hu
theorem back_run (s : List UInt8) : ∃ h', CallSem Tryd.prog 7 [.str s] [] (.bool true) h' := by
  have hS := scanF_shaped s
  obtain ⟨u, h', rfl, hsem⟩ := sem_vc mixed (C := C7 (scanF s).1 (scanF (jn ((scanF s).1.map tokText))).1) (tbS7_ok _) (tbSF_q _ _ _) (tbW7_ok _) ht7 c7 (one_part rfl (part_loop (id := 13) rfl rfl fun st K hT => by
    obtain ⟨s1, s2, n, hp, rfl, hP, hk⟩ := hT
    rcases hP with ⟨-, rfl, rfl, rfl, rfl⟩ | ⟨⟨hA, hn⟩, rfl, rfl, rfl, rfl⟩
    · refine W_mono (loop7z _) fun e st he => ?_
      obtain ⟨rfl, rfl⟩ := he
      exact hk
    · refine W_mono (loop7 _ _ hS (scanF_shaped _) hA hn) fun e st he => ?_
      obtain ⟨rfl, rfl⟩ := he
      exact hk)) (v7 s (scanF s).1 (scanF (jn ((scanF s).1.map tokText))).1 fun u _ => u = .bool true) (by
    refine askI (fun a => ⟨true, live_at [], askT rfl rfl⟩) fun a => askI (fun e => askT e ⟨true, live_at [], askT rfl rfl⟩) fun e => ?_
    simp only [decide_eq_false_iff_not] at a
    have he := scan_err e
    obtain ⟨hc, hl⟩ := scanF_chain he
    have hb := blankN_le (s := s) (i := 0) (Nat.zero_le _)
    have hp := chain_pos _ _ hc
    have hbd := jn_bd _ _ hc hb.2
    obtain ⟨hA, hE⟩ := scanF_again hc
    have hU := scanF_shaped (jn ((scanF s).1.map tokText))
    have hlen := again_len _ _ hA
    have hE' : ((scanF (jn ((scanF s).1.map tokText))).2.2 != 0) = false := by rw [hE]; rfl
    generalize (scanF s).1 = toks at hS hc hl hp hbd hA hE' hU hlen ⊢
    refine askI (fun m => ?_) fun m => ?_
    · obtain rfl : toks = [] := List.isEmpty_iff.1 m
      exact ⟨true, live_at [], askT rfl ⟨[], jw_nil [], [], jw_nil [], askF rfl (askF rfl (askF rfl (askF rfl (askT rfl ⟨_, _, _, _, rfl, .inl ⟨rfl, rfl, rfl, rfl, rfl⟩, rfl⟩))))⟩⟩
    · have hne : toks ≠ [] := fun h => by rw [h] at m; cases m
      have hJ := jw_at hS hp hne (by omega) (by omega)
      refine ⟨true, live_at [.row 41 13 toks.flatten], askT rfl ⟨_, hJ, _, hJ, askF (by simp) (askI (fun _ => rfl) fun g => ?_)⟩⟩
      simp only [decide_eq_false_iff_not] at g
      have hU' : (scanF (jn (toks.map tokText))).1.isEmpty = false := by
        cases h : (scanF (jn (toks.map tokText))).1 with
        | nil =>
          rw [h] at hlen
          exact absurd (List.length_eq_zero_iff.1 hlen) hne
        | cons _ _ => rfl
      exact askF (decide_eq_false (by omega)) (askF hE' (askF hU' (askF (by rw [← hlen]; simp) (chkI (fl_closed hS) (chkI (fl_closed hU) ⟨_, _, _, _, rfl, .inr ⟨⟨hA, by omega⟩, rfl, rfl, rfl, rfl⟩, rfl⟩)))))
    )
  exact ⟨h', hsem⟩

end Go.Proofs.YtahdfjmdoljgiaaDoor
