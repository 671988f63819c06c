/- Written by merging: Lsa Lsb Lsd Lta Ltd Luc Lud Wa. -/
import Derived.Test.YtahdfjmdoljgiaaDoorMd
import Derived.Test.YtahdfjmdoljgiaaDoorMa
namespace Go.Proofs.YtahdfjmdoljgiaaDoor
open Go Go.Am
set_option maxRecDepth 100000
set_option linter.unusedVariables false
set_option linter.unusedSimpArgs false

def nzD : List UInt8 → Bool
  | [] => false
  | c :: l => if isD c then c != 48 || nzD l else false
def wRf (s : List UInt8) (fr : Nat) : Bool :=
  if runD (s.drop fr) == 0 || (s.getD fr 0 == 48 && decide (1 < runD (s.drop fr))) then false
  else if decide (fr + runD (s.drop fr) < s.length) then
    (if s.getD (fr + runD (s.drop fr)) 0 != 46 || fr + runD (s.drop fr) + 1 == s.length then false
     else if fr + runD (s.drop fr) + 1 + runD (s.drop (fr + runD (s.drop fr) + 1)) == s.length then (nzD (s.drop fr) || nzD (s.drop (fr + runD (s.drop fr) + 1))) || s.getD 0 0 != 45 else false)
  else nzD (s.drop fr) || s.getD 0 0 != 45
def wR (s : List UInt8) : Bool := wRf s (if decide (0 < s.length) && s.getD 0 0 == 45 then 1 else 0)
def tb41 : List TbE := [⟨40, fun vs _ => sLet vs, .of (.one .bool)⟩, ⟨42, fun vs _ => sIsD vs, .of (.one .bool)⟩]
def q22 (s : List UInt8) (i : Int) : St := (envOf 35 [(0, .str s), (3, .int .i64 i)], [])
def t22 : Tidy := ⟨dropT 35 [0, 3], .all⟩
def x22 : Tidy := ⟨dropT 35 [], .all⟩
def C22l : Cfg := tbC Q tb41 (fun _ => false) kdI
def C22 (s : List UInt8) : Cfg := { C22l with
  lw := fun id => if id = 4 then some fun st K => st = q22 s 0 ∧ askB (runF s == s.length) (K (.exit 0) (envOf 35 [], [])) (K .ret (envOf 35 [(2, .bool false)], [])) else none
  F := fun id => if id = 4 then t22 else ⟨[], .all⟩ }
-- Symbol
def symL : List (List UInt8) := [[123], [125], [40], [41], [44], [59], [58], [46], [61], [33, 61], [60], [60, 61], [62], [62, 61], [43], [45], [42]]
def symR (s : List UInt8) : Bool := symL.any (· == s)
def sy17 : AObj := .row 9 1 [.str [123], .str [125], .str [40], .str [41], .str [44], .str [59], .str [58], .str [46], .str [61], .str [33, 61], .str [60], .str [60, 61], .str [62], .str [62, 61], .str [43], .str [45], .str [42]]
def q24 (s : List UInt8) (i : Int) : St := (envOf 18 [(0, .str s), (3, .sl (some (0, 0)) 17 (.rel 0)), (4, .int .i64 i)], [sy17])
def t24 : Tidy := ⟨dropT 18 [0, 3, 4], .all⟩
def C24l : Cfg := tbC Q [] (fun _ => false) kdI
def C24 (s : List UInt8) : Cfg := { C24l with
  lw := fun id => if id = 3 then some fun st K => st = q24 s 0 ∧ askB (symR s) (K .ret (envOf 18 [(2, .bool true)], [])) (K (.exit 0) (envOf 18 [], [])) else none
  F := fun id => if id = 3 then t24 else ⟨[], .all⟩ }
-- closes
def q20 (s : List UInt8) (i : Int) : St := (envOf 70 [(0, .str s), (1, .int .i64 i)], [])
def t20 : Tidy := ⟨dropT 70 [0, 1], .all⟩
def x20 : Tidy := ⟨dropT 70 [1], .all⟩
def C20i : Cfg := tbC Q [] (fun _ => false) kdI
def C20 (s : List UInt8) : Cfg := { C20i with
  lw := fun id => if id = 3 then some fun st K => ∃ i : Nat, st = q20 s i ∧ i ≤ s.length ∧ ∀ e : Bool, askB e (K (.exit 0) (envOf 70 [(1, .int .i64 ((i + blk (s.drop i) false : Nat) : Int))], [])) (K .ret (envOf 70 [(4, .int .i64 ((i + blk (s.drop i) false : Nat) : Int))], [])) else none
  F := fun id => if id = 3 then t20 else ⟨[], .all⟩ }
-- whole
theorem v22 (s : List UInt8) (R : AV → AHeap → Prop) : (askB (s == []) (R (AV.bool false) []) (askB (decide ((↑(List.length s) : Int) > 32)) (R (AV.bool false) []) (chkW (decide (0 < List.length s)) (∃ (b : Bool), sLet [AV.int .u8 (↑(UInt8.toNat (List.getD s 0 0)) : Int)] = some (AV.bool b) ∧ askB b ((envOf 35 [(0, AV.str s), (3, AV.int .i64 0)], ([] : AHeap)) = (envOf 35 [(0, AV.str s), (3, AV.int .i64 0)], []) ∧ askB (runF s == List.length s) (R (AV.bool true) []) (R (AV.bool false) [])) (R (AV.bool false) []))))) = (wpF Tryd.prog (C22 s) 40 p22 [.str s] [] R) := by kernel_rfl
theorem v24 (s : List UInt8) (R : AV → AHeap → Prop) : ((envOf 18 [(0, AV.str s), (3, AV.sl (some (0, 0)) 17 (ACap.rel 0)), (4, AV.int .i64 0)], [AObj.row 9 1 [AV.str [123], AV.str [125], AV.str [40], AV.str [41], AV.str [44], AV.str [59], AV.str [58], AV.str [46], AV.str [61], AV.str [33, 61], AV.str [60], AV.str [60, 61], AV.str [62], AV.str [62, 61], AV.str [43], AV.str [45], AV.str [42]]]) = (envOf 18 [(0, AV.str s), (3, AV.sl (some (0, 0)) 17 (ACap.rel 0)), (4, AV.int .i64 0)], [AObj.row 9 1 [AV.str [123], AV.str [125], AV.str [40], AV.str [41], AV.str [44], AV.str [59], AV.str [58], AV.str [46], AV.str [61], AV.str [33, 61], AV.str [60], AV.str [60, 61], AV.str [62], AV.str [62, 61], AV.str [43], AV.str [45], AV.str [42]]]) ∧ askB (symR s) (R (AV.bool true) []) (R (AV.bool false) [])) = (wpF Tryd.prog (C24 s) 40 p24 [.str s] [] R) := by kernel_rfl
theorem v20 (s : List UInt8) (i : Int) (R : AV → AHeap → Prop) : (askB (decide (i < 0)) (R (AV.int .i64 i) []) (askB (decide (i > (↑(List.length s) : Int))) (R (AV.int .i64 i) []) (∃ (i_1 : Nat), (envOf 70 [(0, AV.str s), (1, AV.int .i64 i)], ([] : AHeap)) = (envOf 70 [(0, AV.str s), (1, AV.int .i64 (↑i_1 : Int))], []) ∧ i_1 ≤ List.length s ∧ ∀ (e : Bool), askB e (R (AV.int .i64 (↑(i_1 + blk (List.drop i_1 s) false) : Int)) []) (R (AV.int .i64 (↑(i_1 + blk (List.drop i_1 s) false) : Int)) [])))) = (wpF Tryd.prog (C20 s) 40 p20 [.str s, .int .i64 i] [] R) := by kernel_rfl
theorem rd_yes {s : List UInt8} {i : Nat} (h : i < s.length) (hd : isD (s.getD i 0) = true) : runD (s.drop i) = runD (s.drop (i + 1)) + 1 := by
  rw [drop_cons h]; exact if_pos hd
theorem nz_yes {s : List UInt8} {i : Nat} (h : i < s.length) (hd : isD (s.getD i 0) = true) : nzD (s.drop i) = (s.getD i 0 != 48 || nzD (s.drop (i + 1))) := by
  rw [drop_cons h]; exact if_pos hd
theorem nz_no {s : List UInt8} {i : Nat} (h : i < s.length) (hd : isD (s.getD i 0) = false) : nzD (s.drop i) = false := by
  rw [drop_cons h]; exact if_neg (by rw [hd]; decide)
def allR : List UInt8 → List UInt8 → List UInt8
  | [], acc => acc
  | c :: l, acc => if c == 46 then allR l acc else if isD c then (if decide (0 < acc.length) || c != 48 then allR l (acc ++ [c]) else allR l acc) else allR l acc
def behR : List UInt8 → Bool → Nat → Nat
  | [], _, b => b
  | c :: l, p, b => if c == 46 then behR l true b else if isD c then behR l p (if p then b + 1 else b) else behR l p b
theorem beh_full (neg : Bool) : ∀ (l : List UInt8) (j : Nat) (low : Bool) (g : Nat), g < j + l.length → (behindL neg l j low g = j + l.length ↔ (l ≠ [] ∧ runD l = l.length ∧ (low || nzD l || !neg) = true))
  | [], j, low, g, h => by
    simp only [behindL, List.length_nil, Nat.add_zero] at h ⊢
    constructor
    · omega
    · rintro ⟨h1, _⟩; exact absurd rfl h1
  | c :: l, j, low, g, h => by
    simp only [List.length_cons] at h ⊢
    rw [behindL, runD, nzD]
    cases hd : isD c with
    | false =>
      simp only [Bool.false_eq_true, if_false]
      constructor
      · omega
      · rintro ⟨_, h2, _⟩; omega
    | true =>
      simp only [if_true]
      cases l with
      | nil =>
        simp only [behindL, runD, nzD, List.length_nil, Nat.zero_add, Bool.or_false]
        cases hq : (low || c != 48 || !neg) with
        | true => simp
        | false =>
          simp only [Bool.false_eq_true, if_false, List.length_nil, Nat.zero_add] at h ⊢
          constructor
          · omega
          · rintro ⟨_, _, h3⟩; exact absurd h3 (by decide)
      | cons d l =>
        have ih := beh_full neg (d :: l) (j + 1) (low || c != 48) (if (low || c != 48) || !neg then j + 1 else g) (by simp only [List.length_cons] at h ⊢; split <;> omega)
        have e1 : j + ((d :: l).length + 1) = j + 1 + (d :: l).length := by omega
        rw [e1, ih]
        constructor
        · rintro ⟨_, h2, h3⟩
          exact ⟨List.cons_ne_nil _ _, by omega, by rw [← h3]; simp only [Bool.or_assoc]⟩
        · rintro ⟨_, h2, h3⟩
          exact ⟨List.cons_ne_nil _ _, by omega, by rw [← h3]; simp only [Bool.or_assoc]⟩
def wX (s : List UInt8) (i : Nat) (low : Bool) : Bool :=
  if decide (i < s.length) then (if s.getD i 0 != 46 || i + 1 == s.length then false else if i + 1 + runD (s.drop (i + 1)) == s.length then (low || nzD (s.drop (i + 1))) || s.getD 0 0 != 45 else false) else low || s.getD 0 0 != 45
theorem whole_full {s : List UInt8} {i : Nat} {low neg : Bool} (h0 : 0 < i) (hi : i ≤ s.length) (hn : (s.getD 0 0 != 45) = !neg) : (wholeP neg s i low = s.length) ↔ wX s i low = true := by
  unfold wX wholeP
  rw [hn]
  rcases Nat.lt_or_ge i s.length with h | h
  · rw [decide_eq_true h, if_pos rfl, Bool.true_and]
    cases h46 : (s.getD i 0 == 46) with
    | false =>
      rw [bne, h46]
      simp only [Bool.false_eq_true, if_false, Bool.not_false, Bool.true_or, if_true]
      constructor
      · split <;> omega
      · exact False.elim
    | true =>
      rw [bne, h46]
      simp only [if_true, Bool.not_true, Bool.false_or]
      have hb := beh_full neg (s.drop (i + 1)) (i + 1) low (if low || !neg then i else 0) (by rw [List.length_drop]; split <;> omega)
      rw [List.length_drop, show i + 1 + (s.length - (i + 1)) = s.length by omega] at hb
      rw [hb]
      cases hl : (i + 1 == s.length) with
      | true =>
        rw [beq_iff_eq] at hl
        simp only [if_true]
        constructor
        · rintro ⟨h1, _⟩; exact absurd (List.drop_eq_nil_of_le (by omega)) h1
        · intro h; cases h
      | false =>
        rw [beq_eq_false_iff_ne] at hl
        simp only [Bool.false_eq_true, if_false]
        cases hr : (i + 1 + runD (s.drop (i + 1)) == s.length) with
        | true =>
          rw [beq_iff_eq] at hr
          simp only [if_true]
          constructor
          · rintro ⟨_, _, h3⟩; exact h3
          · intro h3
            refine ⟨fun e => ?_, by omega, h3⟩
            have := congrArg List.length e
            rw [List.length_drop] at this
            simp at this
            omega
        | false =>
          rw [beq_eq_false_iff_ne] at hr
          simp only [Bool.false_eq_true, if_false]
          constructor
          · rintro ⟨_, h2, _⟩; omega
          · exact False.elim
  · have he : i = s.length := by omega
    rw [decide_eq_false (by omega)]
    simp only [Bool.false_and, Bool.false_eq_true, if_false]
    cases (low || !neg) <;> simp <;> omega
theorem nz_first {s : List UInt8} {i : Nat} (h : i < s.length) (hd : isD (s.getD i 0) = true) (h48 : (s.getD i 0 == 48) = false) : nzD (s.drop i) = true := by
  rw [nz_yes h hd, bne, h48]; rfl
theorem wR_len {s : List UInt8} (hl : 0 < s.length) : wR s = true ↔ prefixF s = s.length := by
  have gen : ∀ (fr : Nat) (neg : Bool), fr ≤ 1 → fr ≤ s.length → (s.getD 0 0 != 45) = !neg → (wRf s fr = true ↔ (if dgA s fr then (if s.getD fr 0 == 48 then wholeP neg s (fr + 1) false else wholeP neg s (fr + runD (s.drop fr)) true) else 0) = s.length) := by
    intro fr neg hf hfl hn
    have hX : wRf s fr = if runD (s.drop fr) == 0 || (s.getD fr 0 == 48 && decide (1 < runD (s.drop fr))) then false else wX s (fr + runD (s.drop fr)) (nzD (s.drop fr)) := by
      unfold wRf wX
      split
      · rfl
      · rfl
    rw [hX]
    cases hd : dgA s fr with
    | false =>
      rw [runD_no hd]
      simp
      omega
    | true =>
      have hlt := dgA_lt hd
      have hdi : isD (s.getD fr 0) = true := by rw [← dgA_eq hlt]; exact hd
      have hr := runD_at hd
      have hk : (runD (s.drop fr) == 0) = false := by rw [beq_eq_false_iff_ne]; omega
      have hrl := runD_le (s.drop fr)
      rw [List.length_drop] at hrl
      rw [hk, Bool.false_or]
      simp only [if_true]
      cases h48 : (s.getD fr 0 == 48) with
      | false =>
        simp only [Bool.false_and, Bool.false_eq_true, if_false]
        rw [whole_full (by omega) (by omega) hn, nz_first hlt hdi h48]
      | true =>
        simp only [Bool.true_and, if_true]
        rcases Nat.lt_or_ge 1 (runD (s.drop fr)) with h1 | h1
        · rw [decide_eq_true h1]
          simp only [if_true]
          have hd1 : dgA s (fr + 1) = true := by
            cases h : dgA s (fr + 1) with
            | true => rfl
            | false => rw [runD_no h] at hr; omega
          have hl1 := dgA_lt hd1
          rw [dgA_eq hl1] at hd1
          have h46 : (s.getD (fr + 1) 0 == 46) = false := by
            rw [beq_eq_false_iff_ne]; intro e; rw [e] at hd1; cases hd1
          constructor
          · intro h; cases h
          · rw [wholeP_no (by rw [h46, Bool.and_false])]
            intro h; split at h <;> omega
        · rw [decide_eq_false (by omega)]
          simp only [Bool.false_eq_true, if_false]
          have hk1 : runD (s.drop fr) = 1 := by omega
          have hnz : nzD (s.drop fr) = false := by
            rw [nz_yes hlt hdi]
            have : nzD (s.drop (fr + 1)) = false := by
              rcases Nat.lt_or_ge (fr + 1) s.length with h | h
              · exact nz_no h (by
                  cases hc : isD (s.getD (fr + 1) 0) with
                  | false => rfl
                  | true => rw [rd_yes h hc] at hr; omega)
              · rw [List.drop_eq_nil_of_le h]; rfl
            rw [this, Bool.or_false, bne, h48]; rfl
          rw [hk1, hnz, whole_full (by omega) (by omega) hn]
  unfold wR
  cases hn : (decide (0 < s.length) && s.getD 0 0 == 45) with
  | true =>
    rw [pfx_neg hn]
    rw [decide_eq_true hl, Bool.true_and] at hn
    exact gen 1 true (by omega) (by omega) (by rw [bne, hn])
  | false =>
    rw [pfx_pos hn]
    rw [decide_eq_true hl, Bool.true_and] at hn
    exact gen 0 false (by omega) (by omega) (by rw [bne, hn])
theorem wR_nil : wR [] = false := by decide
theorem cond_eq (s : List UInt8) : ((s == []) || ((prefixF s : Int) != (s.length : Int))) = !wR s := by
  rcases Nat.lt_or_ge 0 s.length with h | h
  · have he : (s == []) = false := by
      cases s with
      | nil => cases h
      | cons _ _ => rfl
    rw [he, Bool.false_or]
    cases hw : wR s with
    | true =>
      have := (wR_len h).1 hw
      rw [this]; simp
    | false =>
      rw [Bool.not_false, bne_iff_ne]
      intro e
      have : prefixF s = s.length := by omega
      rw [(wR_len h).2 this] at hw
      cases hw
  · have : s = [] := List.eq_nil_of_length_eq_zero (by omega)
    subst this
    rw [wR_nil]; rfl
theorem all_run {l : List UInt8} (h : runD l = l.length) : ∀ c ∈ l, isD c = true := by
  induction l with
  | nil => intro c hc; cases hc
  | cons d l ih =>
    rw [runD] at h
    cases hd : isD d with
    | false => rw [hd] at h; simp at h
    | true =>
      rw [hd] at h
      simp only [if_true, List.length_cons] at h
      intro c hc
      rcases List.mem_cons.1 hc with rfl | hc
      · exact hd
      · exact ih (by omega) c hc
theorem take_run : ∀ l : List UInt8, ∀ c ∈ l.take (runD l), isD c = true
  | [], c, hc => by cases hc
  | d :: l, c, hc => by
    rw [runD] at hc
    cases hd : isD d with
    | false => rw [hd] at hc; cases hc
    | true =>
      rw [hd] at hc
      simp only [if_true, List.take_succ_cons] at hc
      rcases List.mem_cons.1 hc with rfl | hc
      · exact hd
      · exact take_run l c hc
theorem isD_46 {c : UInt8} (h : isD c = true) : (c == 46) = false := by
  rw [beq_eq_false_iff_ne]; rintro rfl; cases h
theorem al1 : ∀ (l acc r : List UInt8), (∀ c ∈ l, isD c = true) → 0 < acc.length → allR (l ++ r) acc = allR r (acc ++ l)
  | [], acc, r, _, _ => by rw [List.nil_append, List.append_nil]
  | c :: l, acc, r, h, ha => by
    have hc := h c (List.mem_cons_self ..)
    rw [List.cons_append, allR, if_neg (by rw [isD_46 hc]; decide), if_pos hc, if_pos (by rw [decide_eq_true ha]; rfl), al1 l (acc ++ [c]) r (fun d hd => h d (List.mem_cons_of_mem _ hd)) (by simp), List.append_assoc]
    rfl
def dw (l : List UInt8) : List UInt8 := l.dropWhile (· == 48)
theorem dw_cons (c : UInt8) (l : List UInt8) : dw (c :: l) = if c == 48 then dw l else c :: l := by
  unfold dw; rw [List.dropWhile_cons]
theorem al2 : ∀ (l r : List UInt8), (∀ c ∈ l, isD c = true) → allR (l ++ r) [] = allR r (dw l)
  | [], r, _ => rfl
  | c :: l, r, h => by
    have hc := h c (List.mem_cons_self ..)
    have hl : ∀ d ∈ l, isD d = true := fun d hd => h d (List.mem_cons_of_mem _ hd)
    rw [List.cons_append, allR, if_neg (by rw [isD_46 hc]; decide), if_pos hc, dw_cons]
    cases h48 : (c == 48) with
    | true =>
      rw [if_neg (by rw [bne, h48]; decide), if_pos rfl]
      exact al2 l r hl
    | false =>
      rw [if_pos (by rw [bne, h48]; rfl), if_neg (by decide), List.nil_append, al1 l [c] r hl (by simp)]
      rfl
theorem dw_app (a b : List UInt8) : dw (a ++ b) = if (dw a).isEmpty then dw b else dw a ++ b := by
  unfold dw; rw [List.dropWhile_append]
theorem al3 (w d : List UInt8) (hw : ∀ c ∈ w, isD c = true) (hd : ∀ c ∈ d, isD c = true) : allR (w ++ 46 :: d) [] = dw (w ++ d) := by
  rw [al2 w _ hw, dw_app]
  have e : allR (46 :: d) (dw w) = allR d (dw w) := by rw [allR]; rfl
  rw [e]
  have e2 : d = d ++ [] := (List.append_nil d).symm
  split
  · rename_i h
    rw [List.isEmpty_iff.1 h]
    conv => lhs; rw [e2]
    rw [al2 d [] hd]; rfl
  · rename_i h
    conv => lhs; rw [e2]
    rw [al1 d _ [] hd (by
      cases hh : dw w with
      | nil => rw [hh] at h; exact absurd rfl h
      | cons _ _ => simp)]
    rfl
theorem be1 : ∀ (l r : List UInt8) (b : Nat), (∀ c ∈ l, isD c = true) → behR (l ++ r) false b = behR r false b
  | [], _, _, _ => rfl
  | c :: l, r, b, h => by
    have hc := h c (List.mem_cons_self ..)
    rw [List.cons_append, behR, if_neg (by rw [isD_46 hc]; decide), if_pos hc]
    exact be1 l r b fun d hd => h d (List.mem_cons_of_mem _ hd)
theorem be2 : ∀ (l : List UInt8) (b : Nat), (∀ c ∈ l, isD c = true) → behR l true b = b + l.length
  | [], _, _ => rfl
  | c :: l, b, h => by
    have hc := h c (List.mem_cons_self ..)
    rw [behR, if_neg (by rw [isD_46 hc]; decide), if_pos hc, if_pos rfl, be2 l (b + 1) fun d hd => h d (List.mem_cons_of_mem _ hd)]
    simp only [List.length_cons]; omega
theorem ix_no : ∀ (l : List UInt8), (∀ c ∈ l, isD c = true) → Lib.indexByte l 46 = -1
  | [], _ => rfl
  | c :: l, h => by
    have hc := h c (List.mem_cons_self ..)
    rw [Lib.indexByte, if_neg (by rw [isD_46 hc]; decide), ix_no l fun d hd => h d (List.mem_cons_of_mem _ hd)]
    rfl
theorem ix_at : ∀ (l d : List UInt8), (∀ c ∈ l, isD c = true) → Lib.indexByte (l ++ 46 :: d) 46 = (l.length : Int)
  | [], d, _ => by rw [List.nil_append, Lib.indexByte]; rfl
  | c :: l, d, h => by
    have hc := h c (List.mem_cons_self ..)
    rw [List.cons_append, Lib.indexByte, if_neg (by rw [isD_46 hc]; decide), ix_at l d fun d hd => h d (List.mem_cons_of_mem _ hd), if_neg (by rw [beq_iff_eq]; omega), List.length_cons]
    omega
def parse44 (s : List UInt8) : Bool × Int × Int × Int :=
  if wR s = false then (false, 0, 0, 30) else if behR s false 0 > 18 then (false, 0, 0, 31)
  else if (allR s []).isEmpty then (s.getD 0 0 == 45, 0, (behR s false 0 : Nat), 0)
  else if ((parseN (allR s [])).2 != 0) = true then (false, 0, 0, (parseN (allR s [])).2) else (s.getD 0 0 == 45, (parseN (allR s [])).1, (behR s false 0 : Nat), 0)
/-- A whole text: its digits. -/
theorem split_whole {t : List UInt8} (h1 : 0 < runD t) (h : runD t = t.length ∨ (runD t < t.length ∧ t.getD (runD t) 0 = 46 ∧ runD (t.drop (runD t + 1)) = (t.drop (runD t + 1)).length)) :
    allR t [] = dw ((cut1 t 46).1 ++ (cut1 t 46).2.1) ∧ behR t false 0 = (cut1 t 46).2.1.length := by
  rcases h with h | ⟨ha, hb, hc⟩
  · have hall := all_run h
    have hcut : cut1 t 46 = (t, [], false) := by
      unfold cut1; rw [ix_no t hall]; rfl
    rw [hcut]
    refine ⟨?_, ?_⟩
    · have := al2 t [] hall
      rw [List.append_nil] at this
      rw [this, List.append_nil]; rfl
    · have := be1 t [] 0 hall
      rw [List.append_nil] at this
      rw [this]; rfl
  · have hw := take_run t
    have hd := all_run hc
    have ht : t = t.take (runD t) ++ 46 :: t.drop (runD t + 1) := by
      have e := List.take_append_drop (runD t) t
      rw [drop_cons ha, hb] at e
      exact e.symm
    generalize t.take (runD t) = w at hw ht
    generalize t.drop (runD t + 1) = d at hd ht
    subst ht
    have hcut : cut1 (w ++ 46 :: d) 46 = (w, d, true) := by
      unfold cut1
      rw [ix_at w d hw, if_pos (by omega), Int.toNat_natCast]
      rw [List.take_left' rfl, show w.length + 1 = (w ++ [46]).length by simp, show w ++ 46 :: d = (w ++ [46]) ++ d by simp, List.drop_left' rfl]
    rw [hcut]
    refine ⟨al3 w d hw hd, ?_⟩
    have e : behR (46 :: d) false 0 = behR d true 0 := by rw [behR]; rfl
    rw [be1 w _ 0 hw, e, be2 d 0 hd]; simp
theorem pWD (neg : Bool) (w d : List UInt8) : parseWD neg w d = if d.length > 18 then (false, 0, 0, 31)
    else if (dw (w ++ d)).isEmpty then (neg, 0, (d.length : Int), 0)
    else if ((parseN (dw (w ++ d))).2 != 0) = true then (false, 0, 0, (parseN (dw (w ++ d))).2) else (neg, (parseN (dw (w ++ d))).1, (d.length : Int), 0) := by
  unfold parseWD
  split
  · rfl
  · have h48 : parseN [48] = (0, 0) := by decide +kernel
    have hX : digX w d = if (dw (w ++ d)).isEmpty then [48] else dw (w ++ d) := by
      unfold digX dw Lib.trimLeftB
      cases h : List.dropWhile (fun x => x == 48) (w ++ d) with
      | nil => rfl
      | cons _ _ => rfl
    rw [hX]
    cases h : (dw (w ++ d)).isEmpty with
    | true =>
      simp only [if_true, h48]
      rfl
    | false =>
      simp only [Bool.false_eq_true, if_false]
theorem parse_same (s : List UInt8) : parse44 s = parseD s := by
  unfold parse44 parseD
  rw [cond_eq]
  cases hw : wR s with
  | false => rfl
  | true =>
    rw [if_neg (show ¬ (true = false) by decide), if_neg (show ¬ ((!true) = true) by decide), pWD]
    have hl : 0 < s.length := by
      cases s with
      | nil => rw [wR_nil] at hw; cases hw
      | cons _ _ => simp
    have key : ∀ fr : Nat, wRf s fr = true → fr ≤ s.length → 0 < runD (s.drop fr) ∧ (runD (s.drop fr) = (s.drop fr).length ∨ (runD (s.drop fr) < (s.drop fr).length ∧ (s.drop fr).getD (runD (s.drop fr)) 0 = 46 ∧ runD ((s.drop fr).drop (runD (s.drop fr) + 1)) = ((s.drop fr).drop (runD (s.drop fr) + 1)).length)) := by
      intro fr hf hfl
      unfold wRf at hf
      have hrl := runD_le (s.drop fr)
      rw [List.length_drop] at hrl
      split at hf
      · cases hf
      · rename_i h0
        have h0' : (runD (s.drop fr) == 0) = false := by
          cases h : (runD (s.drop fr) == 0) with
          | false => rfl
          | true => rw [h] at h0; exact absurd rfl h0
        rw [beq_eq_false_iff_ne] at h0'
        refine ⟨by omega, ?_⟩
        rw [List.length_drop]
        split at hf
        · rename_i h1
          simp only [decide_eq_true_eq] at h1
          split at hf
          · cases hf
          · rename_i h2
            split at hf
            · rename_i h3
              rw [beq_iff_eq] at h3
              refine .inr ⟨by omega, ?_, ?_⟩
              · rw [List.getD_eq_getElem?_getD, List.getElem?_drop, ← List.getD_eq_getElem?_getD]
                cases h : (s.getD (fr + runD (s.drop fr)) 0 != 46) with
                | true => rw [h] at h2; exact absurd rfl h2
                | false => rw [bne, Bool.not_eq_false'] at h; exact beq_iff_eq.1 h
              · rw [List.drop_drop, List.length_drop, show fr + (runD (s.drop fr) + 1) = fr + runD (s.drop fr) + 1 by omega]
                omega
            · cases hf
        · rename_i h1
          simp only [decide_eq_true_eq] at h1
          exact .inl (by omega)
    cases hn : (s.getD 0 0 == 45) with
    | true =>
      have hwf : wRf s 1 = true := by
        rw [← hw]; unfold wR; rw [hn, decide_eq_true hl]; rfl
      obtain ⟨k1, k2⟩ := key 1 hwf (by omega)
      obtain ⟨a, b⟩ := split_whole k1 k2
      have hs : s = 45 :: s.drop 1 := by
        rw [beq_iff_eq] at hn
        have := drop_cons hl
        rw [List.drop_zero, hn] at this
        exact this
      have e1 : allR s [] = allR (s.drop 1) [] := by
        conv => lhs; rw [hs]
        rw [allR]; rfl
      have e2 : behR s false 0 = behR (s.drop 1) false 0 := by
        conv => lhs; rw [hs]
        rw [behR]; rfl
      have hp : Lib.hasPrefix s [45] = true := by
        rw [hs]; simp [Lib.hasPrefix, List.isPrefixOf]
      have ht : Lib.trimPrefix s [45] = s.drop 1 := by
        unfold Lib.trimPrefix; rw [if_pos hp]; rfl
      rw [e1, e2, hp, ht, a, b]
    | false =>
      have hwf : wRf s 0 = true := by
        rw [← hw]; unfold wR; rw [hn, Bool.and_false]; rfl
      obtain ⟨k1, k2⟩ := key 0 hwf (by omega)
      rw [List.drop_zero] at k1 k2
      obtain ⟨a, b⟩ := split_whole k1 k2
      have hp : Lib.hasPrefix s [45] = false := by
        have := drop_cons hl
        rw [List.drop_zero] at this
        rw [this]
        unfold Lib.hasPrefix
        rw [List.isPrefixOf]
        rw [beq_eq_false_iff_ne] at hn
        rw [show ((45 : UInt8) == s.getD 0 0) = false by rw [beq_eq_false_iff_ne]; exact fun e => hn e.symm]
        rfl
      have ht : Lib.trimPrefix s [45] = s := by
        unfold Lib.trimPrefix; rw [if_neg (by rw [hp]; decide)]
      rw [hp, ht, a, b]
theorem qd_shift : ∀ (l : List UInt8) (k a : Nat), qd l (k + a) = if qd l k = 0 then 0 else qd l k + a
  | [], _, _ => rfl
  | [c], k, a => by
    simp only [qd]
    split
    · rw [if_neg (by omega)]; omega
    · rfl
  | c :: x :: l, k, a => by
    have h1 := qd_shift l (k + 2) a
    have h2 := qd_shift (x :: l) (k + 1) a
    rw [show k + 2 + a = k + a + 2 by omega] at h1
    rw [show k + 1 + a = k + a + 1 by omega] at h2
    rw [qd, qd]
    split
    · rw [if_neg (by omega)]; omega
    · split
      · exact h1
      · exact h2
theorem quo_nil : quoOK [] = false := by decide +kernel
theorem sym1 (c : UInt8) : symR [c] = decide (0 ≤ Lib.indexByte onesL c) := by
  have h : ∀ n : Fin 256, symR [n.1.toUInt8] = decide (0 ≤ Lib.indexByte onesL n.1.toUInt8) := by decide +kernel
  have := h ⟨c.toNat, c.toNat_lt⟩
  rwa [tou] at this
theorem sym2 (c d : UInt8) : symR [c, d] = ((33 == c || 60 == c || 62 == c) && 61 == d) := by
  unfold symR symL
  simp only [List.any_cons, List.any_nil]
  have hl : ∀ x y : UInt8, (([x] : List UInt8) == [y, d]) = false := fun x y => by
    show (x == y && false) = false
    rw [Bool.and_false]
  have hp : ∀ x : UInt8, (([x, 61] : List UInt8) == [c, d]) = (x == c && 61 == d) := fun x => by
    show (x == c && (61 == d && true)) = _
    rw [Bool.and_true]
  simp only [hl, hp, Bool.false_or, Bool.or_false]
  cases (33 == c) <;> cases (60 == c) <;> cases (62 == c) <;> cases (61 == d) <;> rfl
theorem symF_two (t : List UInt8) (h0 : 0 < t.length) : symF t = if decide (1 < t.length) && symR (t.take 2) then t.take 2 else if symR (t.take 1) then t.take 1 else [] := by
  cases t with
  | nil => cases h0
  | cons c l =>
    have h1 : List.take 1 (c :: l) = [c] := rfl
    have hg : (c :: l).getD 0 0 = c := rfl
    have hn : (!((c :: l) == [])) = true := rfl
    unfold symF
    rw [hg, hn, Bool.true_and, h1, sym1]
    cases l with
    | nil =>
      have p : ∀ x : UInt8, Lib.hasPrefix [c] [x, 61] = false := fun x => by simp [Lib.hasPrefix, List.isPrefixOf]
      rw [p, p, p]
      rfl
    | cons d l =>
      have p : ∀ x : UInt8, Lib.hasPrefix (c :: d :: l) [x, 61] = (x == c && 61 == d) := fun x => by simp [Lib.hasPrefix, List.isPrefixOf]
      have h2 : List.take 2 (c :: d :: l) = [c, d] := rfl
      have hl : decide (1 < (c :: d :: l).length) = true := decide_eq_true (by simp)
      rw [p, p, p, h2, sym2, hl, Bool.true_and]
      cases h61 : ((61 : UInt8) == d) with
      | false => simp only [Bool.and_false, Bool.false_eq_true, if_false]
      | true =>
        have ed : d = 61 := (beq_iff_eq.1 h61).symm
        subst ed
        cases a : ((33 : UInt8) == c) with
        | true => rw [← beq_iff_eq.1 a]; try rfl
        | false =>
          cases b : ((60 : UInt8) == c) with
          | true => rw [← beq_iff_eq.1 b]; try rfl
          | false =>
            cases e : ((62 : UInt8) == c) with
            | true => rw [← beq_iff_eq.1 e]; try rfl
            | false => rfl
def ag13 : Rs1 := .agg [.int .i64, .str, .int .i64, .bool, .int .u64, .int .u64, .int .u64, .int .u64, .int .i64, .bool, .str, .int .i64, .int .i64]
def Shaped (l : List AV) : Prop := ∃ (n : Int) (s1 : List UInt8) (n1 : Int) (b : Bool) (n2 n3 n4 n5 n6 : Int) (b1 : Bool) (s2 : List UInt8) (n7 n8 : Int), l = [.int .i64 n, .str s1, .int .i64 n1, .bool b, .int .u64 n2, .int .u64 n3, .int .u64 n4, .int .u64 n5, .int .i64 n6, .bool b1, .str s2, .int .i64 n7, .int .i64 n8]
theorem z13_shaped : Shaped z13 := ⟨_, _, _, _, _, _, _, _, _, _, _, _, _, rfl⟩
theorem tokV_shaped (kind : Int) (text : List UInt8) (vk : Int) (neg : Bool) (n sc : Int) (vt : List UInt8) (at' : Int) : Shaped (tokV kind text vk neg n sc vt at') := ⟨_, _, _, _, _, _, _, _, _, _, _, _, _, rfl⟩
theorem nextAt_shaped (t : List UInt8) (z : Int) : Shaped (nextAt t z).1 := by
  unfold nextAt
  split
  · split
    · exact tokV_shaped ..
    · exact z13_shaped
  · split
    · split
      · exact tokV_shaped ..
      · exact z13_shaped
    · split
      · split
        · exact tokV_shaped ..
        · exact z13_shaped
      · split
        · exact z13_shaped
        · exact tokV_shaped ..
theorem next_shaped (s : List UInt8) (z : Int) : Shaped (nextF s z).1 := by
  unfold nextF
  split
  · exact z13_shaped
  · exact nextAt_shaped _ _
theorem live_at (h : AHeap) : sLive [] h = some (.bool true) := by unfold sLive; rw [if_pos rfl]
theorem pr_best (fr : Nat) (f0 : UInt8) : ∀ (l : List UInt8) (i : Nat) (sm pt : Bool) (best : Nat), best ≤ i → pfxR fr f0 l i sm pt best = best ∨ i < pfxR fr f0 l i sm pt best
  | [], _, _, _, _, _ => .inl rfl
  | c :: l, i, sm, pt, best, h => by
    rw [pfxR]
    split
    · rcases pr_best fr f0 l (i + 1) sm true best (by omega) with h1 | h1
      · exact .inl h1
      · exact .inr (by omega)
    · split
      · exact .inl rfl
      · rcases pr_best fr f0 l (i + 1) (sm || c != 48) pt (if (sm || c != 48) || fr == 0 then i + 1 else best) (by split <;> omega) with h1 | h1
        · split at h1
          · rename_i g
            right; rw [if_pos g, h1]; omega
          · rename_i g
            left; rw [if_neg g]; exact h1
        · right; omega
def negB (s : List UInt8) : Bool := decide (0 < s.length) && s.getD 0 0 == 45
def frB (s : List UInt8) : Nat := if negB s then 1 else 0
theorem prefix_R (s : List UInt8) : prefixF s = pfxR (frB s) (s.getD (frB s) 0) (s.drop (frB s)) (frB s) false false 0 := by
  unfold frB
  cases h : negB s with
  | true => exact (V43_one s h).symm
  | false => exact (V43_zero s h).symm
theorem parseN_err (t : List UInt8) : (parseN t).2 ≠ 30 := by
  unfold parseN
  split
  · decide
  · split
    · decide
    · split
      · split
        · show (0 : Int) ≠ 30; decide
        · show (7 : Int) ≠ 30; decide
      · decide
theorem err30 (t : List UInt8) : ((parseD t).2.2.2 != 30) = wR t := by
  rw [← parse_same]
  unfold parse44
  cases h : wR t with
  | false => rfl
  | true =>
    rw [if_neg (by decide)]
    split
    · rfl
    · split
      · rfl
      · split
        · exact bne_iff_ne.2 (parseN_err _)
        · rfl

end Go.Proofs.YtahdfjmdoljgiaaDoor
