/- Dectext: Rg; written by mk03.py. -/
import Derived.Test.YtddalcnajejibaaDoorRf
namespace Go.Proofs.YtddalcnajejibaaDoor
open Go Go.Am
set_option maxRecDepth 100000
set_option maxHeartbeats 1000000
set_option linter.unusedVariables false
set_option linter.unusedSimpArgs false
theorem pr_best (fr : Nat) (f0 : UInt8) : ∀ (l : List UInt8) (i : Nat) (sm pt : Bool) (best : Nat), best ≤ i → pfxR fr f0 l i sm pt best = best ∨ i < pfxR fr f0 l i sm pt best
  | [], _, _, _, _, _ => .inl rfl
  | c :: l, i, sm, pt, best, h => by
    rw [pfxR]
    split
    · rcases pr_best fr f0 l (i + 1) sm true best (by omega) with h1 | h1
      · exact .inl h1
      · exact .inr (by omega)
    · split
      · exact .inl rfl
      · rcases pr_best fr f0 l (i + 1) (sm || c != 48) pt (if (sm || c != 48) || fr == 0 then i + 1 else best) (by split <;> omega) with h1 | h1
        · split at h1
          · rename_i g
            right; rw [if_pos g, h1]; omega
          · rename_i g
            left; rw [if_neg g]; exact h1
        · right; omega
theorem pr_ge (fr : Nat) (f0 : UInt8) (l : List UInt8) (i : Nat) (sm pt : Bool) (best : Nat) (h : best ≤ i) : best ≤ pfxR fr f0 l i sm pt best := by
  rcases pr_best fr f0 l i sm pt best h with h1 | h1 <;> omega
theorem pr_mono (fr : Nat) (f0 : UInt8) : ∀ (l : List UInt8) (k i : Nat) (sm pt : Bool) (best : Nat), best ≤ i → pfxR fr f0 (l.take k) i sm pt best ≤ pfxR fr f0 l i sm pt best
  | [], k, i, sm, pt, best, h => by rw [List.take_nil]; exact Nat.le_refl _
  | c :: l, 0, i, sm, pt, best, h => by rw [List.take_zero]; exact pr_ge fr f0 _ i sm pt best h
  | c :: l, k + 1, i, sm, pt, best, h => by
    rw [List.take_succ_cons, pfxR, pfxR]
    split
    · exact pr_mono fr f0 l k (i + 1) sm true best (by omega)
    · split
      · exact Nat.le_refl _
      · exact pr_mono fr f0 l k (i + 1) (sm || c != 48) pt _ (by split <;> omega)
theorem pr_cut (fr : Nat) (f0 : UInt8) : ∀ (l : List UInt8) (i : Nat) (sm pt : Bool) (best n : Nat), best ≤ i → pfxR fr f0 l i sm pt best = n → i < n → pfxR fr f0 (l.take (n - i)) i sm pt best = n
  | [], i, sm, pt, best, n, h, e, hn => by
    have : best = n := e
    omega
  | c :: l, i, sm, pt, best, n, h, e, hn => by
    obtain ⟨k, hk⟩ : ∃ k, n - i = k + 1 := ⟨n - i - 1, by omega⟩
    rw [hk, List.take_succ_cons]
    rw [pfxR] at e ⊢
    by_cases g : (c == 46 && !pt && decide (fr < i)) = true
    · rw [if_pos g] at e ⊢
      have h2 := pr_best fr f0 l (i + 1) sm true best (by omega)
      rw [e] at h2
      have := pr_cut fr f0 l (i + 1) sm true best n (by omega) e (by omega)
      rwa [show n - (i + 1) = k by omega] at this
    · rw [if_neg g] at e ⊢
      by_cases g2 : (!isD c || (!pt && decide (fr < i) && f0 == 48)) = true
      · rw [if_pos g2] at e
        omega
      · rw [if_neg g2] at e ⊢
        have hb : (if (sm || c != 48) || fr == 0 then i + 1 else best) ≤ i + 1 := by split <;> omega
        have h2 := pr_best fr f0 l (i + 1) (sm || c != 48) pt _ hb
        rw [e] at h2
        rcases Nat.lt_or_ge (i + 1) n with q | q
        · have := pr_cut fr f0 l (i + 1) (sm || c != 48) pt _ n hb e q
          rwa [show n - (i + 1) = k by omega] at this
        · have h3 : k = 0 := by omega
          rw [h3, List.take_zero]
          rcases h2 with h2 | h2
          · exact h2.symm
          · omega
def negB (s : List UInt8) : Bool := decide (0 < s.length) && s.getD 0 0 == 45
def frB (s : List UInt8) : Nat := if negB s then 1 else 0
theorem prefix_R (s : List UInt8) : prefixF s = pfxR (frB s) (s.getD (frB s) 0) (s.drop (frB s)) (frB s) false false 0 := by
  unfold frB
  cases h : negB s with
  | true => exact (V43_one s h).symm
  | false => exact (V43_zero s h).symm
theorem neg_take {s : List UInt8} {i : Nat} (hi : 0 < i) : negB (s.take i) = negB s := by
  unfold negB
  obtain ⟨i, rfl⟩ : ∃ j, i = j + 1 := ⟨i - 1, by omega⟩
  cases s with
  | nil => rfl
  | cons c l => simp [List.take_succ_cons]
theorem prefix_mono {s : List UInt8} {i : Nat} (h : i ≤ s.length) : prefixF (s.take i) ≤ prefixF s := by
  rcases Nat.eq_zero_or_pos i with e | e
  · subst e
    rw [List.take_zero]
    have : prefixF [] = 0 := by decide
    omega
  · rw [prefix_R, prefix_R s]
    have hfr : frB (s.take i) = frB s := by unfold frB; rw [neg_take e]
    rw [hfr]
    rcases Nat.lt_or_ge (frB s) i with q | q
    · have hg : (s.take i).getD (frB s) 0 = s.getD (frB s) 0 := by
        rw [List.getD_eq_getElem?_getD, List.getD_eq_getElem?_getD, List.getElem?_take_of_lt q]
      rw [hg, List.drop_take]
      exact pr_mono _ _ _ _ _ _ _ _ (Nat.zero_le _)
    · have hn : (s.take i).drop (frB s) = [] := List.drop_eq_nil_of_le (by rw [List.length_take]; omega)
      rw [hn]
      exact Nat.zero_le _
theorem prefix_cut {s : List UInt8} (h : 0 < prefixF s) : prefixF (s.take (prefixF s)) = prefixF s := by
  have hR := prefix_R s
  have h1 := pr_best (frB s) (s.getD (frB s) 0) (s.drop (frB s)) (frB s) false false 0 (Nat.zero_le _)
  rw [← hR] at h1
  have hlt : frB s < prefixF s := by omega
  have hfr : frB (s.take (prefixF s)) = frB s := by unfold frB; rw [neg_take h]
  rw [prefix_R (s.take (prefixF s)), hfr]
  have hg : (s.take (prefixF s)).getD (frB s) 0 = s.getD (frB s) 0 := by
    rw [List.getD_eq_getElem?_getD, List.getD_eq_getElem?_getD, List.getElem?_take_of_lt hlt]
  rw [hg, List.drop_take]
  exact pr_cut _ _ _ _ _ _ _ _ (Nat.zero_le _) hR.symm hlt
theorem is_short {s : List UInt8} {i : Nat} (hi : i ≤ s.length) (h : wR (s.take i) = true) : i ≤ prefixF s := by
  have hl : (s.take i).length = i := by rw [List.length_take]; omega
  have h0 : 0 < (s.take i).length := by
    cases hh : s.take i with
    | nil => rw [hh, wR_nil] at h; cases h
    | cons _ _ => simp
  have := (wR_len h0).1 h
  have := prefix_mono hi
  omega
theorem is_one {s : List UInt8} (h : 0 < prefixF s) : wR (s.take (prefixF s)) = true := by
  have hle := prefix_le s
  have hl : (s.take (prefixF s)).length = prefixF s := by rw [List.length_take]; omega
  exact (wR_len (by omega)).2 (by rw [prefix_cut h, hl])
theorem parseN_err (t : List UInt8) : (parseN t).2 ≠ 30 := by
  unfold parseN
  split
  · decide
  · split
    · decide
    · split
      · split
        · show (0 : Int) ≠ 30; decide
        · show (7 : Int) ≠ 30; decide
      · decide
theorem err30 (t : List UInt8) : ((parseD t).2.2.2 != 30) = wR t := by
  rw [← parse_same]
  unfold parse44
  cases h : wR t with
  | false => rfl
  | true =>
    rw [if_neg (by decide)]
    split
    · rfl
    · split
      · rfl
      · split
        · exact bne_iff_ne.2 (parseN_err _)
        · rfl

end Go.Proofs.YtddalcnajejibaaDoor
