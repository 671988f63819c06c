/- The document's Unquote: its contract; the law's calls. -/
import Derived.Test.YtahdfjmdoljgiaaDoorLxI
namespace Go.Proofs.YtahdfjmdoljgiaaDoor
open Go Go.Am
set_option maxRecDepth 100000
set_option linter.unusedVariables false
set_option linter.unusedSimpArgs false

def refUnqF (s : List UInt8) : List UInt8 × Bool := if (quoteL (refF s) != s) = true then ([], false) else (refF s, true)
theorem ru_bad {s : List UInt8} (hq : (quoteL (refF s) != s) = true) : refUnqF s = ([], false) := if_pos hq
theorem ru_ok {s : List UInt8} (hq : (quoteL (refF s) != s) = false) : refUnqF s = (refF s, true) := if_neg (by rw [hq]; decide)
def sRefUnq : List AV → Option AV
  | [.str s] => if s.length ≤ 1099511627776 then some (.tup [.str (refUnqF s).1, .bool (refUnqF s).2]) else none
  | _ => none
theorem ref_len {s : List UInt8} : ∀ (f i : Nat) (acc : List UInt8), acc.length ≤ i → acc.length ≤ s.length + 4 → (refFrom s f i acc).length ≤ s.length + 4
  | 0, _, acc, _, hs => by simpa [refFrom] using hs
  | f + 1, i, acc, hi, hs => by
    have ap : ∀ c : UInt8, (acc ++ [c]).length = acc.length + 1 := fun c => by simp
    rw [refFrom]
    split
    · split
      · exact ref_len f _ _ (by rw [ap]; omega) (by rw [ap]; omega)
      · split
        · exact ref_len f _ _ (by rw [ap]; omega) (by rw [ap]; omega)
        · exact ref_len f _ _ (by rw [ap]; omega) (by rw [ap]; omega)
    · exact hs

theorem refUnq_ok : QuietOK Tryd.prog 13 fun vs _ => sRefUnq vs := quiet_plain ht13 fun args v h => by
  unfold sRefUnq at h
  split at h
  · rename_i s
    split at h
    · rename_i hs
      cases h
      refine ⟨rfl, rfl, ?_⟩
      have hS : (tbS Q tb13).OK Tryd.prog := tbS_ok quietText (by
        intro x hx
        simp only [tb13, List.mem_cons, List.not_mem_nil, or_false] at hx
        rcases hx with rfl | rfl
        · exact hex_ok
        · exact quoteR_ok)
      have hw := (v13 s fun u _ => u = .tup [.str (refUnqF s).1, .bool (refUnqF s).2]).mp (by
        refine ⟨rfl, ?_⟩
        have hb : (refF s).length ≤ s.length + 4 := ref_len _ _ _ (by simp) (by simp)
        have hl := strOf_bv [.row 5 1 (bv (refF s))] (refF s) 0 rfl
        have hquo : ∀ l : List UInt8, l.length ≤ s.length + 4 → sQuoteR [.str l] = some (.str (quoteL l)) := fun l h => if_pos (by omega)
        by_cases hE : refF s = []
        · refine askT (by rw [hE]; rfl) ⟨quoteL [], hquo [] (by simp), askI (fun hq => ?_) fun hq => ?_⟩
          · rw [ru_bad (by rw [hE]; exact hq)]
          · rw [ru_ok (by rw [hE]; exact hq), hE]
        · have hE2 : (refF s).isEmpty = false := by
            cases h : refF s with
            | nil => exact absurd h hE
            | cons _ _ => rfl
          refine askF hE2 ⟨refF s, hl, quoteL (refF s), hquo _ hb, askI (fun hq => ?_) fun hq => ⟨refF s, hl, ?_⟩⟩
          · rw [ru_bad hq]
          · rw [ru_ok hq])
      obtain ⟨u, h', rfl, hsem⟩ := sem_wp mixed (C := C13 s) hS (tbS_q _ _) (tbW_ok rfl) ht13 c13 (one_part rfl (part_loop (id := 3) rfl rfl fun st K hT => by
        obtain ⟨rfl, hk⟩ := hT
        refine W_mono (loop13 s hs (s.length + 1, 1, []) ⟨by simp, by simp, by simp, by simp⟩) fun e st' he => ?_
        obtain ⟨rfl, rfl⟩ := he
        have hu : refFrom s (s.length + 1) 1 [] = refF s := rfl
        simp only [hu]
        unfold x13s
        rcases askD hk with ⟨h3, h4⟩ | ⟨h3, h4⟩
        · rw [if_pos h3]; exact h4
        · rw [if_neg (by rw [h3]; decide)]; exact h4)) hw
      exact ⟨h', hsem⟩
    · cases h
  · cases h

noncomputable def sLive : List AV → AHeap → Option AV := fun vs _ => @ite _ (vs = []) (Classical.propDecidable _) (some (.bool true)) none
noncomputable def tb4 : List TbE := [⟨10, sLive, .of (.one .bool)⟩, ⟨12, fun vs _ => sUnquote vs, .tup [.one .str, .one .bool]⟩, ⟨13, fun vs _ => sRefUnq vs, .tup [.one .str, .one .bool]⟩, ⟨14, fun vs _ => sQuote vs, .of (.one .str)⟩, ⟨15, fun vs _ => sQuoteR vs, .of (.one .str)⟩]
noncomputable def C4 : Cfg := tbC Q tb4 (fun _ => false) kdI
theorem tb4_ok : (tbS Q tb4).OK Tryd.prog := tbS_ok quietText (by
  intro x hx
  simp only [tb4, List.mem_cons, List.not_mem_nil, or_false] at hx
  rcases hx with rfl | rfl | rfl | rfl | rfl
  · exact live_ok
  · exact unquote_ok
  · exact refUnq_ok
  · exact quote_ok
  · exact quoteR_ok)

/-! ### The plain law -/
theorem hexIx_hexd : ∀ n : Nat, n < 16 → hexIx (hexd n) = n := by
  intro n hn
  have : ∀ m : Fin 16, hexIx (hexd m.1) = (m.1 : Int) := by decide +kernel
  exact this ⟨n, hn⟩
theorem hexv_hexd : ∀ n : Nat, n < 16 → (hexv (hexd n)).toNat = n := by
  intro n hn
  have : ∀ m : Fin 16, (hexv (hexd m.1)).toNat = m.1 := by decide +kernel
  exact this ⟨n, hn⟩
theorem two_hex (c : UInt8) : (16 * ((c.toNat / 16 : Nat) : Int) + ((c.toNat % 16 : Nat) : Int)).toNat.toUInt8 = c := by
  have : (16 * ((c.toNat / 16 : Nat) : Int) + ((c.toNat % 16 : Nat) : Int)).toNat = c.toNat := by omega
  rw [this]; simp
theorem two_hexv (c : UInt8) : 16 * hexv (hexd (c.toNat / 16)) + hexv (hexd (c.toNat % 16)) = c := by
  have hc := c.toNat_lt
  apply UInt8.toNat_inj.1
  rw [UInt8.toNat_add, UInt8.toNat_mul, hexv_hexd _ (by omega), hexv_hexd _ (by omega)]
  have : (16 : UInt8).toNat = 16 := rfl
  rw [this]; omega
/-- What stands behind the first quote, from a place on. -/
theorem at_drop {s : List UInt8} {i : Nat} {t : List UInt8} (h : s.drop i = t) (j : Nat) : s.getD (i + j) 0 = t.getD j 0 := by
  rw [← h, List.getD_eq_getElem?_getD, List.getD_eq_getElem?_getD, List.getElem?_drop]
theorem len_drop {s : List UInt8} {i : Nat} {t : List UInt8} (h : s.drop i = t) (ht : 0 < t.length) : s.length = i + t.length := by
  have := congrArg List.length h
  rw [List.length_drop] at this
  omega
theorem drop_drop' {s : List UInt8} {i : Nat} {a t : List UInt8} (h : s.drop i = a ++ t) : s.drop (i + a.length) = t := by
  rw [← List.drop_drop, h, List.drop_append, List.drop_eq_nil_of_le (Nat.le_refl _), Nat.sub_self, List.nil_append, List.drop_zero]
theorem unq_quote (s : List UInt8) : ∀ (l acc : List UInt8) (i f : Nat), s.drop i = l.flatMap esc ++ [34] → l.length + 1 ≤ f → unqFrom s f i acc = some (acc ++ l)
  | [], acc, i, f, h, hf => by
    obtain ⟨f, rfl⟩ : ∃ g, f = g + 1 := ⟨f - 1, by omega⟩
    have hl := len_drop h (by simp)
    have h1 : s.length = i + 1 := by simpa using hl
    rw [unqFrom, if_neg (by omega), List.append_nil]
  | c :: l, acc, i, f, h, hf => by
    obtain ⟨f, rfl⟩ : ∃ g, f = g + 1 := ⟨f - 1, by simp at hf; omega⟩
    have hc := c.toNat_lt
    have hl := len_drop h (by rw [List.length_append]; simp only [List.length_singleton]; omega)
    rw [List.flatMap_cons, List.append_assoc] at h
    rw [List.flatMap_cons, List.append_assoc, List.length_append, List.length_append, List.length_singleton] at hl
    have hd := drop_drop' h
    have ih : ∀ acc' j, j = i + (esc c).length → unqFrom s f j acc' = some (acc' ++ l) := fun acc' j hj => unq_quote s l acc' j f (hj ▸ hd) (by simp at hf; omega)
    have a0 := at_drop h 0
    have a1 := at_drop h 1
    have a2 := at_drop h 2
    have a3 := at_drop h 3
    rw [Nat.add_zero] at a0
    have fin : acc ++ [c] ++ l = acc ++ c :: l := by simp
    rw [unqFrom]
    by_cases hx : c.toNat < 32 ∨ 126 < c.toNat
    · rw [esc_hx hx] at hl a0 a1 a2 a3 ih
      simp only [List.cons_append, List.getD_cons_zero, List.getD_cons_succ, List.length_cons, List.length_nil] at hl a0 a1 a2 a3
      rw [if_pos (by omega), if_neg (by rw [a0]; decide), if_neg (by rw [a1]; decide), if_neg (by omega), a2, a3, hexIx_hexd _ (by omega), hexIx_hexd _ (by omega), if_neg (by omega), if_neg (by omega), two_hex, ih _ (i + 4) rfl, fin]
    · by_cases h2 : c.toNat = 34 ∨ c.toNat = 92
      · rw [esc_sp h2] at hl a0 a1 ih
        simp only [List.cons_append, List.getD_cons_zero, List.getD_cons_succ, List.length_cons, List.length_nil] at hl a0 a1
        have hne : (c != 120) = true := by
          rw [bne_iff_ne]; rintro rfl; revert h2; decide
        rw [if_pos (by omega), if_neg (by rw [a0]; decide), a1, if_pos hne, ih _ (i + 2) rfl, fin]
      · rw [esc_pl hx h2] at hl a0 ih
        simp only [List.cons_append, List.getD_cons_zero, List.length_cons, List.length_nil] at hl a0
        have hne : (c != 92) = true := by
          rw [bne_iff_ne]; rintro rfl; exact h2 (.inr rfl)
        rw [if_pos (by omega), a0, if_pos hne, ih _ (i + 1) rfl, fin]
theorem ref_quote (s : List UInt8) : ∀ (l acc : List UInt8) (i f : Nat), s.drop i = l.flatMap esc ++ [34] → l.length + 1 ≤ f → refFrom s f i acc = acc ++ l
  | [], acc, i, f, h, hf => by
    obtain ⟨f, rfl⟩ : ∃ g, f = g + 1 := ⟨f - 1, by omega⟩
    have hl := len_drop h (by simp)
    have h1 : s.length = i + 1 := by simpa using hl
    rw [refFrom, if_neg (by omega), List.append_nil]
  | c :: l, acc, i, f, h, hf => by
    obtain ⟨f, rfl⟩ : ∃ g, f = g + 1 := ⟨f - 1, by simp at hf; omega⟩
    have hc := c.toNat_lt
    have hl := len_drop h (by rw [List.length_append]; simp only [List.length_singleton]; omega)
    rw [List.flatMap_cons, List.append_assoc] at h
    rw [List.flatMap_cons, List.append_assoc, List.length_append, List.length_append, List.length_singleton] at hl
    have hd := drop_drop' h
    have ih : ∀ acc' j, j = i + (esc c).length → refFrom s f j acc' = acc' ++ l := fun acc' j hj => ref_quote s l acc' j f (hj ▸ hd) (by simp at hf; omega)
    have a0 := at_drop h 0
    have a1 := at_drop h 1
    have a2 := at_drop h 2
    have a3 := at_drop h 3
    rw [Nat.add_zero] at a0
    have fin : acc ++ [c] ++ l = acc ++ c :: l := by simp
    rw [refFrom]
    by_cases hx : c.toNat < 32 ∨ 126 < c.toNat
    · rw [esc_hx hx] at hl a0 a1 a2 a3 ih
      simp only [List.cons_append, List.getD_cons_zero, List.getD_cons_succ, List.length_cons, List.length_nil] at hl a0 a1 a2 a3
      rw [if_pos (by omega), if_neg (by rw [a1]; simp), if_pos (by rw [a0, decide_eq_true (show i + 4 < s.length by omega)]; rfl), a2, a3, two_hexv, ih _ (i + 4) rfl, fin]
    · by_cases h2 : c.toNat = 34 ∨ c.toNat = 92
      · rw [esc_sp h2] at hl a0 a1 ih
        simp only [List.cons_append, List.getD_cons_zero, List.getD_cons_succ, List.length_cons, List.length_nil] at hl a0 a1
        have hne : (c != 120) = true := by
          rw [bne_iff_ne]; rintro rfl; revert h2; decide
        rw [if_pos (by omega), if_pos (by rw [a0, a1, hne, decide_eq_true (show i + 2 < s.length by omega)]; rfl), a1, ih _ (i + 2) rfl, fin]
      · rw [esc_pl hx h2] at hl a0 ih
        simp only [List.cons_append, List.getD_cons_zero, List.length_cons, List.length_nil] at hl a0
        have hne : (c == 92) = false := by
          rw [beq_eq_false_iff_ne]; rintro rfl; exact h2 (.inr rfl)
        rw [if_pos (by omega), if_neg (by rw [a0, hne]; simp), if_neg (by rw [a0, hne]; simp), a0, ih _ (i + 1) rfl, fin]
theorem drop_quote (l : List UInt8) : (quoteL l).drop 1 = l.flatMap esc ++ [34] := rfl
theorem len_quote (l : List UInt8) : l.length + 2 ≤ (quoteL l).length := by
  have : ∀ c, 1 ≤ (esc c).length := fun c => by unfold esc; split <;> (try split) <;> simp
  have h : l.length ≤ (l.flatMap esc).length := by
    induction l with
    | nil => simp
    | cons c l ih => have := this c; simp only [List.flatMap_cons, List.length_append, List.length_cons]; omega
  unfold quoteL
  rw [List.length_cons, List.length_append, List.length_singleton]
  omega
theorem unq_q (l : List UInt8) : unqF (quoteL l) = some l := by
  have := len_quote l
  have h := unq_quote (quoteL l) l [] 1 ((quoteL l).length + 1) (drop_quote l) (by omega)
  simpa [unqF] using h
theorem ref_q (l : List UInt8) : refF (quoteL l) = l := by
  have := len_quote l
  have h := ref_quote (quoteL l) l [] 1 ((quoteL l).length + 1) (drop_quote l) (by omega)
  simpa [refF] using h
theorem unquote_q (l : List UInt8) : unquoteF (quoteL l) = (l, true) := uq_ok (unq_q l) (by simp)
/-- Both say the same of any text; what they give is what the text is the quoted form of. -/
theorem unq_same (s : List UInt8) : unquoteF s = refUnqF s ∧ ((unquoteF s).2 = true → quoteL (unquoteF s).1 = s) := by
  by_cases h : ∃ l, quoteL l = s
  · obtain ⟨l, rfl⟩ := h
    rw [unquote_q]
    refine ⟨?_, fun _ => rfl⟩
    unfold refUnqF
    rw [ref_q, if_neg (by simp)]
  · have hne : ∀ b, (quoteL b != s) = true := fun b => by rw [bne_iff_ne]; exact fun e => h ⟨b, e⟩
    have h1 : unquoteF s = ([], false) := by
      cases hu : unqF s with
      | none => exact uq_none hu
      | some b => exact uq_bad hu (hne b)
    rw [h1, ru_bad (hne _)]
    exact ⟨rfl, fun h => by cases h⟩
end Go.Proofs.YtahdfjmdoljgiaaDoor
