/- Unquote's contract; the document's Quote and Unquote: shapes of their runs. -/
import Derived.Test.YtahdfjmdoljgiaaDoorLxD
namespace Go.Proofs.YtahdfjmdoljgiaaDoor
open Go Go.Am
set_option maxRecDepth 100000
set_option linter.unusedVariables false
set_option linter.unusedSimpArgs false

def unquoteF (s : List UInt8) : List UInt8 × Bool := match unqF s with
  | none => ([], false)
  | some b => if (quoteL b != s) = true then ([], false) else (b, true)
theorem uq_none {s : List UInt8} (h : unqF s = none) : unquoteF s = ([], false) := by unfold unquoteF; rw [h]
theorem uq_bad {s b : List UInt8} (h : unqF s = some b) (hq : (quoteL b != s) = true) : unquoteF s = ([], false) := by unfold unquoteF; rw [h]; exact if_pos hq
theorem uq_ok {s b : List UInt8} (h : unqF s = some b) (hq : (quoteL b != s) = false) : unquoteF s = (b, true) := by unfold unquoteF; rw [h]; exact if_neg (by rw [hq]; decide)
def sUnquote : List AV → Option AV
  | [.str s] => if s.length ≤ 1099511627776 then some (.tup [.str (unquoteF s).1, .bool (unquoteF s).2]) else none
  | _ => none
theorem unq_len {s : List UInt8} : ∀ (f i : Nat) (acc b : List UInt8), acc.length ≤ i → acc.length ≤ s.length + 4 → unqFrom s f i acc = some b → b.length ≤ s.length + 4
  | 0, _, _, _, _, _, h => by cases h
  | f + 1, i, acc, b, hi, hs, h => by
    rw [unqFrom] at h
    have ap : ∀ c : UInt8, (acc ++ [c]).length = acc.length + 1 := fun c => by simp
    split at h
    · rename_i hlt
      split at h
      · exact unq_len f _ _ b (by rw [ap]; omega) (by rw [ap]; omega) h
      · split at h
        · exact unq_len f _ _ b (by rw [ap]; omega) (by rw [ap]; omega) h
        · split at h
          · cases h
          · split at h
            · cases h
            · split at h
              · cases h
              · exact unq_len f _ _ b (by rw [ap]; omega) (by rw [ap]; omega) h
    · cases h; exact hs

theorem unquote_ok : QuietOK Tryd.prog 12 fun vs _ => sUnquote vs := quiet_plain ht12 fun args v h => by
  unfold sUnquote at h
  split at h
  · rename_i s
    split at h
    · rename_i hs
      cases h
      refine ⟨rfl, rfl, ?_⟩
      have hS : (tbS Q tb12).OK Tryd.prog := tbS_ok quietText (by
        intro x hx
        simp only [tb12, List.mem_cons, List.not_mem_nil, or_false] at hx
        rcases hx with rfl | rfl
        · exact indexByte_ok
        · exact quote_ok)
      have hw := (v12 s fun u _ => u = .tup [.str (unquoteF s).1, .bool (unquoteF s).2]).mp (by
        refine ⟨rfl, ?_⟩
        cases hu : unqF s with
        | none => exact askT rfl (by rw [uq_none hu])
        | some b =>
          have hb : b.length ≤ s.length + 4 := unq_len _ _ _ b (by simp) (by simp) hu
          have hl := strOf_bv [.row 5 1 (bv b)] b 0 rfl
          refine askF rfl ?_
          by_cases hE : b = []
          · subst hE
            refine askT rfl ⟨[34, 34], rfl, askI (fun hq => ?_) fun hq => ?_⟩
            · rw [uq_bad hu hq]
            · rw [uq_ok hu hq]
          · have hE2 : b.isEmpty = false := by cases b with | nil => exact absurd rfl hE | cons _ _ => rfl
            refine askF (by simpa using hE2) ⟨b, hl, quoteL b, ?_, askI (fun hq => ?_) fun hq => ⟨b, hl, ?_⟩⟩
            · show sQuote [.str b] = _
              exact if_pos (by omega)
            · rw [uq_bad hu hq]
            · rw [uq_ok hu hq])
      obtain ⟨u, h', rfl, hsem⟩ := sem_wp mixed (C := C12 s) hS (tbS_q _ _) (tbW_ok rfl) ht12 c12 (one_part rfl (part_loop (id := 3) rfl rfl fun st K hT => by
        obtain ⟨rfl, hk⟩ := hT
        have hL := loop12 s hs (s.length + 1, 1, []) ⟨by simp, by simp, by simp, by simp⟩
        refine W_mono hL fun e st' he => ?_
        unfold res12 at he
        have hu : unqFrom s (s.length + 1) 1 [] = unqF s := rfl
        simp only [hu] at he
        rcases askD hk with ⟨h1, h2⟩ | ⟨h1, h2⟩
        · rw [if_pos h1] at he; obtain ⟨rfl, rfl⟩ := he; exact h2
        · rw [if_neg (by rw [h1]; decide)] at he
          obtain ⟨rfl, rfl⟩ := he
          rcases askD h2 with ⟨h3, h4⟩ | ⟨h3, h4⟩
          · rw [if_pos h3]; exact h4
          · rw [if_neg (by rw [h3]; decide)]; exact h4)) hw
      exact ⟨h', hsem⟩
    · cases h
  · cases h
end Go.Proofs.YtahdfjmdoljgiaaDoor
