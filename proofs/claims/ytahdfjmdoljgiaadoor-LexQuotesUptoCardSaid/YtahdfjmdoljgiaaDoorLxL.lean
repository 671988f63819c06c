/- LexQuotes' walk. -/
import Derived.Test.YtahdfjmdoljgiaaDoorLxK
namespace Go.Proofs.YtahdfjmdoljgiaaDoor
open Go Go.Am
set_option maxRecDepth 100000
set_option linter.unusedVariables false
set_option linter.unusedSimpArgs false

theorem quotes_run (s : List UInt8) (hs : s.length ≤ 1048576) : ∃ h', CallSem Tryd.prog 4 [.str s] [] (.bool true) h' := by
  obtain ⟨hsame, hback⟩ := unq_same s
  have hU : sUnquote [.str s] = some (.tup [.str (unquoteF s).1, .bool (unquoteF s).2]) := if_pos (by omega)
  have hR : sRefUnq [.str s] = some (.tup [.str (unquoteF s).1, .bool (unquoteF s).2]) := by rw [hsame]; exact if_pos (by omega)
  have hQ : sQuote [.str s] = some (.str (quoteL s)) := if_pos (by omega)
  have hQR : sQuoteR [.str s] = some (.str (quoteL s)) := if_pos (by omega)
  have hql : (quoteL s).length ≤ 4 * s.length + 2 := by
    have := esc_sum s
    unfold quoteL
    rw [List.length_cons, List.length_append, List.length_singleton]; omega
  have hU2 : sUnquote [.str (quoteL s)] = some (.tup [.str s, .bool true]) := by
    have : sUnquote [.str (quoteL s)] = some (.tup [.str (unquoteF (quoteL s)).1, .bool (unquoteF (quoteL s)).2]) := if_pos (by omega)
    rw [this, unquote_q]
  have hL : sLive [] ([] : AHeap) = some (.bool true) := by unfold sLive; rw [if_pos rfl]
  have hw := (v4 s fun u _ => u = .bool true).mp (by
    refine ⟨(unquoteF s).1, (unquoteF s).2, hU, askI (fun h1 => ?_) fun h1 => ?_⟩
    · have hq : quoteL (unquoteF s).1 = s := hback h1
      have hl1 : (unquoteF s).1.length ≤ s.length := by have := len_quote (unquoteF s).1; rw [hq] at this; omega
      have hQ1 : sQuote [.str (unquoteF s).1] = some (.str (quoteL (unquoteF s).1)) := if_pos (by omega)
      exact ⟨(unquoteF s).1, (unquoteF s).2, hR, askT h1 ⟨true, hL, quoteL s, hQ, quoteL s, hQR, askF (by simp) (askF (by simp) ⟨quoteL (unquoteF s).1, hQ1, askF (by rw [hq]; simp) ⟨quoteL s, hQ, s, true, hU2, askT rfl (askT (by simp) rfl)⟩⟩)⟩⟩
    · exact ⟨(unquoteF s).1, (unquoteF s).2, hR, askF h1 ⟨true, hL, quoteL s, hQ, quoteL s, hQR, askF (by simp) (askF (by simp) ⟨quoteL s, hQ, s, true, hU2, askT rfl (askT (by simp) rfl)⟩)⟩⟩)
  obtain ⟨u, h', rfl, hsem⟩ := sem_wp mixed (C := C4) tb4_ok (tbS_q _ _) (tbW_ok rfl) ht4 c4 (no_parts rfl) hw
  exact ⟨h', hsem⟩
end Go.Proofs.YtahdfjmdoljgiaaDoor
