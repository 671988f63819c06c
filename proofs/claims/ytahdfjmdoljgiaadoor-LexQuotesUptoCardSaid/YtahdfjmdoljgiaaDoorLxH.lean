/- The document's Quote, hex and Unquote: their contracts. -/
import Derived.Test.YtahdfjmdoljgiaaDoorLxG
namespace Go.Proofs.YtahdfjmdoljgiaaDoor
open Go Go.Am
set_option maxRecDepth 100000
set_option linter.unusedVariables false
set_option linter.unusedSimpArgs false

theorem hexL (n : Nat) (h : n < 16) : List.getD (Array.toList (ByteArray.data { data := #[48, 49, 50, 51, 52, 53, 54, 55, 56, 57, 97, 98, 99, 100, 101, 102] })) n 0 = hexd n := by
  have : ∀ m : Fin 16, List.getD (Array.toList (ByteArray.data { data := #[48, 49, 50, 51, 52, 53, 54, 55, 56, 57, 97, 98, 99, 100, 101, 102] })) m.1 0 = hexd m.1 := by decide +kernel
  exact this ⟨n, h⟩
theorem divN (c : UInt8) : Int.toNat (IntKind.wrap .u8 (Int.tdiv ((c.toNat : Nat) : Int) 16)) = c.toNat / 16 := by
  have := c.toNat_lt
  rw [Int.tdiv_eq_ediv_of_nonneg (by omega), IntKind.wrap_u8]; omega
theorem modN (c : UInt8) : Int.toNat (Int.tmod ((c.toNat : Nat) : Int) 16) = c.toNat % 16 := by
  rw [Int.tmod_eq_emod_of_nonneg (by omega)]; omega
theorem bv_apps (l r : List UInt8) : bv (l ++ r) = bv l ++ bv r := by simp [bv]
theorem take_succ {s : List UInt8} {i : Nat} (h : i < s.length) : s.take (i + 1) = s.take i ++ [s.getD i 0] := by
  rw [List.take_add_one, List.getElem?_eq_getElem h, List.getD_eq_getElem?_getD, List.getElem?_eq_getElem h]; rfl
theorem esc_sp {c : UInt8} (h : c.toNat = 34 ∨ c.toNat = 92) : esc c = [92, c] := by unfold esc; rw [if_neg (by omega), if_pos h]
theorem esc_hx {c : UInt8} (h : c.toNat < 32 ∨ 126 < c.toNat) : esc c = [92, 120, hexd (c.toNat / 16), hexd (c.toNat % 16)] := by unfold esc; rw [if_pos h]
theorem esc_pl {c : UInt8} (h : ¬ (c.toNat < 32 ∨ 126 < c.toNat)) (h2 : ¬ (c.toNat = 34 ∨ c.toNat = 92)) : esc c = [c] := by unfold esc; rw [if_neg h, if_neg h2]

theorem loop15 (s : List UInt8) (hn : s.length ≤ 1099511627900) : ∀ i : Nat, i ≤ s.length → W Tryd.prog (tbS Q []) 0 (.inl (.loop p15_l0)) (g15 s i (34 :: (s.take i).flatMap esc)) (fun e st => e = .exit 0 ∧ st = e15 s (34 :: s.flatMap esc)) := by
  have hcw : CwOK (tbS Q []) (tbW Q []) := tbW_ok rfl
  refine W_roundsG (P := Tryd.prog) (fun i => g15 s i (34 :: (s.take i).flatMap esc)) (fun i => i ≤ s.length) (fun i => s.length - i) (fun _ e st => e = .exit 0 ∧ st = e15 s (34 :: s.flatMap esc)) ?_
  intro i hi
  obtain ⟨acc, hacc⟩ : ∃ acc, acc = 34 :: (s.take i).flatMap esc := ⟨_, rfl⟩
  have hal : acc.length ≤ 4 * s.length + 1 := by
    have h1 := esc_sum (s.take i)
    have h2 : (s.take i).length ≤ s.length := by simp; omega
    rw [hacc, List.length_cons]; omega
  rw [← hacc]
  refine W_wpX (C := C15m) hcw (by intro x hx; cases hx) (n := 40) (tn := t15) (tx := x15) (tr := x15) ((v15b s i acc _).mp ?_)
  by_cases hlt : i < s.length
  · have go : ∀ (bs : List UInt8) (src : List AV) (m : Nat), esc (s.getD i 0) = bs → src = bv bs → m = bs.length →
        ∃ s' : Nat, ((envOf 51 [(0, .str s), (2, .str []), (3, .sl (some (0, 0)) (acc.length + m) (.rel 0)), (4, .int .i64 (IntKind.wrap .i64 ((i : Int) + 1)))], [.row 5 1 (bv acc ++ src)]) : St) = g15 s s' (34 :: (s.take s').flatMap esc) ∧ s' ≤ s.length ∧ s.length - s' < s.length - i ∧ ∀ e st, (e = AExit.exit 0 ∧ st = e15 s (34 :: s.flatMap esc)) → (e = AExit.exit 0 ∧ st = e15 s (34 :: s.flatMap esc)) := by
      rintro bs src m hb rfl rfl
      refine ⟨i + 1, ?_, by omega, by omega, fun e st h => h⟩
      have hw : IntKind.wrap .i64 ((i : Int) + 1) = ((i + 1 : Nat) : Int) := by rw [IntKind.wrap_i64]; omega
      have ha : (34 : UInt8) :: (s.take (i + 1)).flatMap esc = acc ++ bs := by rw [take_succ hlt, List.flatMap_append, List.flatMap_singleton, hb, hacc]; rfl
      rw [ha, hw, ← bv_apps, ← List.length_append]
      rfl
    have hu := (s.getD i 0).toNat_lt
    simp only [divN, modN, hexL _ (show (s.getD i 0).toNat / 16 < 16 by omega), hexL _ (show (s.getD i 0).toNat % 16 < 16 by omega)]
    refine askT (by simp; omega) (chkI (by simpa using hlt) (askI (fun h1 => ?_) fun h1 => askI (fun h2 => ?_) fun h2 => askI (fun h3 => ?_) fun h3 => askI (fun h4 => ?_) fun h4 => ?_))
    · simp only [beq_iff_eq] at h1
      exact ⟨5, 1, _, rfl, chkI rfl (chkI rfl (chkI (by rw [bv_len]; simp) (chkI (by simp; omega) (chkI (by simp; omega) (chkI (by show AV.refsL _ _ _ = true; rw [refsL_eq, List.all_append, ← refsL_eq, bv_closed]; rfl) (go [92, s.getD i 0] _ 2 (esc_sp (by omega)) rfl rfl))))))⟩
    · simp only [beq_iff_eq] at h2
      exact ⟨5, 1, _, rfl, chkI rfl (chkI rfl (chkI (by rw [bv_len]; simp) (chkI (by simp; omega) (chkI (by simp; omega) (chkI (by show AV.refsL _ _ _ = true; rw [refsL_eq, List.all_append, ← refsL_eq, bv_closed]; rfl) (go [92, s.getD i 0] _ 2 (esc_sp (by omega)) rfl rfl))))))⟩
    · simp only [decide_eq_true_eq] at h3
      refine chkI (decide_eq_true (by omega)) (chkI (decide_eq_true (by omega)) ?_)
      exact ⟨5, 1, _, rfl, chkI rfl (chkI rfl (chkI (by rw [bv_len]; simp) (chkI (by simp; omega) (chkI (by simp; omega) (chkI (by show AV.refsL _ _ _ = true; rw [refsL_eq, List.all_append, ← refsL_eq, bv_closed]; rfl) (go [92, 120, hexd ((s.getD i 0).toNat / 16), hexd ((s.getD i 0).toNat % 16)] _ 4 (esc_hx (by omega)) rfl rfl))))))⟩
    · simp only [decide_eq_true_eq] at h4
      refine chkI (decide_eq_true (by omega)) (chkI (decide_eq_true (by omega)) ?_)
      exact ⟨5, 1, _, rfl, chkI rfl (chkI rfl (chkI (by rw [bv_len]; simp) (chkI (by simp; omega) (chkI (by simp; omega) (chkI (by show AV.refsL _ _ _ = true; rw [refsL_eq, List.all_append, ← refsL_eq, bv_closed]; rfl) (go [92, 120, hexd ((s.getD i 0).toNat / 16), hexd ((s.getD i 0).toNat % 16)] _ 4 (esc_hx (by omega)) rfl rfl))))))⟩
    · simp only [beq_eq_false_iff_ne, ne_eq, decide_eq_false_iff_not] at h1 h2 h3 h4
      exact ⟨5, 1, _, rfl, chkI rfl (chkI rfl (chkI (by rw [bv_len]; simp) (chkI (by simp; omega) (chkI (by simp; omega) (chkI (by show AV.refsL _ _ _ = true; rw [refsL_eq, List.all_append, ← refsL_eq, bv_closed]; rfl) (go [s.getD i 0] _ 1 (esc_pl (by omega) (by omega)) rfl rfl))))))⟩
  · refine askF (by simp; omega) (chkI (bv_ocl _) ⟨rfl, ?_⟩)
    rw [hacc, List.take_of_length_le (by omega)]
    rfl

theorem quoteR_ok : QuietOK Tryd.prog 15 fun vs _ => sQuoteR vs := quiet_plain ht15 fun args v h => by
  unfold sQuoteR at h
  split at h
  · rename_i s
    split at h
    · rename_i hs
      cases h
      refine ⟨rfl, rfl, ?_⟩
      have hS : (tbS Q []).OK Tryd.prog := tbS_ok quietText (by simp)
      have hw := (v15 s fun u _ => u = .str (quoteL s)).mp (by
        have hl := esc_sum s
        refine ⟨rfl, 5, 1, _, rfl, chkI rfl (chkI rfl (chkI (by rw [bv_len]; simp) (chkI (decide_eq_true (by simp only [List.length_cons]; omega)) (chkI (decide_eq_true (by simp only [List.length_cons]; omega)) ⟨quoteL s, ?_, rfl⟩))))⟩
        have he : bv (34 :: s.flatMap esc) ++ [.int .u8 34] = bv (quoteL s) := by
          show _ = bv ((34 :: s.flatMap esc) ++ [34])
          rw [bv_app]; rfl
        have hk : cellsAt [.dead, .row 5 1 [.int .u8 34], .row 5 1 (bv (34 :: s.flatMap esc) ++ [.int .u8 34])] 2 = some (bv (quoteL s)) := by rw [he]; rfl
        have := strOf_bv _ (quoteL s) 2 hk
        have e2 : (quoteL s).length = (34 :: s.flatMap esc).length + 1 := by unfold quoteL; simp
        rw [e2] at this
        exact this)
      obtain ⟨u, h', rfl, hsem⟩ := sem_wp mixed (C := C15 s) hS (tbS_q _ _) (tbW_ok rfl) ht15 c15 (one_part rfl (part_loop (id := 3) rfl rfl fun st K hT => by
        obtain ⟨rfl, hk⟩ := hT
        refine W_mono (loop15 s hs 0 (by omega)) fun e st' he => ?_
        obtain ⟨rfl, rfl⟩ := he
        exact hk)) hw
      exact ⟨h', hsem⟩
    · cases h
  · cases h

theorem sHex_at (c : UInt8) : sHex [.int .u8 (c.toNat : Int)] = some (.int .u8 (hexv c).toNat) := by
  have h := c.toNat_lt
  show (if 0 ≤ ((c.toNat : Nat) : Int) ∧ ((c.toNat : Nat) : Int) < 256 then _ else _) = _
  rw [if_pos (by omega), u8_back]
theorem hex_ok : QuietOK Tryd.prog 28 fun vs _ => sHex vs := quiet_plain ht28 fun args v h => by
  unfold sHex at h
  split at h
  · rename_i c
    split at h
    · rename_i hc
      cases h
      refine ⟨rfl, rfl, ?_⟩
      have hS : (tbS Q []).OK Tryd.prog := tbS_ok quietText (by simp)
      have hw := (v28 c fun u _ => u = .int .u8 (hexv c.toNat.toUInt8).toNat).mp (by
        obtain ⟨n, rfl⟩ : ∃ n : Nat, c = n := ⟨c.toNat, by omega⟩
        have hn : n < 256 := by omega
        have h1 : ∀ m : Fin 256, 97 ≤ m.1 → IntKind.wrap .u8 (IntKind.wrap .u8 ((m.1 : Int) - 97) + 10) = ((hexv m.1.toUInt8).toNat : Int) := by decide +kernel
        have h2 : ∀ m : Fin 256, ¬ 97 ≤ m.1 → IntKind.wrap .u8 ((m.1 : Int) - 48) = ((hexv m.1.toUInt8).toNat : Int) := by decide +kernel
        refine askI (fun h => ?_) fun h => ?_
        · simp only [decide_eq_true_eq] at h
          rw [h1 ⟨n, hn⟩ (by show 97 ≤ n; omega)]; rfl
        · simp only [decide_eq_false_iff_not] at h
          rw [h2 ⟨n, hn⟩ (by show ¬ 97 ≤ n; omega)]; rfl)
      obtain ⟨u, h', rfl, hsem⟩ := sem_wp mixed (C := C15m) hS (tbS_q _ _) (tbW_ok rfl) ht28 c28 (no_parts rfl) hw
      exact ⟨h', hsem⟩
    · cases h
  · cases h
end Go.Proofs.YtahdfjmdoljgiaaDoor
