/- Written by merging: ShaL ShaM ShaN. -/
import Derived.Test.YtiijphmpkmmpjaaSb
import Derived.Test.YtiijphmpkmmpjaaSc
import Derived.Test.YtiijphmpkmmpjaaSd
import Derived.Test.YtiijphmpkmmpjaaAmX
import Derived.Test.YtiijphmpkmmpjaaAmY
namespace Go.Proofs.Ytiijphmpkmmpjaa
open Go Go.Am
set_option maxRecDepth 100000
set_option linter.unusedVariables false
set_option linter.unusedSimpArgs false
theorem endA27 (P : Program) (B : Nat → Int) (k : Nat) (W : Nat → Int) : evP P S1 F27 (k + 30) (.inl p27_l1) (CA27 B 16 W) = some (.exit 0, EA27 B W) := by kernel_rfl
theorem endB27 (P : Program) (B : Nat → Int) (k : Nat) (W : Nat → Int) : evP P S1 F27 (k + 30) (.inl p27_l0) (CB27 B 64 W) = some (.exit 2, EB27 B W) := by kernel_rfl
theorem loopA27 (P : Program) (B : Nat → Int) : evP P S1 F27 60 (.inl (.block 0 (.loop p27_l1))) (CA27 B 0 fun _ => 0) = some (.normal, EA27 B (wordsA B)) :=
  block_exit (evP_le (loop_run (C := CA27 B) (fun t h0 h1 => allLt_spec (stepA27 P B) t h0 (by omega)) (endA27 P B) 16 0 0 _ (Nat.zero_le _) rfl) (by omega))
theorem loopB27 (P : Program) (B W : Nat → Int) : evP P S1 F27 90 (.inl (.block 2 (.loop p27_l0))) (CB27 B 16 W) = some (.normal, EB27 B (loopN stB 16 48 W)) :=
  block_exit (evP_le (loop_run (C := CB27 B) (t0 := 16) (fun t h0 h1 => allLt_spec (stepB27 P B) t h0 (by omega)) (endB27 P B) 48 16 0 _ (Nat.le_refl _) rfl) (by omega))
theorem words_run (P : Program) (B : Nat → Int) : evP P S1 F27 200 (.inl p27.body) ([.agg (ints .u8 64 B)] ++ List.replicate 84 .any, []) = some (.ret, G27 B (wordsW B)) := by
  refine seq_run (st1 := ([.agg (ints .u8 64 B), .ptr (some (0, 0)), .ptr (some (1, 0)), .any, .any, .any, .any, .any, .any, .any, .any, .any, .any, .any, .any, .any, .any, .any, .any, .any, .any, .any, .any, .any, .any, .any, .any, .any, .any, .any, .any, .any, .any, .any, .any, .any, .any, .any, .any, .any, .any, .any, .any, .any, .any, .any, .any, .any, .any, .any, .any, .any, .any, .any, .any, .any, .any, .any, .any, .any, .any, .any, .any, .any, .any, .any, .any, .any, .any, .any, .any, .any, .any, .any, .any, .any, .any, .any, .any, .any, .any, .any, .any, .any, .any], [.row 26 64 (ints .u8 64 B), .row 53 64 (ints .u32 64 fun _ => 0)])) (by kernel_rfl) ?_
  refine seq_run (st1 := ([.agg (ints .u8 64 B), .ptr (some (0, 0)), .ptr (some (1, 0)), .ptr (some (2, 0)), .any, .any, .any, .any, .any, .any, .any, .any, .any, .any, .any, .any, .any, .any, .any, .any, .any, .any, .any, .any, .any, .any, .any, .any, .any, .any, .any, .any, .any, .any, .any, .any, .any, .any, .any, .any, .any, .any, .any, .any, .any, .any, .any, .any, .any, .any, .any, .any, .any, .any, .any, .any, .any, .any, .any, .any, .any, .any, .any, .any, .any, .any, .any, .any, .any, .any, .any, .any, .any, .any, .any, .any, .any, .any, .any, .any, .any, .any, .any, .any, .any], hp27 B fun _ => 0)) (by kernel_rfl) ?_
  refine seq_run (st1 := EA27 B (wordsA B)) (seq_run (st1 := CA27 B 0 fun _ => 0) (by kernel_rfl) (evP_le (loopA27 P B) (by omega))) ?_
  refine seq_run (st1 := EB27 B (wordsW B)) (seq_run (st1 := CB27 B 16 (wordsA B)) (by kernel_rfl) (evP_le (loopB27 P B (wordsA B)) (by omega))) ?_
  refine seq_run (st1 := G27 B (wordsW B)) (by kernel_rfl) ?_
  rfl
theorem words_runF (B : Nat → Int) : runF Try.prog S1 F27 200 p27 [.agg (ints .u8 64 B)] [] = some (.agg (ints .u32 64 (wordsW B)), (G27 B (wordsW B)).2) :=
  runF_ret (words_run Try.prog B) (by kernel_rfl)
theorem flat_ints (k : IntKind) (n : Nat) (f : Nat → Int) : (AV.agg (ints k n f)).flat = true := by
  simp only [AV.flat, ints_closed, Bool.and_self]
theorem words_ok : QuietOK Try.prog 27 fun args _ => wordsS args := quiet_of_plain mixed S1_ok ht27 fun args v hv => by
  unfold wordsS at hv
  split at hv
  · rename_i l
    split at hv
    · rename_i hl
      cases hv
      have h1 := ints_dec hl
      generalize dec l = B at h1 ⊢
      subst h1
      exact ⟨by simp [flat_ints], ints_closed _ _ _, _, _, _, runF_sound S1_q c27 (words_runF B)⟩
    · cases hv
  · cases hv
theorem step30 (P : Program) (x y z : AObj) (B : Nat → Int) (t : Nat) (h : t < 64) : PP30 P x y z B t := by
  rcases Nat.lt_or_ge t 16 with q | q
  · exact allLt_spec (step30a P x y z B) t (Nat.zero_le _) (by omega)
  · rcases Nat.lt_or_ge t 40 with r | r
    · exact allLt_spec (step30b P x y z B) t q (by omega)
    · exact allLt_spec (step30c P x y z B) t r (by omega)
theorem end30 (P : Program) (x y z : AObj) (B : Nat → Int) (k : Nat) (W : Nat → Int) : evP P S1 F30 (k + 30) (.inl p30_l0) (C30 x y z B 64 W) = some (.exit 0, E30 x y z B W) := by kernel_rfl
theorem words_same (B : Nat → Int) : loopN (st30 B) 0 64 (fun _ => 0) = wordsW B := by kernel_rfl
theorem loop30 (P : Program) (x y z : AObj) (B : Nat → Int) : evP P S1 F30 100 (.inl (.block 0 (.loop p30_l0))) (C30 x y z B 0 fun _ => 0) = some (.normal, E30 x y z B (wordsW B)) := by
  have h := block_exit (id := 0) (evP_le (loop_run (C := C30 x y z B) (fun t h0 h1 => step30 P x y z B t h1) (end30 P x y z B) 64 0 0 (fun _ => 0) (Nat.zero_le _) rfl) (show 0 + 30 + 64 + 1 ≤ 99 by omega))
  rw [words_same] at h
  exact h
theorem rwords_run (P : Program) (x y z : AObj) (B : Nat → Int) : evP P S1 F30 200 (.inl p30.body) ([.agg (ints .u8 64 B)] ++ List.replicate 103 .any, [x, y, z]) = some (.ret, G30 x y z B (wordsW B)) := by
  refine seq_run (st1 := ([.agg (ints .u8 64 B), .ptr (some (3, 0)), .sl none 0 (.fix 0), .any, .any, .any, .any, .any, .any, .any, .any, .any, .any, .any, .any, .any, .any, .any, .any, .any, .any, .any, .any, .any, .any, .any, .any, .any, .any, .any, .any, .any, .any, .any, .any, .any, .any, .any, .any, .any, .any, .any, .any, .any, .any, .any, .any, .any, .any, .any, .any, .any, .any, .any, .any, .any, .any, .any, .any, .any, .any, .any, .any, .any, .any, .any, .any, .any, .any, .any, .any, .any, .any, .any, .any, .any, .any, .any, .any, .any, .any, .any, .any, .any, .any, .any, .any, .any, .any, .any, .any, .any, .any, .any, .any, .any, .any, .any, .any, .any, .any, .any, .any, .any], [x, y, z, .row 26 64 (ints .u8 64 B)])) (by kernel_rfl) ?_
  refine seq_run (st1 := ([.agg (ints .u8 64 B), .ptr (some (3, 0)), .sl none 0 (.fix 0), .sl none 0 (.fix 0), .any, .any, .any, .any, .any, .any, .any, .any, .any, .any, .any, .any, .any, .any, .any, .any, .any, .any, .any, .any, .any, .any, .any, .any, .any, .any, .any, .any, .any, .any, .any, .any, .any, .any, .any, .any, .any, .any, .any, .any, .any, .any, .any, .any, .any, .any, .any, .any, .any, .any, .any, .any, .any, .any, .any, .any, .any, .any, .any, .any, .any, .any, .any, .any, .any, .any, .any, .any, .any, .any, .any, .any, .any, .any, .any, .any, .any, .any, .any, .any, .any, .any, .any, .any, .any, .any, .any, .any, .any, .any, .any, .any, .any, .any, .any, .any, .any, .any, .any, .any], [x, y, z, .row 26 64 (ints .u8 64 B)])) (by kernel_rfl) ?_
  refine seq_run (st1 := E30 x y z B (wordsW B)) (seq_run (st1 := C30 x y z B 0 fun _ => 0) (by kernel_rfl) (evP_le (loop30 P x y z B) (by omega))) ?_
  refine seq_run (st1 := G30 x y z B (wordsW B)) (by kernel_rfl) ?_
  rfl
theorem rwords_runF (P : Program) (x y z : AObj) (B : Nat → Int) : runF P S1 F30 200 p30 [.agg (ints .u8 64 B)] [x, y, z] = some (.sl (some (131, 0)) 64 (.rel 0), hp30 x y z B 64 (wordsW B)) :=
  runF_ret (st := G30 x y z B (wordsW B)) (rwords_run P x y z B) (by kernel_rfl)
theorem rwords_ok : FullOK Try.prog 30 rwordsS := full_of_body mixed S1_ok ht30 fun args h v h' hv => by
  unfold rwordsS at hv
  split at hv
  · rename_i l x y z
    split at hv
    · rename_i hl
      have h1 := ints_dec hl
      cases hv
      generalize dec l = B at h1 ⊢
      subst h1
      exact ⟨_, _, runF_sound S1_q c30 (rwords_runF _ x y z B)⟩
    · cases hv
  · cases hv
theorem S2_ok : S2.OK Try.prog := mkS_ok quietText (fun g s _ h => by
  split at h
  · cases h; exact turn_ok
  · cases h; exact rturn_ok
  · cases h; exact const_ok ht29 c29 const_all
  · cases h; exact const_ok ht32 c32 rconst_all
  · cases h; exact turns_ok
  · cases h; exact words_ok
  · cases h) (fun g s h => by
  split at h
  · cases h; exact rwords_ok
  · cases h)
theorem S2_q : ∀ g, (S2.q g).isSome = Q g := fun g => mkS_isSome g
theorem step10 (P : Program) (g B W : Nat → Int) (t : Nat) (h : t < 64) : PP10 P g B W t := by
  rcases Nat.lt_or_ge t 24 with q | q
  · exact allLt_spec (step10a P g B W) t (Nat.zero_le _) (by omega)
  · rcases Nat.lt_or_ge t 44 with r | r
    · exact allLt_spec (step10b P g B W) t q (by omega)
    · exact allLt_spec (step10c P g B W) t r (by omega)
theorem end10 (P : Program) (g B W : Nat → Int) (k : Nat) (s : S8) : evP P S2 F10 (k + 30) (.inl p10_l1) (C10 g B W 64 s) = some (.exit 0, E10 g B W s) := by kernel_rfl
theorem loop10 (P : Program) (g B W : Nat → Int) : evP P S2 F10 100 (.inl (.block 0 (.loop p10_l1))) (C10 g B W 0 (s8 g)) = some (.normal, E10 g B W (roundsI g W)) :=
  block_exit (evP_le (loop_run (C := C10 g B W) (fun t h0 h1 => step10 P g B W t h1) (end10 P g B W) 64 0 0 _ (Nat.zero_le _) rfl) (by omega))
theorem add10 (P : Program) (g B W : Nat → Int) : AllLt (PQ10 P g B W) 0 8 := (⟨⟨⟨⟨⟨⟨⟨⟨trivial, fun _ _ => by kernel_rfl⟩, fun _ _ => by kernel_rfl⟩, fun _ _ => by kernel_rfl⟩, fun _ _ => by kernel_rfl⟩, fun _ _ => by kernel_rfl⟩, fun _ _ => by kernel_rfl⟩, fun _ _ => by kernel_rfl⟩, fun _ _ => by kernel_rfl⟩)
theorem fin10 (P : Program) (g B W : Nat → Int) (k : Nat) (f : Nat → Int) : evP P S2 F10 (k + 30) (.inl p10_l0) (D10 g B W 8 f) = some (.exit 2, H10 g B W f) := by kernel_rfl
theorem lool10 (P : Program) (g B W f : Nat → Int) : evP P S2 F10 100 (.inl (.block 2 (.loop p10_l0))) (D10 g B W 0 f) = some (.normal, H10 g B W (loopN (addT g) 0 8 f)) :=
  block_exit (evP_le (loop_run (C := D10 g B W) (fun t h0 h1 => allLt_spec (add10 P g B W) t h0 (by omega)) (fin10 P g B W) 8 0 0 _ (Nat.zero_le _) rfl) (by omega))
theorem block_run (P : Program) (g B : Nat → Int) : evP P S2 F10 200 (.inl p10.body) ([.agg (ints .u32 8 g), .agg (ints .u8 64 B)] ++ List.replicate 96 .any, []) = some (.ret, K10 g B (WB B) (blockI g (WB B))) := by
  refine seq_run (st1 := ([.agg (ints .u32 8 g), .agg (ints .u8 64 B), .ptr (some (0, 0)), .ptr (some (1, 0)), .ptr (some (2, 0)), .any, .any, .any, .any, .any, .any, .any, .any, .any, .any, .any, .any, .any, .any, .any, .any, .any, .any, .any, .any, .any, .any, .any, .any, .any, .any, .any, .any, .any, .any, .any, .any, .any, .any, .any, .any, .any, .any, .any, .any, .any, .any, .any, .any, .any, .any, .any, .any, .any, .any, .any, .any, .any, .any, .any, .any, .any, .any, .any, .any, .any, .any, .any, .any, .any, .any, .any, .any, .any, .any, .any, .any, .any, .any, .any, .any, .any, .any, .any, .any, .any, .any, .any, .any, .any, .any, .any, .any, .any, .any, .any, .any, .any], z10 g B)) (by kernel_rfl) ?_
  refine seq_run (st1 := ([.agg (ints .u32 8 g), .agg (ints .u8 64 B), .ptr (some (0, 0)), .ptr (some (1, 0)), .ptr (some (2, 0)), .ptr (some (3, 0)), .any, .any, .any, .any, .any, .any, .any, .agg (ints .u8 64 B), .agg (ints .u32 64 (WB B)), .any, .any, .any, .any, .any, .any, .any, .any, .any, .any, .any, .any, .any, .any, .any, .any, .any, .any, .any, .any, .any, .any, .any, .any, .any, .any, .any, .any, .any, .any, .any, .any, .any, .any, .any, .any, .any, .any, .any, .any, .any, .any, .any, .any, .any, .any, .any, .any, .any, .any, .any, .any, .any, .any, .any, .any, .any, .any, .any, .any, .any, .any, .any, .any, .any, .any, .any, .any, .any, .any, .any, .any, .any, .any, .any, .any, .any, .any, .any, .any, .any, .any, .any], z10 g B ++ [.row 53 64 (ints .u32 64 (WB B))])) (by kernel_rfl) ?_
  refine seq_run (st1 := ([.agg (ints .u32 8 g), .agg (ints .u8 64 B), .ptr (some (0, 0)), .ptr (some (1, 0)), .ptr (some (2, 0)), .ptr (some (3, 0)), .ptr (some (4, 0)), .any, .any, .any, .any, .any, .any, .agg (ints .u8 64 B), .agg (ints .u32 64 (WB B)), .agg (ints .u32 8 g), .any, .any, .any, .any, .any, .any, .any, .any, .any, .any, .any, .any, .any, .any, .any, .any, .any, .any, .any, .any, .any, .any, .any, .any, .any, .any, .any, .any, .any, .any, .any, .any, .any, .any, .any, .any, .any, .any, .any, .any, .any, .any, .any, .any, .any, .any, .any, .any, .any, .any, .any, .any, .any, .any, .any, .any, .any, .any, .any, .any, .any, .any, .any, .any, .any, .any, .any, .any, .any, .any, .any, .any, .any, .any, .any, .any, .any, .any, .any, .any, .any, .any], hp10 g B (WB B) g)) (by kernel_rfl) ?_
  refine seq_run (st1 := E10 g B (WB B) (roundsI g (WB B))) (seq_run (st1 := C10 g B (WB B) 0 (s8 g)) (by kernel_rfl) (evP_le (loop10 P g B (WB B)) (by omega))) ?_
  refine seq_run (st1 := H10 g B (WB B) (blockI g (WB B))) (seq_run (st1 := D10 g B (WB B) 0 (roundsI g (WB B)).fn) (by kernel_rfl) (evP_le (lool10 P g B (WB B) _) (by omega))) ?_
  refine seq_run (st1 := K10 g B (WB B) (blockI g (WB B))) (by kernel_rfl) ?_
  rfl
theorem block_runF (g B : Nat → Int) : runF Try.prog S2 F10 200 p10 [.agg (ints .u32 8 g), .agg (ints .u8 64 B)] [] = some (.agg (ints .u32 8 (blockI g (WB B))), (K10 g B (WB B) (blockI g (WB B))).2) :=
  runF_ret (block_run Try.prog g B) (by kernel_rfl)
theorem block_of {f : FuncId} {fn : Func} {p : PF} {F : Nat → List Nat} {n : Nat} (hf : HasText Try.prog f fn) (hc : compF Try.prog Q fn = some p) (hr : ∀ g B, ∃ h, runF Try.prog S2 F n p [.agg (ints .u32 8 g), .agg (ints .u8 64 B)] [] = some (.agg (ints .u32 8 (blockI g (WB B))), h)) :
    QuietOK Try.prog f fun args _ => blockS args := quiet_of_plain mixed S2_ok hf fun args v hv => by
  unfold blockS at hv
  split at hv
  · rename_i s l
    split at hv
    · rename_i hl
      simp only [Bool.and_eq_true] at hl
      have h1 := ints_dec hl.1
      have h2 := ints_dec hl.2
      cases hv
      obtain ⟨h, hr⟩ := hr (dec s) (dec l)
      unfold WB at hr
      rw [← h1, ← h2] at hr
      refine ⟨?_, ints_closed _ _ _, _, _, _, runF_sound S2_q hc hr⟩
      rw [h1, h2]
      simp [flat_ints]
    · cases hv
  · cases hv
theorem block_ok : QuietOK Try.prog 10 fun args _ => blockS args := block_of ht10 c10 fun g B => ⟨_, block_runF g B⟩
theorem step11 (P : Program) (g B B' W : Nat → Int) (t : Nat) (h : t < 64) : PP11 P g B B' W t := by
  rcases Nat.lt_or_ge t 22 with q | q
  · exact allLt_spec (step11a P g B B' W) t (Nat.zero_le _) (by omega)
  · rcases Nat.lt_or_ge t 44 with r | r
    · exact allLt_spec (step11b P g B B' W) t q (by omega)
    · exact allLt_spec (step11c P g B B' W) t r (by omega)
theorem end11 (P : Program) (g B B' W : Nat → Int) (k : Nat) (s : S8) : evP P S2 F11 (k + 30) (.inl p11_l1) (C11 g B B' W 64 s) = some (.exit 0, E11 g B B' W s) := by kernel_rfl
theorem loop11 (P : Program) (g B B' W : Nat → Int) : evP P S2 F11 100 (.inl (.block 0 (.loop p11_l1))) (C11 g B B' W 0 (s8 g)) = some (.normal, E11 g B B' W (roundsI g W)) :=
  block_exit (evP_le (loop_run (C := C11 g B B' W) (fun t h0 h1 => step11 P g B B' W t h1) (end11 P g B B' W) 64 0 0 _ (Nat.zero_le _) rfl) (by omega))
theorem add11 (P : Program) (g B B' W : Nat → Int) : AllLt (PQ11 P g B B' W) 0 8 := (⟨⟨⟨⟨⟨⟨⟨⟨trivial, fun _ _ => by kernel_rfl⟩, fun _ _ => by kernel_rfl⟩, fun _ _ => by kernel_rfl⟩, fun _ _ => by kernel_rfl⟩, fun _ _ => by kernel_rfl⟩, fun _ _ => by kernel_rfl⟩, fun _ _ => by kernel_rfl⟩, fun _ _ => by kernel_rfl⟩)
theorem fin11 (P : Program) (g B B' W : Nat → Int) (k : Nat) (f : Nat → Int) : evP P S2 F11 (k + 30) (.inl p11_l0) (D11 g B B' W 8 f) = some (.exit 2, H11 g B B' W f) := by kernel_rfl
theorem lool11 (P : Program) (g B B' W f : Nat → Int) : evP P S2 F11 100 (.inl (.block 2 (.loop p11_l0))) (D11 g B B' W 0 f) = some (.normal, H11 g B B' W (loopN (addT g) 0 8 f)) :=
  block_exit (evP_le (loop_run (C := D11 g B B' W) (fun t h0 h1 => allLt_spec (add11 P g B B' W) t h0 (by omega)) (fin11 P g B B' W) 8 0 0 _ (Nat.zero_le _) rfl) (by omega))
theorem rblock_run (P : Program) (g B : Nat → Int) : evP P S2 F11 200 (.inl p11.body) ([.agg (ints .u32 8 g), .agg (ints .u8 64 B)] ++ List.replicate 117 .any, []) = some (.ret, K11 g B (DB B) (WB B) (blockI g (WB B))) := by
  refine seq_run (st1 := ([.agg (ints .u32 8 g), .agg (ints .u8 64 B), .ptr (some (0, 0)), .ptr (some (1, 0)), .ptr (some (2, 0)), .any, .any, .any, .any, .any, .any, .any, .any, .any, .any, .any, .any, .any, .any, .any, .any, .any, .any, .any, .any, .any, .any, .any, .any, .any, .any, .any, .any, .any, .any, .any, .any, .any, .any, .any, .any, .any, .any, .any, .any, .any, .any, .any, .any, .any, .any, .any, .any, .any, .any, .any, .any, .any, .any, .any, .any, .any, .any, .any, .any, .any, .any, .any, .any, .any, .any, .any, .any, .any, .any, .any, .any, .any, .any, .any, .any, .any, .any, .any, .any, .any, .any, .any, .any, .any, .any, .any, .any, .any, .any, .any, .any, .any, .any, .any, .any, .any, .any, .any, .any, .any, .any, .any, .any, .any, .any, .any, .any, .any, .any, .any, .any, .any, .any], z10 g B)) (by kernel_rfl) ?_
  refine seq_run (st1 := ([.agg (ints .u32 8 g), .agg (ints .u8 64 B), .ptr (some (0, 0)), .ptr (some (1, 0)), .ptr (some (2, 0)), .sl (some (131, 0)) 64 (.rel 0), .any, .any, .any, .any, .any, .any, .any, .agg (ints .u8 64 B), .sl (some (131, 0)) 64 (.rel 0), .any, .any, .any, .any, .any, .any, .any, .any, .any, .any, .any, .any, .any, .any, .any, .any, .any, .any, .any, .any, .any, .any, .any, .any, .any, .any, .any, .any, .any, .any, .any, .any, .any, .any, .any, .any, .any, .any, .any, .any, .any, .any, .any, .any, .any, .any, .any, .any, .any, .any, .any, .any, .any, .any, .any, .any, .any, .any, .any, .any, .any, .any, .any, .any, .any, .any, .any, .any, .any, .any, .any, .any, .any, .any, .any, .any, .any, .any, .any, .any, .any, .any, .any, .any, .any, .any, .any, .any, .any, .any, .any, .any, .any, .any, .any, .any, .any, .any, .any, .any, .any, .any, .any, .any], hp30 (.row 25 8 (ints .u32 8 g)) (.row 26 64 (ints .u8 64 B)) (.row 25 8 (ints .u32 8 fun _ => 0)) (DB B) 64 (WB B))) (by kernel_rfl) ?_
  refine seq_run (st1 := ([.agg (ints .u32 8 g), .agg (ints .u8 64 B), .ptr (some (0, 0)), .ptr (some (1, 0)), .ptr (some (2, 0)), .sl (some (131, 0)) 64 (.rel 0), .ptr (some (132, 0)), .any, .any, .any, .any, .any, .any, .agg (ints .u8 64 B), .sl (some (131, 0)) 64 (.rel 0), .agg (ints .u32 8 g), .any, .any, .any, .any, .any, .any, .any, .any, .any, .any, .any, .any, .any, .any, .any, .any, .any, .any, .any, .any, .any, .any, .any, .any, .any, .any, .any, .any, .any, .any, .any, .any, .any, .any, .any, .any, .any, .any, .any, .any, .any, .any, .any, .any, .any, .any, .any, .any, .any, .any, .any, .any, .any, .any, .any, .any, .any, .any, .any, .any, .any, .any, .any, .any, .any, .any, .any, .any, .any, .any, .any, .any, .any, .any, .any, .any, .any, .any, .any, .any, .any, .any, .any, .any, .any, .any, .any, .any, .any, .any, .any, .any, .any, .any, .any, .any, .any, .any, .any, .any, .any, .any, .any], hp11 g B (DB B) (WB B) g)) (by kernel_rfl) ?_
  refine seq_run (st1 := E11 g B (DB B) (WB B) (roundsI g (WB B))) (seq_run (st1 := C11 g B (DB B) (WB B) 0 (s8 g)) (by kernel_rfl) (evP_le (loop11 P g B (DB B) (WB B)) (by omega))) ?_
  refine seq_run (st1 := H11 g B (DB B) (WB B) (blockI g (WB B))) (seq_run (st1 := D11 g B (DB B) (WB B) 0 (roundsI g (WB B)).fn) (by kernel_rfl) (evP_le (lool11 P g B (DB B) (WB B) _) (by omega))) ?_
  refine seq_run (st1 := K11 g B (DB B) (WB B) (blockI g (WB B))) (by kernel_rfl) ?_
  rfl
theorem rblock_runF (g B : Nat → Int) : runF Try.prog S2 F11 200 p11 [.agg (ints .u32 8 g), .agg (ints .u8 64 B)] [] = some (.agg (ints .u32 8 (blockI g (WB B))), (K11 g B (DB B) (WB B) (blockI g (WB B))).2) :=
  runF_ret (rblock_run Try.prog g B) (by kernel_rfl)
theorem rblock_ok : QuietOK Try.prog 11 fun args _ => blockS args := block_of ht11 c11 fun g B => ⟨_, rblock_runF g B⟩
def tabG (g : FuncId) : Option PF := match g with
  | 12 => some p12
  | 15 => some p15
  | 17 => some p17
  | 18 => some p18
  | 20 => some p20
  | 25 => some p25
  | 34 => some p34
  | 35 => some p35
  | 36 => some p36
  | _ => none
theorem tabG_ok : TabOK Try.prog tabG Q := fun g pf h => by
  unfold tabG at h
  split at h
  · cases h; exact ⟨_, ht12, c12⟩
  · cases h; exact ⟨_, ht15, c15⟩
  · cases h; exact ⟨_, ht17, c17⟩
  · cases h; exact ⟨_, ht18, c18⟩
  · cases h; exact ⟨_, ht20, c20⟩
  · cases h; exact ⟨_, ht25, c25⟩
  · cases h; exact ⟨_, ht34, c34⟩
  · cases h; exact ⟨_, ht35, c35⟩
  · cases h; exact ⟨_, ht36, c36⟩
  · cases h
noncomputable def SG (n : Nat) : Specs := runX Try.prog tabG Q (fun g => match g with | 10 => some (fun args _ => blockS args) | _ => none) (fun _ => none) (fun _ _ => []) 200 n
theorem SG_ok (n : Nat) : (SG n).OK Try.prog ∧ ∀ g, ((SG n).q g).isSome = Q g := runX_ok mixed tabG_ok quietText (fun g s h => by
  split at h
  · cases h; exact block_ok
  · cases h) (fun _ _ h => by cases h) _ _ n
theorem begun_run : (runF Try.prog (SG 6) (fun _ => []) 200 p9 [] []).map (·.1) = some (.bool true) := by kernel_rfl
theorem begun_ok : QuietOK Try.prog 9 fun args _ => (match args with | [] => some (.bool true) | _ => none) := quiet_of_plain mixed (SG_ok 6).1 ht9 fun args v hv => by
  split at hv
  · cases hv
    have h := begun_run
    simp only [Option.map_eq_some_iff] at h
    obtain ⟨⟨v1, h1⟩, h2, h3⟩ := h
    simp only at h3
    subst h3
    exact ⟨rfl, rfl, _, _, _, runF_sound (SG_ok 6).2 c9 h2⟩
  · cases hv
def begunS : List AV → Option AV
  | [] => some (.bool true)
  | _ => none
theorem begun_okS : QuietOK Try.prog 9 fun args _ => begunS args := begun_ok
def sub : PC → Nat → PC
  | .seq a b, 0 => a
  | .seq a b, n + 1 => sub b n
  | c, _ => c
def z3 (k : IntKind) (n : Nat) : List AV := ints k n fun _ => 0

end Go.Proofs.Ytiijphmpkmmpjaa
