/- Pad of both sides: new memory, the same for both. -/
import Derived.Test.YtiijphmpkmmpjaaShaT
import Derived.Test.YtiijphmpkmmpjaaShaN
import Derived.Test.YtiijphmpkmmpjaaAmZc
namespace Go.Proofs.Ytiijphmpkmmpjaa
open Go Go.Am
set_option maxRecDepth 100000
set_option linter.unusedVariables false
set_option linter.unusedSimpArgs false

def padJ (n : Int) : Nat := ((119 - n % 64) % 64).toNat
def padL (n : Int) : List AV := zer (padJ n) ++ bytesI (bitsI n) 8
theorem padJ_ok (n : Int) (hn : 0 ≤ n) : padJ n ≤ 64 ∧ (∀ i, i < padJ n → padC n ((1 + i : Nat) : Int) = true) ∧ padC n ((1 + padJ n : Nat) : Int) = false := by
  unfold padJ
  refine ⟨by omega, fun i hi => ?_, ?_⟩
  · rw [padC_eq n (1 + i) hn (by omega)]
    simp only [Bool.not_eq_true', decide_eq_false_iff_not]
    omega
  · rw [padC_eq n _ hn (by omega)]
    simp only [Bool.not_eq_false', decide_eq_true_eq]
    omega
theorem bytesW_ok (b : Int) : ∀ t, (bytesI b t).length = t ∧ (bytesI b t).all (isInt .u8) = true
  | 0 => ⟨rfl, rfl⟩
  | t + 1 => by
    obtain ⟨h1, h2⟩ := bytesW_ok b t
    exact ⟨by simp [bytesI, h1], by simp [bytesI, List.all_append, h2, isInt]⟩
theorem padL_ok (n : Int) : (padL n).length = padJ n + 9 ∧ (padL n).all (isInt .u8) = true := by
  obtain ⟨h1, h2⟩ := bytesW_ok (bitsI n) 8
  refine ⟨by simp only [padL, zer, List.length_append, List.length_cons, List.length_replicate, h1], ?_⟩
  rw [padL, List.all_append, h2, Bool.and_true]
  simp [zer, isInt]
noncomputable def padF (F : Nat → List Nat) (p : PF) (args : List AV) (hp : List AObj) : Option (AV × AHeap × List Nat) :=
  (runF Try.prog S0 F 300 p args hp).map fun r => (r.1, r.2, match r.1 with | .sl (some (k, _)) _ _ => [k] | _ => [])
/-- What Pad hands back. -/
def padC15 (args : List AV) (h : AHeap) : Option ((AV × AHeap) × List Bool) := match args with
  | [.int .i64 n] => some ((.sl (some (h.length, 0)) (padJ n + 9) (.rel 0), h ++ [.row 5 1 (padL n)]), [decide (0 ≤ n)])
  | _ => none
theorem pad15_full : FullOK Try.prog 15 (freshS (padF F15 p15)) := fresh_of_body mixed S0_ok ht15 fun args hp v hq ks h => by
  unfold padF at h
  simp only [Option.map_eq_some_iff] at h
  obtain ⟨⟨v1, h1⟩, h2, h3⟩ := h
  simp only [Prod.mk.injEq] at h3
  obtain ⟨rfl, rfl, -⟩ := h3
  exact .inl ⟨_, _, runF_sound S0_q c15 h2⟩
theorem pad15_eq (n : Int) (hn : 0 ≤ n) (h : AHeap) : freshS (padF F15 p15) [.int .i64 n] h = some (.sl (some (h.length, 0)) (padJ n + 9) (.rel 0), h ++ [.row 5 1 (padL n)]) := by
  obtain ⟨j1, j2, j3⟩ := padJ_ok n hn
  obtain ⟨k, hs, h1, -, h2⟩ := pad_run_15 Try.prog S0 n [] (padJ n) hn j1 j2 j3
  have hi : impArgs h 0 [.int .i64 n] = some ([.int .i64 n], []) := rfl
  unfold freshS
  rw [hi]
  simp only [Option.bind_some, padF, h1, Option.map_some]
  have hr : renOwn (fun i => ([k].idxOf? i).map (h.length + ·)) (hs.getD k .dead) = .row 5 1 (padL n) := by
    rw [List.getD_eq_getElem?_getD, h2]
    simp only [Option.getD_some, renOwn, renObj]
    rw [show zer (padJ n) ++ bytesI (bitsI n) 8 = padL n from rfl, renL_ints (k := .u8) _ (padL_ok n).2]
  have hk : ([k].idxOf? k) = some 0 := by simp [List.idxOf?_cons]
  simp only [List.nodup_cons, List.not_mem_nil, not_false_eq_true, List.nodup_nil, and_self, decide_true, if_true, AV.ren, hk, Option.map_some, Nat.add_zero, List.map_cons, List.map_nil, hr]
  rw [show 1 + padJ n + 8 = padJ n + 9 by omega]
theorem pad16_full : FullOK Try.prog 16 (freshS (padF F16 p16)) := fresh_of_body mixed S0_ok ht16 fun args hp v hq ks h => by
  unfold padF at h
  simp only [Option.map_eq_some_iff] at h
  obtain ⟨⟨v1, h1⟩, h2, h3⟩ := h
  simp only [Prod.mk.injEq] at h3
  obtain ⟨rfl, rfl, -⟩ := h3
  exact .inl ⟨_, _, runF_sound S0_q c16 h2⟩
theorem pad16_eq (n : Int) (hn : 0 ≤ n) (h : AHeap) : freshS (padF F16 p16) [.int .i64 n] h = some (.sl (some (h.length, 0)) (padJ n + 9) (.rel 0), h ++ [.row 5 1 (padL n)]) := by
  obtain ⟨j1, j2, j3⟩ := padJ_ok n hn
  obtain ⟨k, hs, h1, -, h2⟩ := pad_run_16 Try.prog S0 n [] (padJ n) hn j1 j2 j3
  have hi : impArgs h 0 [.int .i64 n] = some ([.int .i64 n], []) := rfl
  unfold freshS
  rw [hi]
  simp only [Option.bind_some, padF, h1, Option.map_some]
  have hr : renOwn (fun i => ([k].idxOf? i).map (h.length + ·)) (hs.getD k .dead) = .row 5 1 (padL n) := by
    rw [List.getD_eq_getElem?_getD, h2]
    simp only [Option.getD_some, renOwn, renObj]
    rw [show zer (padJ n) ++ bytesI (bitsI n) 8 = padL n from rfl, renL_ints (k := .u8) _ (padL_ok n).2]
  have hk : ([k].idxOf? k) = some 0 := by simp [List.idxOf?_cons]
  simp only [List.nodup_cons, List.not_mem_nil, not_false_eq_true, List.nodup_nil, and_self, decide_true, if_true, AV.ren, hk, Option.map_some, Nat.add_zero, List.map_cons, List.map_nil, hr]
  rw [show 1 + padJ n + 8 = padJ n + 9 by omega]
end Go.Proofs.Ytiijphmpkmmpjaa
