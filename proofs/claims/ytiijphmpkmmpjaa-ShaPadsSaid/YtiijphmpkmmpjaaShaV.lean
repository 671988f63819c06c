import Derived.Test.YtiijphmpkmmpjaaShaU
namespace Go.Proofs.Ytiijphmpkmmpjaa
open Go Go.Am
set_option maxRecDepth 100000
set_option linter.unusedVariables false
set_option linter.unusedSimpArgs false
theorem closed_int (k : IntKind) (m : Int) : (AV.int k m).closed = true := by simp [AV.closed, AV.refs]
theorem bytes_of : ∀ (l : List AV), l.all (isInt .u8) = true → l.all AV.closed = true ∧ ∃ bs, l.mapM byteOfA = some bs
  | [], _ => ⟨rfl, [], rfl⟩
  | x :: l, h => by
    simp only [List.all_cons, Bool.and_eq_true] at h
    obtain ⟨h1, h2⟩ := h
    obtain ⟨g1, bs, g2⟩ := bytes_of l h2
    cases x <;> first | cases h1 | skip
    rename_i k m
    have hk : k = .u8 := by simpa [isInt] using h1
    subst hk
    refine ⟨by simp only [List.all_cons, closed_int, g1, Bool.and_self], UInt8.ofNat m.toNat :: bs, ?_⟩
    rw [List.mapM_cons, g2]
    rfl
theorem bytesI_ok (b : Int) : ∀ t, (bytesI b t).length = t ∧ (bytesI b t).all (isInt .u8) = true
  | 0 => ⟨rfl, rfl⟩
  | t + 1 => by
    obtain ⟨h1, h2⟩ := bytesI_ok b t
    exact ⟨by simp [bytesI, h1], by simp [bytesI, List.all_append, h2, isInt]⟩
theorem pad_bytes (j : Nat) (b : Int) : (zer j ++ bytesI b 8).length = 1 + j + 8 ∧ (zer j ++ bytesI b 8).all (isInt .u8) = true := by
  obtain ⟨h1, h2⟩ := bytesI_ok b 8
  refine ⟨by simp only [zer, List.length_append, List.length_cons, List.length_replicate, h1]; omega, ?_⟩
  rw [List.all_append, h2, Bool.and_true]
  simp [zer, isInt]
noncomputable def SP : Specs := mkS Q (fun g => match g with
  | 9 => some fun args _ => begunS args
  | 14 => some equalS
  | _ => none) (fun g => match g with
  | 15 => some (limS Try.prog S0 F15 p15)
  | 16 => some (limS Try.prog S0 F16 p16)
  | _ => none)
theorem SP_ok : SP.OK Try.prog := mkS_ok quietText (fun g s _ h => by
  split at h
  · cases h; exact begun_okS
  · cases h; exact equal_ok
  · cases h) (fun g s h => by
  split at h
  · cases h; exact limS_ok mixed S0_ok S0_q ht15 c15 F15
  · cases h; exact limS_ok mixed S0_ok S0_q ht16 c16 F16
  · cases h)
theorem SP_q : ∀ g, (SP.q g).isSome = Q g := fun g => mkS_isSome g
theorem pads_core (n : Int) (p1 p2 : Option (Nat × Nat)) (m1 m2 : Nat) (c1 c2 : ACap) (h1 h2 : AHeap) (e1 : limS Try.prog S0 F15 p15 [.int .i64 n] [] = some ((.sl p1 m1 c1), h1)) (e2 : limS Try.prog S0 F16 p16 [.int .i64 n] h1 = some ((.sl p2 m2 c2), h2)) (e3 : equalS [(.sl p1 m1 c1), (.sl p2 m2 c2)] h2 = some (.bool true)) :
    runF Try.prog SP (fun _ => []) 100 p5 [.int .i64 n] [] = some (.bool true, h2) := by
  refine runF_ret (st := ([.int .i64 n, .any, .bool true, .bool true, .bool true, .int .i64 n, (.sl p1 m1 c1), .int .i64 n, (.sl p2 m2 c2), .bool true, .bool true], h2)) ?_ rfl
  refine seq_run (n := 99) (st1 := ([.int .i64 n, .any, .bool false, .any, .any, .any, .any, .any, .any, .any, .any], [])) (by kernel_rfl) ?_
  refine seq_run (n := 98) (st1 := ([.int .i64 n, .any, .bool true, .bool true, .bool true, .int .i64 n, (.sl p1 m1 c1), .int .i64 n, (.sl p2 m2 c2), .bool true, .bool true], h2)) (region_run (n := 97) ?_) rfl
  refine ops_cons (st1 := ([.int .i64 n, .any, .bool false, .bool true, .any, .any, .any, .any, .any, .any, .any], [])) (by kernel_rfl) ?_
  refine ops_cons (st1 := ([.int .i64 n, .any, .bool false, .bool true, .bool true, .any, .any, .any, .any, .any, .any], [])) (by kernel_rfl) ?_
  refine ops_cons (st1 := ([.int .i64 n, .any, .bool false, .bool true, .bool true, .int .i64 n, .any, .any, .any, .any, .any], [])) (by kernel_rfl) ?_
  refine ops_cons (st1 := ([.int .i64 n, .any, .bool false, .bool true, .bool true, .int .i64 n, (.sl p1 m1 c1), .any, .any, .any, .any], h1)) (step_call (vs := [.int .i64 n]) rfl rfl ?_) ?_
  · exact e1
  refine ops_cons (st1 := ([.int .i64 n, .any, .bool false, .bool true, .bool true, .int .i64 n, (.sl p1 m1 c1), .int .i64 n, .any, .any, .any], h1)) rfl ?_
  refine ops_cons (st1 := ([.int .i64 n, .any, .bool false, .bool true, .bool true, .int .i64 n, (.sl p1 m1 c1), .int .i64 n, (.sl p2 m2 c2), .any, .any], h2)) (step_call (vs := [.int .i64 n]) rfl rfl ?_) ?_
  · exact e2
  refine ops_cons (st1 := ([.int .i64 n, .any, .bool false, .bool true, .bool true, .int .i64 n, (.sl p1 m1 c1), .int .i64 n, (.sl p2 m2 c2), .bool true, .any], h2)) (step_call (vs := [(.sl p1 m1 c1), (.sl p2 m2 c2)]) rfl rfl ?_) ?_
  · show (equalS [(.sl p1 m1 c1), (.sl p2 m2 c2)] h2).map (·, h2) = _
    rw [e3]; rfl
  · rfl
theorem pads_run (n : Int) : ∃ h, runF Try.prog SP (fun _ => []) 100 p5 [.int .i64 n] [] = some (.bool true, h) := by
  by_cases hn : n < 0
  · exact ⟨_, pads_core n _ _ _ _ _ _ _ _ (limS_of (pad_neg_15 _ _ n [] hn)) (limS_of (pad_neg_16 _ _ n [] hn)) (equal_nil _)⟩
  · obtain ⟨j, hj, z1, z2⟩ := zc n (by omega)
    obtain ⟨k1, h1, r1, o1, a1⟩ := pad_run_15 Try.prog S0 n [] j (by omega) hj z1 z2
    obtain ⟨k2, h2, r2, o2, a2⟩ := pad_run_16 Try.prog S0 n h1 j (by omega) hj z1 z2
    have hk1 : k1 < h1.length := by
      rcases Nat.lt_or_ge k1 h1.length with q | q
      · exact q
      · simp [List.getElem?_eq_none q] at a1
    have a1' : h2[k1]? = some (.row 5 1 (zer j ++ bytesI (bitsI n) 8)) := by rw [o2.2.2 k1 hk1, a1]
    obtain ⟨b1, b2⟩ := pad_bytes j (bitsI n)
    obtain ⟨b3, bs, b4⟩ := bytes_of _ b2
    exact ⟨_, pads_core n _ _ _ _ _ _ _ _ (limS_of r1) (limS_of r2) (equal_rows h2 k1 k2 _ _ _ _ bs b4 b1 (by simp [cellsAt, a1', objCells]) (by simp [cellsAt, a2, objCells]) b3)⟩
end Go.Proofs.Ytiijphmpkmmpjaa
