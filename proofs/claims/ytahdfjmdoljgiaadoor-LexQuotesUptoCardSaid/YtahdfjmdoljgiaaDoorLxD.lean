/- Unquote: its loop; its contract. -/
import Derived.Test.YtahdfjmdoljgiaaDoorLxC
namespace Go.Proofs.YtahdfjmdoljgiaaDoor
open Go Go.Am
set_option maxRecDepth 100000
set_option linter.unusedVariables false
set_option linter.unusedSimpArgs false

theorem bv_len (l : List UInt8) : (bv l).length = l.length := by simp [bv]
theorem bv_app (l : List UInt8) (c : UInt8) : bv (l ++ [c]) = bv l ++ [.int .u8 c.toNat] := by simp [bv]
theorem bv_closed (l : List UInt8) : AV.refsL (fun _ => false) (fun _ => 0) (bv l) = true := by
  rw [refsL_eq, List.all_eq_true]
  intro x hx
  simp only [bv, List.mem_map] at hx
  obtain ⟨c, _, rfl⟩ := hx
  rfl
theorem bv_ocl (l : List UInt8) : objClosed (.row 5 1 (bv l)) = true := bv_closed l
theorem one_ocl (l : List UInt8) (c : Int) : objClosed (.row 5 1 (bv l ++ [.int .u8 c])) = true := by
  show AV.refsL _ _ _ = true
  rw [refsL_eq, List.all_append, ← refsL_eq, bv_closed]
  rfl
theorem bv_back : ∀ l : List UInt8, (bv l).mapM byteOfA = some l
  | [] => rfl
  | c :: l => by
    have hc : byteOfA (.int .u8 c.toNat) = some c := by simp [byteOfA]
    have e : bv (c :: l) = .int .u8 c.toNat :: bv l := rfl
    rw [e, List.mapM_cons, hc, bv_back l]
    rfl
theorem strOf_bv (h : AHeap) (l : List UInt8) (k : Nat) (hk : cellsAt h k = some (bv l)) : strOf h k 0 l.length = some l := by
  have hb : (bv l).mapM byteOfA = some l := bv_back l
  unfold strOf
  rw [hk, Option.bind_some, if_pos (by rw [bv_len]; omega), List.drop_zero, List.take_of_length_le (by rw [bv_len]; omega), hb]
theorem ix_lt : ∀ (l : List UInt8) (c : UInt8), Lib.indexByte l c < l.length ∧ -1 ≤ Lib.indexByte l c
  | [], c => by simp [Lib.indexByte]
  | b :: l, c => by
    have := ix_lt l c
    unfold Lib.indexByte
    simp only [List.length_cons]
    split
    · omega
    · split
      · omega
      · omega
theorem u8_back (c : UInt8) : (c.toNat : Int).toNat.toUInt8 = c := by simp
/-- Where Unquote's loop stands. -/
def g12 (s : List UInt8) (p : Nat × Nat × List UInt8) : St := if p.2.2.isEmpty then n12 s p.2.1 else h12 s p.2.1 p.2.2
def res12 (s : List UInt8) (o : Option (List UInt8)) (e : AExit) (st : St) : Prop :=
  if o.isNone then e = .ret ∧ st = bad12 else e = .exit 0 ∧ st = (if (o.getD []).isEmpty then xn12 s else xh12 s (o.getD []))
theorem g12_app (s : List UInt8) (f : Nat) (i : Nat) (acc : List UInt8) (c : UInt8) : g12 s (f, i, acc ++ [c]) = (envOf 76 [(0, .str s), (2, .str []), (3, .bool false), (4, .sl (some (0, 0)) (acc.length + 1) (.rel 0)), (5, .int .i64 i)], [.row 5 1 (bv acc ++ [.int .u8 c.toNat])]) := by
  unfold g12
  have he : (acc ++ [c]).isEmpty = false := by cases acc <;> rfl
  simp only [he, Bool.false_eq_true, if_false]
  unfold h12
  rw [bv_app, List.length_append]
  rfl
theorem hexE : (Array.toList (ByteArray.data { data := #[48, 49, 50, 51, 52, 53, 54, 55, 56, 57, 97, 98, 99, 100, 101, 102] })) = hexS := rfl
theorem byteW {a b : Int} (ha : 0 ≤ a) (ha2 : a < 16) (hb : 0 ≤ b) (hb2 : b < 16) : IntKind.wrap .u8 (IntKind.wrap .i64 (IntKind.wrap .i64 (16 * a) + b)) = (((16 * a + b).toNat.toUInt8).toNat : Int) := by
  have e1 : IntKind.wrap .i64 (16 * a) = 16 * a := by rw [IntKind.wrap_i64]; omega
  have e2 : IntKind.wrap .i64 (16 * a + b) = 16 * a + b := by rw [IntKind.wrap_i64]; omega
  rw [e1, e2]
  have h : (16 * a + b).toNat < 256 := by omega
  have e3 : ((16 * a + b).toNat.toUInt8).toNat = (16 * a + b).toNat := by simp; omega
  rw [e3]
  have e4 : IntKind.wrap .u8 (16 * a + b) = 16 * a + b := by rw [IntKind.wrap_u8]; omega
  rw [e4]; omega

theorem ne_u8 (c : UInt8) (k : UInt8) : (((c.toNat : Nat) : Int) != ((k.toNat : Nat) : Int)) = (c != k) := by
  rw [Bool.eq_iff_iff]
  simp only [bne_iff_ne, ne_eq, Int.natCast_inj, UInt8.toNat_inj]
theorem ne92 (c : UInt8) : (((c.toNat : Nat) : Int) != 92) = (c != 92) := ne_u8 c 92
theorem ne120 (c : UInt8) : (((c.toNat : Nat) : Int) != 120) = (c != 120) := ne_u8 c 120
theorem tou (c : UInt8) : Nat.toUInt8 (UInt8.toNat c) = c := by simp

theorem loop12 (s : List UInt8) (hn : s.length ≤ 1099511627776) : ∀ p : Nat × Nat × List UInt8, (1 ≤ p.2.1 ∧ s.length + 2 ≤ p.1 + p.2.1 ∧ 1 ≤ p.1 ∧ p.2.2.length ≤ p.2.1) →
    W Tryd.prog (tbS Q tb12) 0 (.inl (.loop p12_l0)) (g12 s p) (fun e st => res12 s (unqFrom s p.1 p.2.1 p.2.2) e st) := by
  have hcw : CwOK (tbS Q tb12) (tbW Q tb12) := tbW_ok rfl
  refine W_roundsG (P := Tryd.prog) (g12 s) (fun p => 1 ≤ p.2.1 ∧ s.length + 2 ≤ p.1 + p.2.1 ∧ 1 ≤ p.1 ∧ p.2.2.length ≤ p.2.1) (fun p => p.1) (fun p e st => res12 s (unqFrom s p.1 p.2.1 p.2.2) e st) ?_
  rintro ⟨f, i, acc⟩ ⟨h1, h2, h3, h4⟩
  simp only at h1 h2 h3 h4
  obtain ⟨f, rfl⟩ : ∃ g, f = g + 1 := ⟨f - 1, by omega⟩
  have wl : i + 3 < 2199023255552 → IntKind.wrap .i64 ((s.length : Int) - 1) = (s.length : Int) - 1 := fun _ => by rw [IntKind.wrap_i64]; omega
  have hi : i + 4 < 2199023255552 ∨ ¬ (i + 1 < s.length) := by omega
  have hstop : ¬ (i + 1 < s.length) → unqFrom s (f + 1) i acc = some acc := fun h => by rw [unqFrom, if_neg h]
  -- how a round goes on
  have go : ∀ (j : Nat) (c : UInt8), i < j → i + 1 < s.length → unqFrom s (f + 1) i acc = unqFrom s f j (acc ++ [c]) → ∀ (n' : Nat) (cs : List AV), n' = acc.length + 1 → cs = bv acc ++ [.int .u8 c.toNat] →
      ∃ s', ((envOf 76 [(0, .str s), (2, .str []), (3, .bool false), (4, .sl (some (0, 0)) n' (.rel 0)), (5, .int .i64 (j : Int))], [.row 5 1 cs]) : St) = g12 s s' ∧ (1 ≤ s'.2.1 ∧ s.length + 2 ≤ s'.1 + s'.2.1 ∧ 1 ≤ s'.1 ∧ s'.2.2.length ≤ s'.2.1) ∧ s'.1 < f + 1 ∧ ∀ e st, res12 s (unqFrom s s'.1 s'.2.1 s'.2.2) e st → res12 s (unqFrom s (f + 1) i acc) e st := by
    rintro j c hj hlt hu n' cs rfl rfl
    refine ⟨(f, j, acc ++ [c]), by rw [g12_app], ⟨by show 1 ≤ j; omega, by show s.length + 2 ≤ f + j; omega, by show 1 ≤ f; omega, by show (acc ++ [c]).length ≤ j; rw [List.length_append]; simp only [List.length_cons, List.length_nil]; omega⟩, by show f < f + 1; omega, fun e st h => by rw [hu]; exact h⟩
  have none_ok : unqFrom s (f + 1) i acc = none → res12 s (unqFrom s (f + 1) i acc) .ret bad12 := fun h => by rw [h]; exact ⟨rfl, rfl⟩
  have w1 : i + 1 < s.length → IntKind.wrap .i64 ((i : Int) + 1) = ((i + 1 : Nat) : Int) := fun _ => by rw [IntKind.wrap_i64]; omega
  have w2 : i + 1 < s.length → IntKind.wrap .i64 (((i + 1 : Nat) : Int) + 1) = ((i + 2 : Nat) : Int) := fun _ => by rw [IntKind.wrap_i64]; omega
  have w3 : i + 1 < s.length → IntKind.wrap .i64 (((i + 1 : Nat) : Int) + 2) = ((i + 3 : Nat) : Int) := fun _ => by rw [IntKind.wrap_i64]; omega
  have w4 : i + 1 < s.length → IntKind.wrap .i64 (((i + 3 : Nat) : Int) + 1) = ((i + 4 : Nat) : Int) := fun _ => by rw [IntKind.wrap_i64]; omega
  have wl : IntKind.wrap .i64 ((s.length : Int) - 1) = (s.length : Int) - 1 := by rw [IntKind.wrap_i64]; omega
  by_cases hE : acc.isEmpty = true
  · obtain rfl := List.isEmpty_iff.1 hE
    refine W_wpX (C := C12l) hcw (by intro x hx; cases hx) (n := 40) (tn := t12) (tx := x12) (tr := r12) ((v12bn s i _).mp ?_)
    by_cases hlt : i + 1 < s.length
    · simp only [w1 hlt, w2 hlt, w3 hlt, w4 hlt, wl, Int.toNat_natCast, hexE, tou, ne92, ne120]
      refine askT (by simp; omega) (chkI (by simp) (chkI (by simp; omega) (askI (fun hc => ?_) fun hc => ?_)))
      · exact go (i + 1) (s.getD i 0) (by omega) hlt (by rw [unqFrom, if_pos hlt, if_pos hc]) 1 _ rfl rfl
      refine chkI (by simp; omega) (chkI (by simp; omega) (askI (fun hx => ?_) fun hx => ?_))
      · refine chkI (by simp; omega) (chkI (by simp; omega) ?_)
        exact go (i + 2) (s.getD (i + 1) 0) (by omega) hlt (by rw [unqFrom, if_pos hlt, if_neg (by simp only [hc]; decide), if_pos hx]) 1 _ rfl rfl
      refine askI (fun hl => ?_) fun hl => ?_
      · exact none_ok (by rw [unqFrom, if_pos hlt, if_neg (by simp only [hc]; decide), if_neg (by simp only [hx]; decide), if_pos (by simp at hl; omega)])
      have hl' : ¬ (i + 4 ≥ s.length) := by simp at hl; omega
      refine chkI (by simp; omega) (chkI (by simp; omega) ⟨hexIx (s.getD (i + 2) 0), rfl, chkI (by simp; omega) (chkI (by simp; omega) ⟨hexIx (s.getD (i + 3) 0), rfl, askI (fun ha => ?_) fun ha => askI (fun hb => ?_) fun hb => ?_⟩)⟩)
      · exact none_ok (by rw [unqFrom, if_pos hlt, if_neg (by simp only [hc]; decide), if_neg (by simp only [hx]; decide), if_neg hl', if_pos (by simpa using ha)])
      · exact none_ok (by rw [unqFrom, if_pos hlt, if_neg (by simp only [hc]; decide), if_neg (by simp only [hx]; decide), if_neg hl', if_neg (by simpa using ha), if_pos (by simpa using hb)])
      have ha' : 0 ≤ hexIx (s.getD (i + 2) 0) := by simpa using ha
      have hb' : 0 ≤ hexIx (s.getD (i + 3) 0) := by simpa using hb
      have la : hexIx (s.getD (i + 2) 0) < 16 := (ix_lt hexS _).1
      have lb : hexIx (s.getD (i + 3) 0) < 16 := (ix_lt hexS _).1
      rw [byteW ha' la hb' lb]
      exact go (i + 4) ((16 * hexIx (s.getD (i + 2) 0) + hexIx (s.getD (i + 3) 0)).toNat.toUInt8) (by omega) hlt (by rw [unqFrom, if_pos hlt, if_neg (by simp only [hc]; decide), if_neg (by simp only [hx]; decide), if_neg hl', if_neg (by omega), if_neg (by omega)]) 1 _ rfl rfl
    · refine askF (by simp [wl]; omega) ?_
      have hs := hstop hlt
      skip
      show res12 s (unqFrom s (f + 1) i []) (.exit 0) _
      rw [hs]
      unfold res12
      skip
      exact ⟨rfl, rfl⟩
  · have hE : acc.isEmpty = false := by simpa using hE
    have hg : g12 s (f + 1, i, acc) = h12 s i acc := by unfold g12; simp only [hE, Bool.false_eq_true, if_false]
    rw [hg]
    refine W_wpX (C := C12m) hcw (by intro x hx; cases hx) (n := 40) (tn := t12) (tx := x12) (tr := r12) ((v12b s i acc _).mp ?_)
    by_cases hlt : i + 1 < s.length
    · simp only [w1 hlt, w2 hlt, w3 hlt, w4 hlt, wl, Int.toNat_natCast, hexE, tou, ne92, ne120]
      refine askT (by simp; omega) (chkI (by simp) (chkI (by simp; omega) (askI (fun hc => ?_) fun hc => ?_)))
      · exact ⟨5, 1, bv acc, rfl, chkI rfl (chkI rfl (chkI (by rw [bv_len]; simp) (chkI (by simp; omega) (chkI (by simp; omega) (chkI (one_ocl _ _) (go (i + 1) (s.getD i 0) (by omega) hlt (by rw [unqFrom, if_pos hlt, if_pos hc]) _ _ rfl rfl))))))⟩
      refine chkI (by simp; omega) (chkI (by simp; omega) (askI (fun hx => ?_) fun hx => ?_))
      · refine chkI (by simp; omega) (chkI (by simp; omega) ?_)
        exact ⟨5, 1, bv acc, rfl, chkI rfl (chkI rfl (chkI (by rw [bv_len]; simp) (chkI (by simp; omega) (chkI (by simp; omega) (chkI (one_ocl _ _) (go (i + 2) (s.getD (i + 1) 0) (by omega) hlt (by rw [unqFrom, if_pos hlt, if_neg (by simp only [hc]; decide), if_pos hx]) _ _ rfl rfl))))))⟩
      refine askI (fun hl => ?_) fun hl => ?_
      · exact chkI (bv_ocl _) (none_ok (by rw [unqFrom, if_pos hlt, if_neg (by simp only [hc]; decide), if_neg (by simp only [hx]; decide), if_pos (by simp at hl; omega)]))
      have hl' : ¬ (i + 4 ≥ s.length) := by simp at hl; omega
      refine chkI (by simp; omega) (chkI (by simp; omega) ⟨hexIx (s.getD (i + 2) 0), rfl, chkI (by simp; omega) (chkI (by simp; omega) ⟨hexIx (s.getD (i + 3) 0), rfl, askI (fun ha => ?_) fun ha => askI (fun hb => ?_) fun hb => ?_⟩)⟩)
      · exact chkI (bv_ocl _) (none_ok (by rw [unqFrom, if_pos hlt, if_neg (by simp only [hc]; decide), if_neg (by simp only [hx]; decide), if_neg hl', if_pos (by simpa using ha)]))
      · exact chkI (bv_ocl _) (none_ok (by rw [unqFrom, if_pos hlt, if_neg (by simp only [hc]; decide), if_neg (by simp only [hx]; decide), if_neg hl', if_neg (by simpa using ha), if_pos (by simpa using hb)]))
      have ha' : 0 ≤ hexIx (s.getD (i + 2) 0) := by simpa using ha
      have hb' : 0 ≤ hexIx (s.getD (i + 3) 0) := by simpa using hb
      have la : hexIx (s.getD (i + 2) 0) < 16 := (ix_lt hexS _).1
      have lb : hexIx (s.getD (i + 3) 0) < 16 := (ix_lt hexS _).1
      rw [byteW ha' la hb' lb]
      exact ⟨5, 1, bv acc, rfl, chkI rfl (chkI rfl (chkI (by rw [bv_len]; simp) (chkI (by simp; omega) (chkI (by simp; omega) (chkI (one_ocl _ _) (go (i + 4) ((16 * hexIx (s.getD (i + 2) 0) + hexIx (s.getD (i + 3) 0)).toNat.toUInt8) (by omega) hlt (by rw [unqFrom, if_pos hlt, if_neg (by simp only [hc]; decide), if_neg (by simp only [hx]; decide), if_neg hl', if_neg (by omega), if_neg (by omega)]) _ _ rfl rfl))))))⟩
    · refine askF (by simp [wl]; omega) ?_
      have hs := hstop hlt
      refine chkI (bv_ocl _) ?_
      show res12 s (unqFrom s (f + 1) i acc) (.exit 0) _
      rw [hs]
      unfold res12
      simp only [Option.isNone_some, Bool.false_eq_true, if_false, Option.getD_some, hE, true_and]
      rfl
end Go.Proofs.YtahdfjmdoljgiaaDoor
