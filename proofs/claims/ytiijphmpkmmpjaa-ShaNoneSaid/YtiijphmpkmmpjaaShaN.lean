import Derived.Test.YtiijphmpkmmpjaaShaM
import Derived.Test.YtiijphmpkmmpjaaAmY
namespace Go.Proofs.Ytiijphmpkmmpjaa
open Go Go.Am
set_option maxRecDepth 100000
set_option linter.unusedVariables false
set_option linter.unusedSimpArgs false

def begunS : List AV → Option AV
  | [] => some (.bool true)
  | _ => none
theorem begun_okS : QuietOK Try.prog 9 fun args _ => begunS args := begun_ok
def S3 : Specs := mkS Q (fun g => match g with
  | 9 => some fun args _ => begunS args
  | 10 => some fun args _ => blockS args
  | 11 => some fun args _ => blockS args
  | _ => none) (fun _ => none)
theorem S3_ok : S3.OK Try.prog := mkS_ok quietText (fun g s _ h => by
  split at h
  · cases h; exact begun_okS
  · cases h; exact block_ok
  · cases h; exact rblock_ok
  · cases h) (fun _ _ h => by cases h)
theorem S3_q : ∀ g, (S3.q g).isSome = Q g := fun g => mkS_isSome g
theorem eq8 (f g : Nat → Int) : binA Try.prog .eql 25 (.agg (ints .u32 8 f)) (.agg (ints .u32 8 g)) = some (.bool ((List.range 8).foldr (fun i b => f i == g i && b) true)) := by kernel_rfl
theorem eq8_same (f : Nat → Int) : binA Try.prog .eql 25 (.agg (ints .u32 8 f)) (.agg (ints .u32 8 f)) = some (.bool true) := by
  rw [eq8]
  simp [List.range, List.range.loop]
def sub : PC → Nat → PC
  | .seq a b, 0 => a
  | .seq a b, n + 1 => sub b n
  | c, _ => c
def opsOf : PC → List PO
  | .ops _ _ l => l
  | _ => []
theorem step_pureT {P : Program} {S : Specs} {s d : Nat} {dst : Option Tmp} {ri : RI} {st : St} {v : AV} (hp : ri.isPure = true) (hd : st.1[d]? = some (.bool true)) (hv : pureR P st.2 (evalOperand st.1) ri = some v) : stepR P S s ⟨dst, ri, some (some d, true)⟩ st = some (put dst v st.1, st.2) := by
  simp only [stepR, wantedR, hd, BEq.rfl, hp, if_true, hv, Option.map_some]
def H3 (x y : AObj) (s b : List AV) : AHeap := [x, y, .row 25 8 s, .row 26 64 b]
def z3 (k : IntKind) (n : Nat) : List AV := ints k n fun _ => 0
abbrev bl (f g : Nat → Int) : AV := .agg (ints .u32 8 (blockI (dec (ints .u32 8 f)) (wordsW (dec (ints .u8 64 g)))))

theorem law_run (x y : AObj) (p0 p1 : Option (Nat × Nat)) (l0 l1 : Nat) (c0 c1 : ACap) (src0 src1 : Nat × List AV)
    (h0 : sourceA [x, y, .row 25 8 (z3 .u32 8), .row 26 64 (z3 .u8 64)] 1 (.sl p0 l0 c0) = some src0) (i0 : src0.2.all (isInt .u32) = true) (n0 : src0.2.length = src0.1)
    (h1 : ∀ s, sourceA [x, y, .row 25 8 s, .row 26 64 (z3 .u8 64)] 1 (.sl p1 l1 c1) = some src1) (i1 : src1.2.all (isInt .u8) = true) (n1 : src1.2.length = src1.1) :
    ∃ h, runF Try.prog S3 (fun _ => []) 100 p3 [.sl p0 l0 c0, .sl p1 l1 c1] [x, y] = some (.bool true, h) := by
  obtain ⟨A0, hA0⟩ : ∃ A0 : AV, A0 = .sl p0 l0 c0 := ⟨_, rfl⟩
  obtain ⟨A1, hA1⟩ : ∃ A1 : AV, A1 = .sl p1 l1 c1 := ⟨_, rfl⟩
  have one : ∀ k (l : List AV), l.all (isInt k) = true → l.all AV.one = true := fun k l h => by
    rw [List.all_eq_true] at h ⊢
    intro v hv
    have := h v hv
    cases v <;> first | rfl | cases this
  obtain ⟨cs0, hc0⟩ : ∃ cs0, cs0 = spliceA (z3 .u32 8) 0 (src0.2.take (min src0.1 8 * 1)) := ⟨_, rfl⟩
  have hi0 : isInts .u32 8 cs0 = true := by
    rw [hc0]
    refine splice_ints (ints_isInts _ _ _) ?_ (by simp; omega)
    rw [List.all_eq_true] at i0 ⊢
    exact fun v hv => i0 v (List.mem_of_mem_take hv)
  obtain ⟨cs1, hc1⟩ : ∃ cs1, cs1 = spliceA (z3 .u8 64) 0 (src1.2.take (min src1.1 64 * 1)) := ⟨_, rfl⟩
  have hi1 : isInts .u8 64 cs1 = true := by
    rw [hc1]
    refine splice_ints (ints_isInts _ _ _) ?_ (by simp; omega)
    rw [List.all_eq_true] at i1 ⊢
    exact fun v hv => i1 v (List.mem_of_mem_take hv)
  have e0 := ints_dec hi0
  have e1 := ints_dec hi1
  generalize dec cs0 = f at e0
  generalize dec cs1 = g at e1
  obtain ⟨m0, hm0⟩ : ∃ m0 : AV, m0 = .int .i64 ((min src0.1 8 : Nat) : Int) := ⟨_, rfl⟩
  obtain ⟨m1, hm1⟩ : ∃ m1 : AV, m1 = .int .i64 ((min src1.1 64 : Nat) : Int) := ⟨_, rfl⟩
  have c3 : evP Try.prog S3 (fun _ => []) 90 (.inl (sub p3.body 3)) ([.sl p0 l0 c0, .sl p1 l1 c1, .any, .any, .bool false, .ptr (some (2, 0)), .ptr (some (3, 0)), .any, .any, .any, .any, .any, .any, .any, .any, .any, .any, .any, .any, .any, .any, .any, .any], H3 x y (z3 .u32 8) (z3 .u8 64)) = some (.normal, ([.sl p0 l0 c0, .sl p1 l1 c1, .any, .any, .bool false, .ptr (some (2, 0)), .ptr (some (3, 0)), .sl (some (2, 0)) 8 (.fix 8), .sl p0 l0 c0, .int .i64 ((min src0.1 8 : Nat) : Int), .any, .any, .any, .any, .any, .any, .any, .any, .any, .any, .any, .any, .any], H3 x y (ints .u32 8 f) (z3 .u8 64))) := by
    refine region_run (n := 89) (ops_cons (st1 := ([.sl p0 l0 c0, .sl p1 l1 c1, .any, .any, .bool false, .ptr (some (2, 0)), .ptr (some (3, 0)), .sl (some (2, 0)) 8 (.fix 8), .any, .any, .any, .any, .any, .any, .any, .any, .any, .any, .any, .any, .any, .any, .any], H3 x y (z3 .u32 8) (z3 .u8 64))) (by kernel_rfl) (ops_cons (st1 := ([.sl p0 l0 c0, .sl p1 l1 c1, .any, .any, .bool false, .ptr (some (2, 0)), .ptr (some (3, 0)), .sl (some (2, 0)) 8 (.fix 8), .sl p0 l0 c0, .any, .any, .any, .any, .any, .any, .any, .any, .any, .any, .any, .any, .any, .any], H3 x y (z3 .u32 8) (z3 .u8 64))) (by kernel_rfl) (ops_cons (step_copy (k := 2) (o := 0) (n := 8) (c := .fix 8) (t := 25) (sz := 8) (cs := z3 .u32 8) (v := .sl p0 l0 c0) (src := src0) rfl rfl h0 rfl (one _ _ i0) (by simp [z3, ints_length]; omega)) ?_)))
    rw [← hc0, e0]
    rfl
  have c4 : evP Try.prog S3 (fun _ => []) 90 (.inl (sub p3.body 4)) ([.sl p0 l0 c0, .sl p1 l1 c1, .any, .any, .bool false, .ptr (some (2, 0)), .ptr (some (3, 0)), .sl (some (2, 0)) 8 (.fix 8), .sl p0 l0 c0, .int .i64 ((min src0.1 8 : Nat) : Int), .any, .any, .any, .any, .any, .any, .any, .any, .any, .any, .any, .any, .any], H3 x y (ints .u32 8 f) (z3 .u8 64)) = some (.normal, ([.sl p0 l0 c0, .sl p1 l1 c1, .any, .any, .bool false, .ptr (some (2, 0)), .ptr (some (3, 0)), .sl (some (2, 0)) 8 (.fix 8), .sl p0 l0 c0, .int .i64 ((min src0.1 8 : Nat) : Int), .sl (some (3, 0)) 64 (.fix 64), .sl p1 l1 c1, .int .i64 ((min src1.1 64 : Nat) : Int), .any, .any, .any, .any, .any, .any, .any, .any, .any, .any], H3 x y (ints .u32 8 f) (ints .u8 64 g))) := by
    refine region_run (n := 89) (ops_cons (st1 := ([.sl p0 l0 c0, .sl p1 l1 c1, .any, .any, .bool false, .ptr (some (2, 0)), .ptr (some (3, 0)), .sl (some (2, 0)) 8 (.fix 8), .sl p0 l0 c0, .int .i64 ((min src0.1 8 : Nat) : Int), .sl (some (3, 0)) 64 (.fix 64), .any, .any, .any, .any, .any, .any, .any, .any, .any, .any, .any, .any], H3 x y (ints .u32 8 f) (z3 .u8 64))) (by kernel_rfl) (ops_cons (st1 := ([.sl p0 l0 c0, .sl p1 l1 c1, .any, .any, .bool false, .ptr (some (2, 0)), .ptr (some (3, 0)), .sl (some (2, 0)) 8 (.fix 8), .sl p0 l0 c0, .int .i64 ((min src0.1 8 : Nat) : Int), .sl (some (3, 0)) 64 (.fix 64), .sl p1 l1 c1, .any, .any, .any, .any, .any, .any, .any, .any, .any, .any, .any], H3 x y (ints .u32 8 f) (z3 .u8 64))) (by kernel_rfl) (ops_cons (step_copy (k := 3) (o := 0) (n := 64) (c := .fix 64) (t := 26) (sz := 64) (cs := z3 .u8 64) (v := .sl p1 l1 c1) (src := src1) rfl rfl (h1 _) rfl (one _ _ i1) (by simp [z3, ints_length]; omega)) ?_)))
    rw [← hc1, e1]
    rfl
  have c5 : evP Try.prog S3 (fun _ => []) 90 (.inl (sub p3.body 5)) ([.sl p0 l0 c0, .sl p1 l1 c1, .any, .any, .bool false, .ptr (some (2, 0)), .ptr (some (3, 0)), .sl (some (2, 0)) 8 (.fix 8), .sl p0 l0 c0, m0, .sl (some (3, 0)) 64 (.fix 64), .sl p1 l1 c1, m1, .any, .any, .any, .any, .any, .any, .any, .any, .any, .any], H3 x y (ints .u32 8 f) (ints .u8 64 g)) = some (.normal, ([.sl p0 l0 c0, .sl p1 l1 c1, .any, .any, .bool true, .ptr (some (2, 0)), .ptr (some (3, 0)), .sl (some (2, 0)) 8 (.fix 8), .sl p0 l0 c0, m0, .sl (some (3, 0)) 64 (.fix 64), .sl p1 l1 c1, m1, .bool true, .bool true, .agg (ints .u32 8 f), .agg (ints .u8 64 g), bl f g, .agg (ints .u32 8 f), .agg (ints .u8 64 g), bl f g, .bool true, .bool true], H3 x y (ints .u32 8 f) (ints .u8 64 g))) := by
    have r1 : evalOpsR Try.prog S3 4 (opsOf (sub p3.body 5) |>.take 8) ([.sl p0 l0 c0, .sl p1 l1 c1, .any, .any, .bool false, .ptr (some (2, 0)), .ptr (some (3, 0)), .sl (some (2, 0)) 8 (.fix 8), .sl p0 l0 c0, m0, .sl (some (3, 0)) 64 (.fix 64), .sl p1 l1 c1, m1, .any, .any, .any, .any, .any, .any, .any, .any, .any, .any], H3 x y (ints .u32 8 f) (ints .u8 64 g)) = some ([.sl p0 l0 c0, .sl p1 l1 c1, .any, .any, .bool false, .ptr (some (2, 0)), .ptr (some (3, 0)), .sl (some (2, 0)) 8 (.fix 8), .sl p0 l0 c0, m0, .sl (some (3, 0)) 64 (.fix 64), .sl p1 l1 c1, m1, .bool true, .bool true, .agg (ints .u32 8 f), .agg (ints .u8 64 g), bl f g, .agg (ints .u32 8 f), .agg (ints .u8 64 g), bl f g, .any, .any], H3 x y (ints .u32 8 f) (ints .u8 64 g)) := by kernel_rfl
    refine region_run (n := 89) ?_
    show evalOpsR Try.prog S3 4 ((opsOf (sub p3.body 5) |>.take 8) ++ (opsOf (sub p3.body 5) |>.drop 8)) _ = _
    refine ops_split r1 (s' := 4) rfl ?_
    refine ops_cons (o := ⟨some 21, .cmp false 25 (.tmp 17) (.tmp 20), some (some 14, true)⟩) (st1 := ([.sl p0 l0 c0, .sl p1 l1 c1, .any, .any, .bool false, .ptr (some (2, 0)), .ptr (some (3, 0)), .sl (some (2, 0)) 8 (.fix 8), .sl p0 l0 c0, m0, .sl (some (3, 0)) 64 (.fix 64), .sl p1 l1 c1, m1, .bool true, .bool true, .agg (ints .u32 8 f), .agg (ints .u8 64 g), bl f g, .agg (ints .u32 8 f), .agg (ints .u8 64 g), bl f g, .bool true, .any], H3 x y (ints .u32 8 f) (ints .u8 64 g))) ?_ (by kernel_rfl)
    exact step_pureT (d := 14) rfl rfl (show binA Try.prog .eql 25 (bl f g) (bl f g) = some (.bool true) from eq8_same _)
  rw [← hm0] at c3 c4
  rw [← hm1] at c4
  have fin : evP Try.prog S3 (fun _ => []) 100 (.inl p3.body) ([.sl p0 l0 c0, .sl p1 l1 c1] ++ List.replicate (p3.ntmps - [AV.sl p0 l0 c0, .sl p1 l1 c1].length) .any, [x, y]) = some (.ret, ([.sl p0 l0 c0, .sl p1 l1 c1, .any, .any, .bool true, .ptr (some (2, 0)), .ptr (some (3, 0)), .sl (some (2, 0)) 8 (.fix 8), .sl p0 l0 c0, m0, .sl (some (3, 0)) 64 (.fix 64), .sl p1 l1 c1, m1, .bool true, .bool true, .agg (ints .u32 8 f), .agg (ints .u8 64 g), bl f g, .agg (ints .u32 8 f), .agg (ints .u8 64 g), bl f g, .bool true, .bool true], H3 x y (ints .u32 8 f) (ints .u8 64 g))) := by
    refine seq_run (st1 := ([.sl p0 l0 c0, .sl p1 l1 c1, .any, .any, .bool false, .any, .any, .any, .any, .any, .any, .any, .any, .any, .any, .any, .any, .any, .any, .any, .any, .any, .any], [x, y])) (by kernel_rfl) ?_
    refine seq_run (st1 := ([.sl p0 l0 c0, .sl p1 l1 c1, .any, .any, .bool false, .ptr (some (2, 0)), .any, .any, .any, .any, .any, .any, .any, .any, .any, .any, .any, .any, .any, .any, .any, .any, .any], [x, y, .row 25 8 (z3 .u32 8)])) (by kernel_rfl) ?_
    refine seq_run (st1 := ([.sl p0 l0 c0, .sl p1 l1 c1, .any, .any, .bool false, .ptr (some (2, 0)), .ptr (some (3, 0)), .any, .any, .any, .any, .any, .any, .any, .any, .any, .any, .any, .any, .any, .any, .any, .any], H3 x y (z3 .u32 8) (z3 .u8 64))) (by kernel_rfl) ?_
    refine seq_run (evP_le c3 (by omega)) ?_
    refine seq_run (evP_le c4 (by omega)) ?_
    refine seq_run (evP_le c5 (by omega)) ?_
    rfl
  exact ⟨_, runF_ret fin (by kernel_rfl)⟩
end Go.Proofs.Ytiijphmpkmmpjaa
