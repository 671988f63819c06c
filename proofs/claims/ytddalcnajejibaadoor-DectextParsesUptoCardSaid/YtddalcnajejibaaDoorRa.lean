/- Dectext: Ra; written by mk03.py. -/
import Derived.Test.YtddalcnajejibaaDoorAmV
import Derived.Test.YtddalcnajejibaaDoorAmHd
import Derived.WalkKit
import Derived.Lib.TrimByte
import Derived.Lib.Bytealg
import Derived.Lib.Strings
namespace Go.Proofs.YtddalcnajejibaaDoor
open Go Go.Am
set_option maxRecDepth 100000
set_option maxHeartbeats 1000000
set_option linter.unusedVariables false
set_option linter.unusedSimpArgs false
theorem quietText : ∀ g, Q g = true → ∃ fn, HasText Tryd.prog g fn := by
  intro g hg
  have : g ∈ quiet := by simpa [Q] using hg
  simp only [quiet, List.mem_cons, List.not_mem_nil, or_false] at this
  rcases this with rfl | rfl | rfl | rfl | rfl | rfl | rfl | rfl | rfl | rfl | rfl | rfl | rfl | rfl | rfl | rfl | rfl | rfl | rfl | rfl | rfl | rfl | rfl | rfl | rfl | rfl | rfl | rfl | rfl | rfl | rfl | rfl | rfl | rfl | rfl | rfl | rfl | rfl | rfl | rfl | rfl | rfl | rfl | rfl | rfl | rfl | rfl | rfl | rfl | rfl | rfl | rfl | rfl | rfl | rfl | rfl | rfl | rfl | rfl | rfl | rfl | rfl | rfl | rfl | rfl | rfl | rfl
  · exact ⟨_, Tryd.func8, rfl, by decide⟩
  · exact ⟨_, Tryd.func9, rfl, by decide⟩
  · exact ⟨_, Tryd.func10, rfl, by decide⟩
  · exact ⟨_, Tryd.func11, rfl, by decide⟩
  · exact ⟨_, Tryd.func12, rfl, by decide⟩
  · exact ⟨_, Tryd.func13, rfl, by decide⟩
  · exact ⟨_, Tryd.func14, rfl, by decide⟩
  · exact ⟨_, Tryd.func15, rfl, by decide⟩
  · exact ⟨_, Tryd.func16, rfl, by decide⟩
  · exact ⟨_, Tryd.func17, rfl, by decide⟩
  · exact ⟨_, Tryd.func18, rfl, by decide⟩
  · exact ⟨_, Tryd.func19, rfl, by decide⟩
  · exact ⟨_, Tryd.func20, rfl, by decide⟩
  · exact ⟨_, Tryd.func21, rfl, by decide⟩
  · exact ⟨_, Tryd.func22, rfl, by decide⟩
  · exact ⟨_, Tryd.func23, rfl, by decide⟩
  · exact ⟨_, Tryd.func24, rfl, by decide⟩
  · exact ⟨_, Tryd.func25, rfl, by decide⟩
  · exact ⟨_, Tryd.func26, rfl, by decide⟩
  · exact ⟨_, Tryd.func27, rfl, by decide⟩
  · exact ⟨_, Tryd.func28, rfl, by decide⟩
  · exact ⟨_, Tryd.func29, rfl, by decide⟩
  · exact ⟨_, Tryd.func30, rfl, by decide⟩
  · exact ⟨_, Tryd.func31, rfl, by decide⟩
  · exact ⟨_, Tryd.func32, rfl, by decide⟩
  · exact ⟨_, Tryd.func33, rfl, by decide⟩
  · exact ⟨_, Tryd.func34, rfl, by decide⟩
  · exact ⟨_, Tryd.func35, rfl, by decide⟩
  · exact ⟨_, Tryd.func36, rfl, by decide⟩
  · exact ⟨_, Tryd.func37, rfl, by decide⟩
  · exact ⟨_, Tryd.func38, rfl, by decide⟩
  · exact ⟨_, Tryd.func39, rfl, by decide⟩
  · exact ⟨_, Tryd.func40, rfl, by decide⟩
  · exact ⟨_, Tryd.func41, rfl, by decide⟩
  · exact ⟨_, Tryd.func42, rfl, by decide⟩
  · exact ⟨_, Tryd.func43, rfl, by decide⟩
  · exact ⟨_, Tryd.func44, rfl, by decide⟩
  · exact ⟨_, Tryd.func45, rfl, by decide⟩
  · exact ⟨_, Tryd.func50, rfl, by decide⟩
  · exact ⟨_, Tryd.func51, rfl, by decide⟩
  · exact ⟨_, Tryd.func52, rfl, by decide⟩
  · exact ⟨_, Tryd.func53, rfl, by decide⟩
  · exact ⟨_, Tryd.func57, rfl, by decide⟩
  · exact ⟨_, Tryd.func58, rfl, by decide⟩
  · exact ⟨_, Tryd.func59, rfl, by decide⟩
  · exact ⟨_, Tryd.func62, rfl, by decide⟩
  · exact ⟨_, Tryd.func63, rfl, by decide⟩
  · exact ⟨_, Tryd.func64, rfl, by decide⟩
  · exact ⟨_, Tryd.func65, rfl, by decide⟩
  · exact ⟨_, Tryd.func66, rfl, by decide⟩
  · exact ⟨_, Tryd.func67, rfl, by decide⟩
  · exact ⟨_, Tryd.func68, rfl, by decide⟩
  · exact ⟨_, Tryd.func69, rfl, by decide⟩
  · exact ⟨_, Tryd.func70, rfl, by decide⟩
  · exact ⟨_, Tryd.func71, rfl, by decide⟩
  · exact ⟨_, Tryd.func73, rfl, by decide⟩
  · exact ⟨_, Tryd.func78, rfl, by decide⟩
  · exact ⟨_, Tryd.func82, rfl, by decide⟩
  · exact ⟨_, Tryd.func84, rfl, by decide⟩
  · exact ⟨_, Tryd.func85, rfl, by decide⟩
  · exact ⟨_, Tryd.func86, rfl, by decide⟩
  · exact ⟨_, Tryd.func87, rfl, by decide⟩
  · exact ⟨_, Tryd.func88, rfl, by decide⟩
  · exact ⟨_, Tryd.func89, rfl, by decide⟩
  · exact ⟨_, Tryd.func98, rfl, by decide⟩
  · exact ⟨_, Tryd.func99, rfl, by decide⟩
  · exact ⟨_, Tryd.func100, rfl, by decide⟩
theorem mixed : Tryd.prog.follows .mixedOrders = true := by kernel_rfl
/-- Letters as cells. -/
def bv (l : List UInt8) : List AV := l.map fun c => .int .u8 c.toNat
def kdI (_ : Nat) : Kd := .one (.int .i64)
theorem bv_len (l : List UInt8) : (bv l).length = l.length := by simp [bv]
theorem bv_app (l : List UInt8) (c : UInt8) : bv (l ++ [c]) = bv l ++ [.int .u8 c.toNat] := by simp [bv]
theorem bv_closed (l : List UInt8) : AV.refsL (fun _ => false) (fun _ => 0) (bv l) = true := by
  rw [refsL_eq, List.all_eq_true]
  intro x hx
  simp only [bv, List.mem_map] at hx
  obtain ⟨c, _, rfl⟩ := hx
  rfl
theorem bv_ocl (l : List UInt8) : objClosed (.row 5 1 (bv l)) = true := bv_closed l
theorem one_ocl (l : List UInt8) (c : Int) : objClosed (.row 5 1 (bv l ++ [.int .u8 c])) = true := by
  show AV.refsL _ _ _ = true
  rw [refsL_eq, List.all_append, ← refsL_eq, bv_closed]
  rfl
theorem bv_back : ∀ l : List UInt8, (bv l).mapM byteOfA = some l
  | [] => rfl
  | c :: l => by
    have hc : byteOfA (.int .u8 c.toNat) = some c := by simp [byteOfA]
    have e : bv (c :: l) = .int .u8 c.toNat :: bv l := rfl
    rw [e, List.mapM_cons, hc, bv_back l]
    rfl
theorem strOf_bv (h : AHeap) (l : List UInt8) (k : Nat) (hk : cellsAt h k = some (bv l)) : strOf h k 0 l.length = some l := by
  have hb : (bv l).mapM byteOfA = some l := bv_back l
  unfold strOf
  rw [hk, Option.bind_some, if_pos (by rw [bv_len]; omega), List.drop_zero, List.take_of_length_le (by rw [bv_len]; omega), hb]
theorem u8_back (c : UInt8) : (c.toNat : Int).toNat.toUInt8 = c := by simp
theorem ne_u8 (c : UInt8) (k : UInt8) : (((c.toNat : Nat) : Int) != ((k.toNat : Nat) : Int)) = (c != k) := by
  rw [Bool.eq_iff_iff]
  simp only [bne_iff_ne, ne_eq, Int.natCast_inj, UInt8.toNat_inj]
noncomputable def sLive : List AV → AHeap → Option AV := fun vs _ => @ite _ (vs = []) (Classical.propDecidable _) (some (.bool true)) none
def u64B (a : Int) : Bool := decide (0 ≤ a) && decide (a < 18446744073709551616)
def sFrom : List AV → Option AV
  | [.int .u64 a] => some (.agg [.int .u64 a, .int .u64 0, .int .u64 0, .int .u64 0])
  | _ => none
/-- A number's limbs. -/
def limbs (n : Int) : List AV := [.int .u64 (n % 18446744073709551616), .int .u64 (n / 18446744073709551616 % 18446744073709551616), .int .u64 (n / 18446744073709551616 / 18446744073709551616 % 18446744073709551616), .int .u64 (n / 18446744073709551616 / 18446744073709551616 / 18446744073709551616 % 18446744073709551616)]
def num4 (a b c d : Int) : Int := a + 18446744073709551616 * (b + 18446744073709551616 * (c + 18446744073709551616 * d))
def u64s (a b c d : Int) : Bool := u64B a && u64B b && u64B c && u64B d
def sAdd : List AV → Option AV
  | [.agg [.int .u64 a0, .int .u64 a1, .int .u64 a2, .int .u64 a3], .agg [.int .u64 b0, .int .u64 b1, .int .u64 b2, .int .u64 b3]] => if u64s a0 a1 a2 a3 && u64s b0 b1 b2 b3 then
      some (.tup [.agg (limbs (num4 a0 a1 a2 a3 + num4 b0 b1 b2 b3)), .bool (decide (num4 a0 a1 a2 a3 + num4 b0 b1 b2 b3 ≥ 115792089237316195423570985008687907853269984665640564039457584007913129639936))]) else none
  | _ => none
def sMul : List AV → Option AV
  | [.agg [.int .u64 a0, .int .u64 a1, .int .u64 a2, .int .u64 a3], .agg [.int .u64 b0, .int .u64 b1, .int .u64 b2, .int .u64 b3]] => if u64s a0 a1 a2 a3 && u64s b0 b1 b2 b3 then
      some (.tup [.agg (limbs (num4 a0 a1 a2 a3 * num4 b0 b1 b2 b3 / 115792089237316195423570985008687907853269984665640564039457584007913129639936)), .agg (limbs (num4 a0 a1 a2 a3 * num4 b0 b1 b2 b3))]) else none
  | _ => none
def i64 : Rs1 := .one (.int .u64)
def ag4 : Rs1 := .agg [.int .u64, .int .u64, .int .u64, .int .u64]
def kdU (_ : Nat) : Kd := .one (.int .u64)
def CL0 : Cfg := tbC Q [] (fun _ => false) kdU
theorem fdiv32 (x : Int) : Int.fdiv x (2 ^ min 32 (IntKind.bits .u64)) = x / 4294967296 := by
  show Int.fdiv x (2 ^ 32) = _
  rw [Int.fdiv_eq_ediv_of_nonneg _ (by decide)]
  rfl
theorem mul_bd {a b : Int} (ha : 0 ≤ a) (ha2 : a < 4294967296) (hb : 0 ≤ b) (hb2 : b < 4294967296) : 0 ≤ a * b ∧ a * b ≤ 18446744065119617025 := by
  refine ⟨Int.mul_nonneg ha hb, ?_⟩
  calc a * b ≤ 4294967295 * 4294967295 := Int.mul_le_mul (by omega) (by omega) hb (by decide)
    _ = 18446744065119617025 := by decide
theorem wrap64 {x : Int} (h0 : 0 ≤ x) (h1 : x < 18446744073709551616) : IntKind.wrap .u64 x = x := by rw [IntKind.wrap_u64]; omega

theorem limbs_of {l0 l1 l2 l3 c : Int} (h0 : 0 ≤ l0) (g0 : l0 < 18446744073709551616) (h1 : 0 ≤ l1) (g1 : l1 < 18446744073709551616) (h2 : 0 ≤ l2) (g2 : l2 < 18446744073709551616) (h3 : 0 ≤ l3) (g3 : l3 < 18446744073709551616) : limbs (l0 + 18446744073709551616 * (l1 + 18446744073709551616 * (l2 + 18446744073709551616 * (l3 + 18446744073709551616 * c)))) = [.int .u64 l0, .int .u64 l1, .int .u64 l2, .int .u64 l3] := by
  unfold limbs
  have d1 : (l0 + 18446744073709551616 * (l1 + 18446744073709551616 * (l2 + 18446744073709551616 * (l3 + 18446744073709551616 * c)))) / 18446744073709551616 = l1 + 18446744073709551616 * (l2 + 18446744073709551616 * (l3 + 18446744073709551616 * c)) := by omega
  have d2 : (l1 + 18446744073709551616 * (l2 + 18446744073709551616 * (l3 + 18446744073709551616 * c))) / 18446744073709551616 = l2 + 18446744073709551616 * (l3 + 18446744073709551616 * c) := by omega
  have d3 : (l2 + 18446744073709551616 * (l3 + 18446744073709551616 * c)) / 18446744073709551616 = l3 + 18446744073709551616 * c := by omega
  rw [d1, d2, d3]
  have m0 : (l0 + 18446744073709551616 * (l1 + 18446744073709551616 * (l2 + 18446744073709551616 * (l3 + 18446744073709551616 * c)))) % 18446744073709551616 = l0 := by omega
  have m1 : (l1 + 18446744073709551616 * (l2 + 18446744073709551616 * (l3 + 18446744073709551616 * c))) % 18446744073709551616 = l1 := by omega
  have m2 : (l2 + 18446744073709551616 * (l3 + 18446744073709551616 * c)) % 18446744073709551616 = l2 := by omega
  have m3 : (l3 + 18446744073709551616 * c) % 18446744073709551616 = l3 := by omega
  rw [m0, m1, m2, m3]
end Go.Proofs.YtddalcnajejibaaDoor
