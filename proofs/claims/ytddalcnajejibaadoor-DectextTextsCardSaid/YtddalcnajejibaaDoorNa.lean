/- Written by merging: Ra Rb Rc Rd Re Rh Rj Rk Rl Rm Rn Rr. -/
import Derived.Test.YtddalcnajejibaaDoorAmV
import Derived.Test.YtddalcnajejibaaDoorAmHd
import Derived.Test.YtddalcnajejibaaDoorShelf
import Derived.WalkKit
import Derived.Lib.TrimByte
import Derived.Lib.Bytealg
import Derived.Lib.Strings
namespace Go.Proofs.YtddalcnajejibaaDoor
open Go Go.Am Go.RowKit
set_option maxRecDepth 100000
set_option maxHeartbeats 1000000
set_option linter.unusedVariables false
set_option linter.unusedSimpArgs false
theorem quietText : ∀ g, Q g = true → ∃ fn, HasText Tryd.prog g fn := by
  intro g hg
  have : g ∈ quiet := by simpa [Q] using hg
  simp only [quiet, List.mem_cons, List.not_mem_nil, or_false] at this
  rcases this with rfl | rfl | rfl | rfl | rfl | rfl | rfl | rfl | rfl | rfl | rfl | rfl | rfl | rfl | rfl | rfl | rfl | rfl | rfl | rfl | rfl | rfl | rfl | rfl | rfl | rfl | rfl | rfl | rfl | rfl | rfl | rfl | rfl | rfl | rfl | rfl | rfl | rfl | rfl | rfl | rfl | rfl | rfl | rfl | rfl | rfl | rfl | rfl | rfl | rfl | rfl | rfl | rfl | rfl | rfl | rfl | rfl | rfl | rfl | rfl | rfl | rfl | rfl | rfl | rfl | rfl | rfl
  · exact ⟨_, Tryd.func8, rfl, by decide⟩
  · exact ⟨_, Tryd.func9, rfl, by decide⟩
  · exact ⟨_, Tryd.func10, rfl, by decide⟩
  · exact ⟨_, Tryd.func11, rfl, by decide⟩
  · exact ⟨_, Tryd.func12, rfl, by decide⟩
  · exact ⟨_, Tryd.func13, rfl, by decide⟩
  · exact ⟨_, Tryd.func14, rfl, by decide⟩
  · exact ⟨_, Tryd.func15, rfl, by decide⟩
  · exact ⟨_, Tryd.func16, rfl, by decide⟩
  · exact ⟨_, Tryd.func17, rfl, by decide⟩
  · exact ⟨_, Tryd.func18, rfl, by decide⟩
  · exact ⟨_, Tryd.func19, rfl, by decide⟩
  · exact ⟨_, Tryd.func20, rfl, by decide⟩
  · exact ⟨_, Tryd.func21, rfl, by decide⟩
  · exact ⟨_, Tryd.func22, rfl, by decide⟩
  · exact ⟨_, Tryd.func23, rfl, by decide⟩
  · exact ⟨_, Tryd.func24, rfl, by decide⟩
  · exact ⟨_, Tryd.func25, rfl, by decide⟩
  · exact ⟨_, Tryd.func26, rfl, by decide⟩
  · exact ⟨_, Tryd.func27, rfl, by decide⟩
  · exact ⟨_, Tryd.func28, rfl, by decide⟩
  · exact ⟨_, Tryd.func29, rfl, by decide⟩
  · exact ⟨_, Tryd.func30, rfl, by decide⟩
  · exact ⟨_, Tryd.func31, rfl, by decide⟩
  · exact ⟨_, Tryd.func32, rfl, by decide⟩
  · exact ⟨_, Tryd.func33, rfl, by decide⟩
  · exact ⟨_, Tryd.func34, rfl, by decide⟩
  · exact ⟨_, Tryd.func35, rfl, by decide⟩
  · exact ⟨_, Tryd.func36, rfl, by decide⟩
  · exact ⟨_, Tryd.func37, rfl, by decide⟩
  · exact ⟨_, Tryd.func38, rfl, by decide⟩
  · exact ⟨_, Tryd.func39, rfl, by decide⟩
  · exact ⟨_, Tryd.func40, rfl, by decide⟩
  · exact ⟨_, Tryd.func41, rfl, by decide⟩
  · exact ⟨_, Tryd.func42, rfl, by decide⟩
  · exact ⟨_, Tryd.func43, rfl, by decide⟩
  · exact ⟨_, Tryd.func44, rfl, by decide⟩
  · exact ⟨_, Tryd.func45, rfl, by decide⟩
  · exact ⟨_, Tryd.func50, rfl, by decide⟩
  · exact ⟨_, Tryd.func51, rfl, by decide⟩
  · exact ⟨_, Tryd.func52, rfl, by decide⟩
  · exact ⟨_, Tryd.func53, rfl, by decide⟩
  · exact ⟨_, Tryd.func57, rfl, by decide⟩
  · exact ⟨_, Tryd.func58, rfl, by decide⟩
  · exact ⟨_, Tryd.func59, rfl, by decide⟩
  · exact ⟨_, Tryd.func62, rfl, by decide⟩
  · exact ⟨_, Tryd.func63, rfl, by decide⟩
  · exact ⟨_, Tryd.func64, rfl, by decide⟩
  · exact ⟨_, Tryd.func65, rfl, by decide⟩
  · exact ⟨_, Tryd.func66, rfl, by decide⟩
  · exact ⟨_, Tryd.func67, rfl, by decide⟩
  · exact ⟨_, Tryd.func68, rfl, by decide⟩
  · exact ⟨_, Tryd.func69, rfl, by decide⟩
  · exact ⟨_, Tryd.func70, rfl, by decide⟩
  · exact ⟨_, Tryd.func71, rfl, by decide⟩
  · exact ⟨_, Tryd.func73, rfl, by decide⟩
  · exact ⟨_, Tryd.func78, rfl, by decide⟩
  · exact ⟨_, Tryd.func82, rfl, by decide⟩
  · exact ⟨_, Tryd.func84, rfl, by decide⟩
  · exact ⟨_, Tryd.func85, rfl, by decide⟩
  · exact ⟨_, Tryd.func86, rfl, by decide⟩
  · exact ⟨_, Tryd.func87, rfl, by decide⟩
  · exact ⟨_, Tryd.func88, rfl, by decide⟩
  · exact ⟨_, Tryd.func89, rfl, by decide⟩
  · exact ⟨_, Tryd.func98, rfl, by decide⟩
  · exact ⟨_, Tryd.func99, rfl, by decide⟩
  · exact ⟨_, Tryd.func100, rfl, by decide⟩
theorem mixed : Tryd.prog.follows .mixedOrders = true := by kernel_rfl
/-- Letters as cells. -/
def bv (l : List UInt8) : List AV := l.map fun c => .int .u8 c.toNat
def kdI (_ : Nat) : Kd := .one (.int .i64)
theorem bv_len (l : List UInt8) : (bv l).length = l.length := by simp [bv]
theorem bv_app (l : List UInt8) (c : UInt8) : bv (l ++ [c]) = bv l ++ [.int .u8 c.toNat] := by simp [bv]
theorem bv_closed (l : List UInt8) : AV.refsL (fun _ => false) (fun _ => 0) (bv l) = true := by
  rw [refsL_eq, List.all_eq_true]
  intro x hx
  simp only [bv, List.mem_map] at hx
  obtain ⟨c, _, rfl⟩ := hx
  rfl
theorem bv_ocl (l : List UInt8) : objClosed (.row 5 1 (bv l)) = true := bv_closed l
theorem bv_back : ∀ l : List UInt8, (bv l).mapM byteOfA = some l
  | [] => rfl
  | c :: l => by
    have hc : byteOfA (.int .u8 c.toNat) = some c := by simp [byteOfA]
    have e : bv (c :: l) = .int .u8 c.toNat :: bv l := rfl
    rw [e, List.mapM_cons, hc, bv_back l]
    rfl
theorem strOf_bv (h : AHeap) (l : List UInt8) (k : Nat) (hk : cellsAt h k = some (bv l)) : strOf h k 0 l.length = some l := by
  have hb : (bv l).mapM byteOfA = some l := bv_back l
  unfold strOf
  rw [hk, Option.bind_some, if_pos (by rw [bv_len]; omega), List.drop_zero, List.take_of_length_le (by rw [bv_len]; omega), hb]
theorem ne_u8 (c : UInt8) (k : UInt8) : (((c.toNat : Nat) : Int) != ((k.toNat : Nat) : Int)) = (c != k) := by
  rw [Bool.eq_iff_iff]
  simp only [bne_iff_ne, ne_eq, Int.natCast_inj, UInt8.toNat_inj]
noncomputable def sLive : List AV → AHeap → Option AV := fun vs _ => @ite _ (vs = []) (Classical.propDecidable _) (some (.bool true)) none
def u64B (a : Int) : Bool := decide (0 ≤ a) && decide (a < 18446744073709551616)
def sFrom : List AV → Option AV
  | [.int .u64 a] => some (.agg [.int .u64 a, .int .u64 0, .int .u64 0, .int .u64 0])
  | _ => none
/-- A number's limbs. -/
def limbs (n : Int) : List AV := [.int .u64 (n % 18446744073709551616), .int .u64 (n / 18446744073709551616 % 18446744073709551616), .int .u64 (n / 18446744073709551616 / 18446744073709551616 % 18446744073709551616), .int .u64 (n / 18446744073709551616 / 18446744073709551616 / 18446744073709551616 % 18446744073709551616)]
def num4 (a b c d : Int) : Int := a + 18446744073709551616 * (b + 18446744073709551616 * (c + 18446744073709551616 * d))
def u64s (a b c d : Int) : Bool := u64B a && u64B b && u64B c && u64B d
def sAdd : List AV → Option AV
  | [.agg [.int .u64 a0, .int .u64 a1, .int .u64 a2, .int .u64 a3], .agg [.int .u64 b0, .int .u64 b1, .int .u64 b2, .int .u64 b3]] => if u64s a0 a1 a2 a3 && u64s b0 b1 b2 b3 then
      some (.tup [.agg (limbs (num4 a0 a1 a2 a3 + num4 b0 b1 b2 b3)), .bool (decide (num4 a0 a1 a2 a3 + num4 b0 b1 b2 b3 ≥ 115792089237316195423570985008687907853269984665640564039457584007913129639936))]) else none
  | _ => none
def sMul : List AV → Option AV
  | [.agg [.int .u64 a0, .int .u64 a1, .int .u64 a2, .int .u64 a3], .agg [.int .u64 b0, .int .u64 b1, .int .u64 b2, .int .u64 b3]] => if u64s a0 a1 a2 a3 && u64s b0 b1 b2 b3 then
      some (.tup [.agg (limbs (num4 a0 a1 a2 a3 * num4 b0 b1 b2 b3 / 115792089237316195423570985008687907853269984665640564039457584007913129639936)), .agg (limbs (num4 a0 a1 a2 a3 * num4 b0 b1 b2 b3))]) else none
  | _ => none
def i64 : Rs1 := .one (.int .u64)
def ag4 : Rs1 := .agg [.int .u64, .int .u64, .int .u64, .int .u64]
def kdU (_ : Nat) : Kd := .one (.int .u64)
def CL0 : Cfg := tbC Q [] (fun _ => false) kdU
theorem fdiv32 (x : Int) : Int.fdiv x (2 ^ min 32 (IntKind.bits .u64)) = x / 4294967296 := by
  show Int.fdiv x (2 ^ 32) = _
  rw [Int.fdiv_eq_ediv_of_nonneg _ (by decide)]
  rfl
theorem wrap64 {x : Int} (h0 : 0 ≤ x) (h1 : x < 18446744073709551616) : IntKind.wrap .u64 x = x := by rw [IntKind.wrap_u64]; omega
def d32 (a0 a1 a2 a3 : Int) : Nat → Int
  | 0 => a0 % 4294967296 | 1 => a0 / 4294967296 | 2 => a1 % 4294967296 | 3 => a1 / 4294967296
  | 4 => a2 % 4294967296 | 5 => a2 / 4294967296 | 6 => a3 % 4294967296 | 7 => a3 / 4294967296 | _ => 0
def sHalfR : List AV → Option AV
  | [.agg [.int .u64 a0, .int .u64 a1, .int .u64 a2, .int .u64 a3], .int .i64 i] => if u64s a0 a1 a2 a3 && decide (0 ≤ i) && decide (i < 8) then some (.int .u64 (d32 a0 a1 a2 a3 i.toNat)) else none
  | _ => none
def z4 : AObj := .row 24 4 [.int .u64 0, .int .u64 0, .int .u64 0, .int .u64 0]
/-- Digits to the base 2^32. -/
def val : List Int → Int
  | [] => 0
  | x :: l => x + 4294967296 * val l
theorem v79_0 (a0 a1 a2 a3 : Int) (R : AV → AHeap → Prop) : (R (AV.int .u64 (Int.tmod (Int.fdiv a0 (2 ^ min 0 (IntKind.bits .u64))) 4294967296)) [AObj.row 24 4 [AV.int .u64 a0, AV.int .u64 a1, AV.int .u64 a2, AV.int .u64 a3]]) = (wpF Tryd.prog CL0 60 p79 [(.agg [.int .u64 a0, .int .u64 a1, .int .u64 a2, .int .u64 a3]), .int .i64 0] [] R) := by kernel_rfl
theorem v79_1 (a0 a1 a2 a3 : Int) (R : AV → AHeap → Prop) : (R (AV.int .u64 (Int.tmod (Int.fdiv a0 (2 ^ min 32 (IntKind.bits .u64))) 4294967296)) [AObj.row 24 4 [AV.int .u64 a0, AV.int .u64 a1, AV.int .u64 a2, AV.int .u64 a3]]) = (wpF Tryd.prog CL0 60 p79 [(.agg [.int .u64 a0, .int .u64 a1, .int .u64 a2, .int .u64 a3]), .int .i64 1] [] R) := by kernel_rfl
theorem v79_2 (a0 a1 a2 a3 : Int) (R : AV → AHeap → Prop) : (R (AV.int .u64 (Int.tmod (Int.fdiv a1 (2 ^ min 0 (IntKind.bits .u64))) 4294967296)) [AObj.row 24 4 [AV.int .u64 a0, AV.int .u64 a1, AV.int .u64 a2, AV.int .u64 a3]]) = (wpF Tryd.prog CL0 60 p79 [(.agg [.int .u64 a0, .int .u64 a1, .int .u64 a2, .int .u64 a3]), .int .i64 2] [] R) := by kernel_rfl
theorem v79_3 (a0 a1 a2 a3 : Int) (R : AV → AHeap → Prop) : (R (AV.int .u64 (Int.tmod (Int.fdiv a1 (2 ^ min 32 (IntKind.bits .u64))) 4294967296)) [AObj.row 24 4 [AV.int .u64 a0, AV.int .u64 a1, AV.int .u64 a2, AV.int .u64 a3]]) = (wpF Tryd.prog CL0 60 p79 [(.agg [.int .u64 a0, .int .u64 a1, .int .u64 a2, .int .u64 a3]), .int .i64 3] [] R) := by kernel_rfl
theorem v79_4 (a0 a1 a2 a3 : Int) (R : AV → AHeap → Prop) : (R (AV.int .u64 (Int.tmod (Int.fdiv a2 (2 ^ min 0 (IntKind.bits .u64))) 4294967296)) [AObj.row 24 4 [AV.int .u64 a0, AV.int .u64 a1, AV.int .u64 a2, AV.int .u64 a3]]) = (wpF Tryd.prog CL0 60 p79 [(.agg [.int .u64 a0, .int .u64 a1, .int .u64 a2, .int .u64 a3]), .int .i64 4] [] R) := by kernel_rfl
theorem v79_5 (a0 a1 a2 a3 : Int) (R : AV → AHeap → Prop) : (R (AV.int .u64 (Int.tmod (Int.fdiv a2 (2 ^ min 32 (IntKind.bits .u64))) 4294967296)) [AObj.row 24 4 [AV.int .u64 a0, AV.int .u64 a1, AV.int .u64 a2, AV.int .u64 a3]]) = (wpF Tryd.prog CL0 60 p79 [(.agg [.int .u64 a0, .int .u64 a1, .int .u64 a2, .int .u64 a3]), .int .i64 5] [] R) := by kernel_rfl
theorem v79_6 (a0 a1 a2 a3 : Int) (R : AV → AHeap → Prop) : (R (AV.int .u64 (Int.tmod (Int.fdiv a3 (2 ^ min 0 (IntKind.bits .u64))) 4294967296)) [AObj.row 24 4 [AV.int .u64 a0, AV.int .u64 a1, AV.int .u64 a2, AV.int .u64 a3]]) = (wpF Tryd.prog CL0 60 p79 [(.agg [.int .u64 a0, .int .u64 a1, .int .u64 a2, .int .u64 a3]), .int .i64 6] [] R) := by kernel_rfl
theorem v79_7 (a0 a1 a2 a3 : Int) (R : AV → AHeap → Prop) : (R (AV.int .u64 (Int.tmod (Int.fdiv a3 (2 ^ min 32 (IntKind.bits .u64))) 4294967296)) [AObj.row 24 4 [AV.int .u64 a0, AV.int .u64 a1, AV.int .u64 a2, AV.int .u64 a3]]) = (wpF Tryd.prog CL0 60 p79 [(.agg [.int .u64 a0, .int .u64 a1, .int .u64 a2, .int .u64 a3]), .int .i64 7] [] R) := by kernel_rfl
theorem v70 (a : Int) (R : AV → AHeap → Prop) : (R (AV.agg [AV.int .u64 a, AV.int .u64 0, AV.int .u64 0, AV.int .u64 0]) [AObj.row 24 4 [AV.int .u64 a, AV.int .u64 0, AV.int .u64 0, AV.int .u64 0]]) = (wpF Tryd.prog CL0 60 p70 [.int .u64 a] [] R) := by kernel_rfl
theorem fdiv0 (x : Int) : Int.fdiv x (2 ^ min 0 (IntKind.bits .u64)) = x := by
  show Int.fdiv x 1 = x
  exact Int.fdiv_one x
theorem halfR_ok : QuietOK Tryd.prog 69 fun vs _ => sHalfR vs := quiet_plain ht79 fun args v h => by
  unfold sHalfR at h
  split at h
  · rename_i a0 a1 a2 a3 i
    split at h
    · rename_i hc
      cases h
      simp only [u64s, u64B, Bool.and_eq_true, decide_eq_true_eq] at hc
      obtain ⟨⟨⟨⟨⟨⟨p0, q0⟩, p1, q1⟩, p2, q2⟩, p3, q3⟩, hi⟩, hi2⟩ := hc
      refine ⟨rfl, rfl, ?_⟩
      have hS : (tbS Q []).OK Tryd.prog := tbS_ok quietText (by simp)
      have h8 : i = 0 ∨ i = 1 ∨ i = 2 ∨ i = 3 ∨ i = 4 ∨ i = 5 ∨ i = 6 ∨ i = 7 := by omega
      rcases h8 with rfl | rfl | rfl | rfl | rfl | rfl | rfl | rfl
      · obtain ⟨u, h', rfl, hsem⟩ := sem_vc mixed (C := CL0) hS (tbS_q _ _) (tbW_ok rfl) ht79 c79 (no_parts rfl) (v79_0 a0 a1 a2 a3 fun u _ => u = .int .u64 (d32 a0 a1 a2 a3 0)) (by
          simp only [fdiv0, fdiv32]
          rw [Int.tmod_eq_emod_of_nonneg (by omega)]
          have e : a0 % 4294967296 = a0 % 4294967296 := by omega
          rw [e]
          rfl)
        exact ⟨h', hsem⟩
      · obtain ⟨u, h', rfl, hsem⟩ := sem_vc mixed (C := CL0) hS (tbS_q _ _) (tbW_ok rfl) ht79 c79 (no_parts rfl) (v79_1 a0 a1 a2 a3 fun u _ => u = .int .u64 (d32 a0 a1 a2 a3 1)) (by
          simp only [fdiv0, fdiv32]
          rw [Int.tmod_eq_emod_of_nonneg (by omega)]
          have e : (a0 / 4294967296) % 4294967296 = a0 / 4294967296 := by omega
          rw [e]
          rfl)
        exact ⟨h', hsem⟩
      · obtain ⟨u, h', rfl, hsem⟩ := sem_vc mixed (C := CL0) hS (tbS_q _ _) (tbW_ok rfl) ht79 c79 (no_parts rfl) (v79_2 a0 a1 a2 a3 fun u _ => u = .int .u64 (d32 a0 a1 a2 a3 2)) (by
          simp only [fdiv0, fdiv32]
          rw [Int.tmod_eq_emod_of_nonneg (by omega)]
          have e : a1 % 4294967296 = a1 % 4294967296 := by omega
          rw [e]
          rfl)
        exact ⟨h', hsem⟩
      · obtain ⟨u, h', rfl, hsem⟩ := sem_vc mixed (C := CL0) hS (tbS_q _ _) (tbW_ok rfl) ht79 c79 (no_parts rfl) (v79_3 a0 a1 a2 a3 fun u _ => u = .int .u64 (d32 a0 a1 a2 a3 3)) (by
          simp only [fdiv0, fdiv32]
          rw [Int.tmod_eq_emod_of_nonneg (by omega)]
          have e : (a1 / 4294967296) % 4294967296 = a1 / 4294967296 := by omega
          rw [e]
          rfl)
        exact ⟨h', hsem⟩
      · obtain ⟨u, h', rfl, hsem⟩ := sem_vc mixed (C := CL0) hS (tbS_q _ _) (tbW_ok rfl) ht79 c79 (no_parts rfl) (v79_4 a0 a1 a2 a3 fun u _ => u = .int .u64 (d32 a0 a1 a2 a3 4)) (by
          simp only [fdiv0, fdiv32]
          rw [Int.tmod_eq_emod_of_nonneg (by omega)]
          have e : a2 % 4294967296 = a2 % 4294967296 := by omega
          rw [e]
          rfl)
        exact ⟨h', hsem⟩
      · obtain ⟨u, h', rfl, hsem⟩ := sem_vc mixed (C := CL0) hS (tbS_q _ _) (tbW_ok rfl) ht79 c79 (no_parts rfl) (v79_5 a0 a1 a2 a3 fun u _ => u = .int .u64 (d32 a0 a1 a2 a3 5)) (by
          simp only [fdiv0, fdiv32]
          rw [Int.tmod_eq_emod_of_nonneg (by omega)]
          have e : (a2 / 4294967296) % 4294967296 = a2 / 4294967296 := by omega
          rw [e]
          rfl)
        exact ⟨h', hsem⟩
      · obtain ⟨u, h', rfl, hsem⟩ := sem_vc mixed (C := CL0) hS (tbS_q _ _) (tbW_ok rfl) ht79 c79 (no_parts rfl) (v79_6 a0 a1 a2 a3 fun u _ => u = .int .u64 (d32 a0 a1 a2 a3 6)) (by
          simp only [fdiv0, fdiv32]
          rw [Int.tmod_eq_emod_of_nonneg (by omega)]
          have e : a3 % 4294967296 = a3 % 4294967296 := by omega
          rw [e]
          rfl)
        exact ⟨h', hsem⟩
      · obtain ⟨u, h', rfl, hsem⟩ := sem_vc mixed (C := CL0) hS (tbS_q _ _) (tbW_ok rfl) ht79 c79 (no_parts rfl) (v79_7 a0 a1 a2 a3 fun u _ => u = .int .u64 (d32 a0 a1 a2 a3 7)) (by
          simp only [fdiv0, fdiv32]
          rw [Int.tmod_eq_emod_of_nonneg (by omega)]
          have e : (a3 / 4294967296) % 4294967296 = a3 / 4294967296 := by omega
          rw [e]
          rfl)
        exact ⟨h', hsem⟩
    · cases h
  · cases h
def isD (c : UInt8) : Bool := decide (48 ≤ c.toNat) && decide (c.toNat ≤ 57)
def allD (s : List UInt8) : Bool := s.all isD
def foldD : Int → List UInt8 → Option Int
  | v, [] => some v
  | v, c :: l => if v * 10 + ((c.toNat : Int) - 48) ≥ 115792089237316195423570985008687907853269984665640564039457584007913129639936 then none else foldD (v * 10 + ((c.toNat : Int) - 48)) l
def kd53 (t : Nat) : Kd := if t = 32 ∨ t = 47 then .one (.int .u8) else if t = 72 then .agg [.int .u64, .int .u64, .int .u64, .int .u64] else .one (.int .u64)
def zr : AObj := .row 24 4 [.int .u64 0, .int .u64 0, .int .u64 0, .int .u64 0]
-- limb.Parse
def dgA (s : List UInt8) (i : Nat) : Bool := decide (i < s.length) && isD (s.getD i 0)
def sDigit : List AV → Option AV
  | [.str s, .int .i64 i] => if 0 ≤ i then some (.bool (dgA s i.toNat)) else none
  | _ => none
def runD : List UInt8 → Nat
  | [] => 0
  | c :: l => if isD c then runD l + 1 else 0
def behindL (neg : Bool) : List UInt8 → Nat → Bool → Nat → Nat
  | [], _, _, good => good
  | c :: l, i, low, good => if isD c then behindL neg l (i + 1) (low || c != 48) (if (low || c != 48) || !neg then i + 1 else good) else good
def wholeP (neg : Bool) (s : List UInt8) (i : Nat) (low : Bool) : Nat :=
  if decide (i < s.length) && s.getD i 0 == 46 then behindL neg (s.drop (i + 1)) (i + 1) low (if low || !neg then i else 0) else (if low || !neg then i else 0)
def tb37 : List TbE := [⟨38, fun vs _ => sDigit vs, .of (.one .bool)⟩]
def q37 (s : List UInt8) (good : Int) (i : Nat) (low neg : Bool) : St := (envOf 69 [(0, .str s), (3, .int .i64 good), (4, .int .i64 i), (5, .bool low), (6, .bool neg)], [])
def r37 (v : Int) : St := (envOf 69 [(2, .int .i64 v), (3, .int .i64 v), (68, .int .i64 v)], [])
def C37 : Cfg := { tbC Q tb37 (fun _ => false) kdI with
  F := fun id => if id = 21 then ⟨dropT 69 [3], .all⟩ else if id = 1000002 ∨ id = 1000003 then ⟨dropT 69 [0, 3, 4, 5, 6], .all⟩ else ⟨[], .all⟩ }
def G37 (s : List UInt8) (m : Nat) (l : Nat) : Option (St → (AExit → St → Prop) → Prop) :=
  if l = 2 then some fun st K => ∃ (i : Nat) (neg : Bool), st = q37 s 0 i true neg ∧ (dgA s i = true ∧ s.length - i < m) ∧ K .ret (r37 (wholeP neg s (i + runD (s.drop i)) true))
  else if l = 3 then some fun st K => ∃ (i good : Nat) (low neg : Bool), st = q37 s good i low neg ∧ (i ≤ s.length ∧ s.length - i < m) ∧ K .ret (r37 (behindL neg (s.drop i) i low good)) else none
theorem v37 (s : List UInt8) (m : Nat) (R : AV → AHeap → Prop) : (askB (decide ((↑(List.length s) : Int) > 0)) (chkW (decide (0 < List.length s)) (askB ((↑(UInt8.toNat (List.getD s 0 0)) : Int) == 45) (∃ (b : Bool), some (AV.bool (dgA s 1)) = some (AV.bool b) ∧ askB b (chkW (decide (1 < List.length s)) (askB ((↑(UInt8.toNat (List.getD s 1 0)) : Int) == 48) (askB (decide (2 ≥ (↑(List.length s) : Int))) (R (AV.int .i64 0) []) (chkW (decide (2 < List.length s)) (askB ((↑(UInt8.toNat (List.getD s 2 0)) : Int) != 46) (R (AV.int .i64 0) []) (∃ (b : Bool), some (AV.bool (dgA s 3)) = some (AV.bool b) ∧ askB b (chkW (decide (3 < List.length s)) (askB ((↑(UInt8.toNat (List.getD s 3 0)) : Int) != 48) (∃ (i : Nat), ∃ (good : Nat), ∃ (low : Bool), ∃ (neg : Bool), (envOf 69 [(0, AV.str s), (3, AV.int .i64 4), (4, AV.int .i64 4), (5, AV.bool true), (6, AV.bool true)], ([] : AHeap)) = (envOf 69 [(0, AV.str s), (3, AV.int .i64 (↑good : Int)), (4, AV.int .i64 (↑i : Int)), (5, AV.bool low), (6, AV.bool neg)], []) ∧ (i ≤ List.length s ∧ List.length s - i < m) ∧ R (AV.int .i64 (↑(behindL neg (List.drop i s) i low good) : Int)) []) (∃ (i : Nat), ∃ (good : Nat), ∃ (low : Bool), ∃ (neg : Bool), (envOf 69 [(0, AV.str s), (3, AV.int .i64 0), (4, AV.int .i64 4), (5, AV.bool false), (6, AV.bool true)], ([] : AHeap)) = (envOf 69 [(0, AV.str s), (3, AV.int .i64 (↑good : Int)), (4, AV.int .i64 (↑i : Int)), (5, AV.bool low), (6, AV.bool neg)], []) ∧ (i ≤ List.length s ∧ List.length s - i < m) ∧ R (AV.int .i64 (↑(behindL neg (List.drop i s) i low good) : Int)) []))) (R (AV.int .i64 0) []))))) (∃ (b : Bool), some (AV.bool (dgA s 2)) = some (AV.bool b) ∧ askB b (∃ (i : Nat), ∃ (neg : Bool), (envOf 69 [(0, AV.str s), (3, AV.int .i64 0), (4, AV.int .i64 2), (5, AV.bool true), (6, AV.bool true)], ([] : AHeap)) = (envOf 69 [(0, AV.str s), (3, AV.int .i64 0), (4, AV.int .i64 (↑i : Int)), (5, AV.bool true), (6, AV.bool neg)], []) ∧ (dgA s i = true ∧ List.length s - i < m) ∧ R (AV.int .i64 (↑(wholeP neg s (i + runD (List.drop i s)) true) : Int)) []) (askB (decide (2 ≥ (↑(List.length s) : Int))) (R (AV.int .i64 2) []) (chkW (decide (2 < List.length s)) (askB ((↑(UInt8.toNat (List.getD s 2 0)) : Int) != 46) (R (AV.int .i64 2) []) (∃ (b : Bool), some (AV.bool (dgA s 3)) = some (AV.bool b) ∧ askB b (∃ (i : Nat), ∃ (good : Nat), ∃ (low : Bool), ∃ (neg : Bool), (envOf 69 [(0, AV.str s), (3, AV.int .i64 4), (4, AV.int .i64 4), (5, AV.bool true), (6, AV.bool true)], ([] : AHeap)) = (envOf 69 [(0, AV.str s), (3, AV.int .i64 (↑good : Int)), (4, AV.int .i64 (↑i : Int)), (5, AV.bool low), (6, AV.bool neg)], []) ∧ (i ≤ List.length s ∧ List.length s - i < m) ∧ R (AV.int .i64 (↑(behindL neg (List.drop i s) i low good) : Int)) []) (R (AV.int .i64 2) [])))))))) (R (AV.int .i64 0) [])) (∃ (b : Bool), some (AV.bool (dgA s 0)) = some (AV.bool b) ∧ askB b (chkW (decide (0 < List.length s)) (askB ((↑(UInt8.toNat (List.getD s 0 0)) : Int) == 48) (askB (decide (1 ≥ (↑(List.length s) : Int))) (R (AV.int .i64 1) []) (chkW (decide (1 < List.length s)) (askB ((↑(UInt8.toNat (List.getD s 1 0)) : Int) != 46) (R (AV.int .i64 1) []) (∃ (b : Bool), some (AV.bool (dgA s 2)) = some (AV.bool b) ∧ askB b (chkW (decide (2 < List.length s)) (askB ((↑(UInt8.toNat (List.getD s 2 0)) : Int) != 48) (∃ (i : Nat), ∃ (good : Nat), ∃ (low : Bool), ∃ (neg : Bool), (envOf 69 [(0, AV.str s), (3, AV.int .i64 3), (4, AV.int .i64 3), (5, AV.bool true), (6, AV.bool false)], ([] : AHeap)) = (envOf 69 [(0, AV.str s), (3, AV.int .i64 (↑good : Int)), (4, AV.int .i64 (↑i : Int)), (5, AV.bool low), (6, AV.bool neg)], []) ∧ (i ≤ List.length s ∧ List.length s - i < m) ∧ R (AV.int .i64 (↑(behindL neg (List.drop i s) i low good) : Int)) []) (∃ (i : Nat), ∃ (good : Nat), ∃ (low : Bool), ∃ (neg : Bool), (envOf 69 [(0, AV.str s), (3, AV.int .i64 3), (4, AV.int .i64 3), (5, AV.bool false), (6, AV.bool false)], ([] : AHeap)) = (envOf 69 [(0, AV.str s), (3, AV.int .i64 (↑good : Int)), (4, AV.int .i64 (↑i : Int)), (5, AV.bool low), (6, AV.bool neg)], []) ∧ (i ≤ List.length s ∧ List.length s - i < m) ∧ R (AV.int .i64 (↑(behindL neg (List.drop i s) i low good) : Int)) []))) (R (AV.int .i64 1) []))))) (∃ (b : Bool), some (AV.bool (dgA s 1)) = some (AV.bool b) ∧ askB b (∃ (i : Nat), ∃ (neg : Bool), (envOf 69 [(0, AV.str s), (3, AV.int .i64 0), (4, AV.int .i64 1), (5, AV.bool true), (6, AV.bool false)], ([] : AHeap)) = (envOf 69 [(0, AV.str s), (3, AV.int .i64 0), (4, AV.int .i64 (↑i : Int)), (5, AV.bool true), (6, AV.bool neg)], []) ∧ (dgA s i = true ∧ List.length s - i < m) ∧ R (AV.int .i64 (↑(wholeP neg s (i + runD (List.drop i s)) true) : Int)) []) (askB (decide (1 ≥ (↑(List.length s) : Int))) (R (AV.int .i64 1) []) (chkW (decide (1 < List.length s)) (askB ((↑(UInt8.toNat (List.getD s 1 0)) : Int) != 46) (R (AV.int .i64 1) []) (∃ (b : Bool), some (AV.bool (dgA s 2)) = some (AV.bool b) ∧ askB b (∃ (i : Nat), ∃ (good : Nat), ∃ (low : Bool), ∃ (neg : Bool), (envOf 69 [(0, AV.str s), (3, AV.int .i64 3), (4, AV.int .i64 3), (5, AV.bool true), (6, AV.bool false)], ([] : AHeap)) = (envOf 69 [(0, AV.str s), (3, AV.int .i64 (↑good : Int)), (4, AV.int .i64 (↑i : Int)), (5, AV.bool low), (6, AV.bool neg)], []) ∧ (i ≤ List.length s ∧ List.length s - i < m) ∧ R (AV.int .i64 (↑(behindL neg (List.drop i s) i low good) : Int)) []) (R (AV.int .i64 1) [])))))))) (R (AV.int .i64 0) [])))) (∃ (b : Bool), some (AV.bool (dgA s 0)) = some (AV.bool b) ∧ askB b (chkW (decide (0 < List.length s)) (askB ((↑(UInt8.toNat (List.getD s 0 0)) : Int) == 48) (askB (decide (1 ≥ (↑(List.length s) : Int))) (R (AV.int .i64 1) []) (chkW (decide (1 < List.length s)) (askB ((↑(UInt8.toNat (List.getD s 1 0)) : Int) != 46) (R (AV.int .i64 1) []) (∃ (b : Bool), some (AV.bool (dgA s 2)) = some (AV.bool b) ∧ askB b (chkW (decide (2 < List.length s)) (askB ((↑(UInt8.toNat (List.getD s 2 0)) : Int) != 48) (∃ (i : Nat), ∃ (good : Nat), ∃ (low : Bool), ∃ (neg : Bool), (envOf 69 [(0, AV.str s), (3, AV.int .i64 3), (4, AV.int .i64 3), (5, AV.bool true), (6, AV.bool false)], ([] : AHeap)) = (envOf 69 [(0, AV.str s), (3, AV.int .i64 (↑good : Int)), (4, AV.int .i64 (↑i : Int)), (5, AV.bool low), (6, AV.bool neg)], []) ∧ (i ≤ List.length s ∧ List.length s - i < m) ∧ R (AV.int .i64 (↑(behindL neg (List.drop i s) i low good) : Int)) []) (∃ (i : Nat), ∃ (good : Nat), ∃ (low : Bool), ∃ (neg : Bool), (envOf 69 [(0, AV.str s), (3, AV.int .i64 3), (4, AV.int .i64 3), (5, AV.bool false), (6, AV.bool false)], ([] : AHeap)) = (envOf 69 [(0, AV.str s), (3, AV.int .i64 (↑good : Int)), (4, AV.int .i64 (↑i : Int)), (5, AV.bool low), (6, AV.bool neg)], []) ∧ (i ≤ List.length s ∧ List.length s - i < m) ∧ R (AV.int .i64 (↑(behindL neg (List.drop i s) i low good) : Int)) []))) (R (AV.int .i64 1) []))))) (∃ (b : Bool), some (AV.bool (dgA s 1)) = some (AV.bool b) ∧ askB b (∃ (i : Nat), ∃ (neg : Bool), (envOf 69 [(0, AV.str s), (3, AV.int .i64 0), (4, AV.int .i64 1), (5, AV.bool true), (6, AV.bool false)], ([] : AHeap)) = (envOf 69 [(0, AV.str s), (3, AV.int .i64 0), (4, AV.int .i64 (↑i : Int)), (5, AV.bool true), (6, AV.bool neg)], []) ∧ (dgA s i = true ∧ List.length s - i < m) ∧ R (AV.int .i64 (↑(wholeP neg s (i + runD (List.drop i s)) true) : Int)) []) (askB (decide (1 ≥ (↑(List.length s) : Int))) (R (AV.int .i64 1) []) (chkW (decide (1 < List.length s)) (askB ((↑(UInt8.toNat (List.getD s 1 0)) : Int) != 46) (R (AV.int .i64 1) []) (∃ (b : Bool), some (AV.bool (dgA s 2)) = some (AV.bool b) ∧ askB b (∃ (i : Nat), ∃ (good : Nat), ∃ (low : Bool), ∃ (neg : Bool), (envOf 69 [(0, AV.str s), (3, AV.int .i64 3), (4, AV.int .i64 3), (5, AV.bool true), (6, AV.bool false)], ([] : AHeap)) = (envOf 69 [(0, AV.str s), (3, AV.int .i64 (↑good : Int)), (4, AV.int .i64 (↑i : Int)), (5, AV.bool low), (6, AV.bool neg)], []) ∧ (i ≤ List.length s ∧ List.length s - i < m) ∧ R (AV.int .i64 (↑(behindL neg (List.drop i s) i low good) : Int)) []) (R (AV.int .i64 1) [])))))))) (R (AV.int .i64 0) []))) = (wpF Tryd.prog { C37 with gw := G37 s m } 80 p37 [.str s] [] R) := by kernel_rfl
def cut1 (s : List UInt8) (c : UInt8) : List UInt8 × List UInt8 × Bool :=
  if Lib.indexByte s c ≥ 0 then (s.take (Lib.indexByte s c).toNat, s.drop ((Lib.indexByte s c).toNat + 1), true) else (s, [], false)
def sIndexByte : List AV → Option AV
  | [.str s, .int .u8 c] => some (.int .i64 (Lib.indexByte s c.toNat.toUInt8))
  | _ => none
theorem indexByte_ok : QuietOK Tryd.prog 25 fun vs _ => sIndexByte vs := quiet_plain ht27 fun args v h => by
  unfold sIndexByte at h
  split at h <;> cases h
  exact ⟨rfl, rfl, _, sem_below rfl fun ρ w => (Tryd.strings_IndexByte _ _ w).mono fun e w' ⟨h1, h2⟩ => ⟨h1, h2 ▸ Below.refl _ _⟩⟩
def sCutPrefix : List AV → Option AV
  | [.str s, .str p] => some (.tup [.str (Lib.trimPrefix s p), .bool (Lib.hasPrefix s p)])
  | _ => none
theorem cutPrefix_ok : QuietOK Tryd.prog 28 fun vs _ => sCutPrefix vs := quiet_plain ht50 fun args v h => by
  unfold sCutPrefix at h
  split at h <;> cases h
  exact ⟨rfl, rfl, _, sem_below rfl fun ρ w => (Tryd.strings_CutPrefix _ _ w).mono fun e w' ⟨h1, h2⟩ => ⟨h1, h2 ▸ Below.refl _ _⟩⟩
def sIndexOne : List AV → Option AV
  | [.str s, .str [c]] => some (.int .i64 (Lib.indexByte s c))
  | _ => none
theorem indexOne_ok : QuietOK Tryd.prog 82 fun vs _ => sIndexOne vs := quiet_plain ht73 fun args v h => by
  unfold sIndexOne at h
  split at h <;> cases h
  exact ⟨rfl, rfl, _, sem_below rfl fun ρ w => (Tryd.stringslite_Index_one _ _ w).mono fun e w' ⟨h1, h2⟩ => ⟨h1, h2 ▸ Below.refl _ _⟩⟩
def bq0 : FuncId → Option (List AV → AHeap → Option AV)
  | 25 => some fun vs _ => sIndexByte vs
  | 82 => some fun vs _ => sIndexOne vs
  | 28 => some fun vs _ => sCutPrefix vs
  | _ => none
theorem bq0_ok : ∀ g s, bq0 g = some s → QuietOK Tryd.prog g s := by
  intro g s h
  unfold bq0 at h
  split at h <;> cases h
  · exact indexByte_ok
  · exact indexOne_ok
  · exact cutPrefix_ok
def tab : FuncId → Option PF
  | 9 => some pz9
  | 11 => some pz11
  | 13 => some p38
  | 15 => some pz15
  | 17 => some p37
  | 21 => some pz21
  | 22 => some pz22
  | 26 => some pz26
  | 27 => some pz27
  | 29 => some p51
  | 30 => some p52
  | 31 => some p53
  | 35 => some pz35
  | 38 => some p49
  | 39 => some pz39
  | 40 => some pz40
  | 42 => some pz42
  | 43 => some pz43
  | 44 => some pz44
  | 52 => some pz52
  | 53 => some pz53
  | 57 => some p60
  | 58 => some p61
  | 59 => some p62
  | 62 => some p66
  | 63 => some p67
  | 64 => some p68
  | 67 => some pz67
  | 68 => some pz68
  | 70 => some pz70
  | 71 => some pz71
  | 73 => some pz73
  | 78 => some pz78
  | 84 => some p77
  | 85 => some p78
  | 86 => some pz86
  | _ => none
theorem tab_ok : TabOK Tryd.prog tab Q := by
  intro g pf h
  unfold tab at h
  split at h <;> cases h
  · exact ⟨_, htz9, cz9⟩
  · exact ⟨_, htz11, cz11⟩
  · exact ⟨_, ht38, c38⟩
  · exact ⟨_, htz15, cz15⟩
  · exact ⟨_, ht37, c37⟩
  · exact ⟨_, htz21, cz21⟩
  · exact ⟨_, htz22, cz22⟩
  · exact ⟨_, htz26, cz26⟩
  · exact ⟨_, htz27, cz27⟩
  · exact ⟨_, ht51, c51⟩
  · exact ⟨_, ht52, c52⟩
  · exact ⟨_, ht53, c53⟩
  · exact ⟨_, htz35, cz35⟩
  · exact ⟨_, ht49, c49⟩
  · exact ⟨_, htz39, cz39⟩
  · exact ⟨_, htz40, cz40⟩
  · exact ⟨_, htz42, cz42⟩
  · exact ⟨_, htz43, cz43⟩
  · exact ⟨_, htz44, cz44⟩
  · exact ⟨_, htz52, cz52⟩
  · exact ⟨_, htz53, cz53⟩
  · exact ⟨_, ht60, c60⟩
  · exact ⟨_, ht61, c61⟩
  · exact ⟨_, ht62, c62⟩
  · exact ⟨_, ht66, c66⟩
  · exact ⟨_, ht67, c67⟩
  · exact ⟨_, ht68, c68⟩
  · exact ⟨_, htz67, cz67⟩
  · exact ⟨_, htz68, cz68⟩
  · exact ⟨_, htz70, cz70⟩
  · exact ⟨_, htz71, cz71⟩
  · exact ⟨_, htz73, cz73⟩
  · exact ⟨_, htz78, cz78⟩
  · exact ⟨_, ht77, c77⟩
  · exact ⟨_, ht78, c78⟩
  · exact ⟨_, htz86, cz86⟩
noncomputable def SR : Nat → Specs := Go.Am.runD Tryd.prog tab Q bq0 (fun _ => none) (fun _ _ => []) 300 2
theorem SR_ok (n : Nat) : (SR n).OK Tryd.prog ∧ ∀ g, ((SR n).q g).isSome = Q g := Go.Am.runD_ok mixed tab_ok quietText bq0_ok (fun _ _ h => by cases h) _ _ _ n
theorem live_run : (runF Tryd.prog (SR 12) (fun _ => []) 300 p10 [] []).map (·.1) = some (.bool true) := by kernel_rfl
theorem live_ok : QuietOK Tryd.prog 8 fun vs _ => @ite _ (vs = []) (Classical.propDecidable _) (some (.bool true)) none := quiet_closed mixed (SR_ok 12).1 (SR_ok 12).2 ht10 c10 rfl rfl live_run
theorem live_at (h : AHeap) : sLive [] h = some (.bool true) := by unfold sLive; rw [if_pos rfl]
theorem and32 {x : Int} (h0 : 0 ≤ x) (h1 : x < 18446744073709551616) : IntKind.wrap .u64 (↑(BitVec.toNat (BitVec.ofInt (IntKind.bits .u64) x &&& BitVec.ofInt (IntKind.bits .u64) 4294967295)) : Int) = x % 4294967296 := by
  obtain ⟨n, rfl⟩ : ∃ n : Nat, x = n := ⟨x.toNat, by omega⟩
  have hb : (BitVec.toNat (BitVec.ofInt (IntKind.bits .u64) (n : Int) &&& BitVec.ofInt (IntKind.bits .u64) 4294967295)) = n % 4294967296 := by
    rw [BitVec.toNat_and]
    have e1 : (BitVec.ofInt (IntKind.bits .u64) (n : Int)).toNat = n := by
      show (BitVec.ofInt 64 (n : Int)).toNat = n
      rw [BitVec.toNat_ofInt]; omega
    have e2 : (BitVec.ofInt (IntKind.bits .u64) 4294967295).toNat = 2 ^ 32 - 1 := by rfl
    rw [e1, e2, Nat.and_two_pow_sub_one_eq_mod]
  rw [hb, IntKind.wrap_u64]; omega
theorem or32 {x y : Int} (h0 : 0 ≤ x) (h1 : x < 4294967296) (h2 : 0 ≤ y) (h3 : y < 4294967296) : IntKind.wrap .u64 (↑(BitVec.toNat (BitVec.ofInt (IntKind.bits .u64) (x * 4294967296) ||| BitVec.ofInt (IntKind.bits .u64) y)) : Int) = x * 4294967296 + y := by
  obtain ⟨n, rfl⟩ : ∃ n : Nat, x = n := ⟨x.toNat, by omega⟩
  obtain ⟨m, rfl⟩ : ∃ m : Nat, y = m := ⟨y.toNat, by omega⟩
  have hb : (BitVec.toNat (BitVec.ofInt (IntKind.bits .u64) ((n : Int) * 4294967296) ||| BitVec.ofInt (IntKind.bits .u64) (m : Int))) = 2 ^ 32 * n + m := by
    rw [BitVec.toNat_or]
    have e1 : (BitVec.ofInt (IntKind.bits .u64) ((n : Int) * 4294967296)).toNat = 2 ^ 32 * n := by
      show (BitVec.ofInt 64 ((n : Int) * 4294967296)).toNat = 2 ^ 32 * n
      rw [BitVec.toNat_ofInt]; omega
    have e2 : (BitVec.ofInt (IntKind.bits .u64) (m : Int)).toNat = m := by
      show (BitVec.ofInt 64 (m : Int)).toNat = m
      rw [BitVec.toNat_ofInt]; omega
    rw [e1, e2, Nat.two_pow_add_eq_or_of_lt (by omega)]
  rw [hb, IntKind.wrap_u64]; omega
def tbP53 : List TbE := [⟨63, fun vs _ => sFrom vs, .of ag4⟩, ⟨62, fun vs _ => sMul vs, .tup [ag4, ag4]⟩, ⟨64, fun vs _ => sAdd vs, .tup [ag4, .one .bool]⟩]
def g53a (s : List UInt8) (i : Int) : St := (envOf 73 [(0, .str s), (2, .ptr (some (0, 0))), (3, .int .i64 0), (27, .sl (some (1, 0)) s.length (.rel 0)), (28, .int .i64 s.length), (29, .int .i64 i)], [zr, .ro (bv s)])
def t53a : Tidy := ⟨dropT 73 [0, 2, 3, 27, 28, 29], .rows [0, 1]⟩
def e53a (s : List UInt8) : St := (envOf 73 [(0, .str s), (2, .ptr (some (0, 0))), (3, .int .i64 0)], [zr])
def b53 (e : Int) : St := (envOf 73 [(2, .ptr (some (0, 0))), (3, .int .i64 e)], [zr])
def g53b (s : List UInt8) (v : Int) (i : Int) : St := (envOf 73 [(2, .ptr (some (0, 0))), (3, .int .i64 0), (6, .ptr (some (1, 0))), (42, .sl (some (2, 0)) s.length (.rel 0)), (43, .int .i64 s.length), (44, .int .i64 i)], [zr, .row 24 4 (limbs v), .ro (bv s)])
def t53b : Tidy := ⟨dropT 73 [2, 3, 6, 42, 43, 44], .rows [0, 1, 2]⟩
def e53b (v : Int) : St := (envOf 73 [(2, .ptr (some (0, 0))), (3, .int .i64 0), (6, .ptr (some (1, 0)))], [zr, .row 24 4 (limbs v)])
def C53 (s : List UInt8) : Cfg := { tbC Q tbP53 (fun k => k == 1 || k == 2) kd53 with
  lw := fun id => if id = 4 then some fun st K => st = g53a s 0 ∧ askB (allD s) (K (.exit 0) (e53a s)) (K .ret (b53 10))
    else if id = 11 then some fun st K => st = g53b s 0 0 ∧ allD s = true ∧ askB (foldD 0 s).isSome (K (.exit 2) (e53b ((foldD 0 s).getD 0))) (K .ret (b53 7)) else none
  F := fun id => if id = 4 then t53a else if id = 11 then t53b else ⟨[], .all⟩ }
-- the document's Parse
theorem v53 (s : List UInt8) (R : AV → AHeap → Prop) : (askB (s == []) (R (AV.tup [AV.agg [AV.int .u64 0, AV.int .u64 0, AV.int .u64 0, AV.int .u64 0], AV.int .i64 10]) [AObj.row 24 4 [AV.int .u64 0, AV.int .u64 0, AV.int .u64 0, AV.int .u64 0]]) (chkW (decide (0 < List.length s)) (askB ((↑(UInt8.toNat (List.getD s 0 0)) : Int) == 48) (askB (decide ((↑(List.length s) : Int) > 1)) (R (AV.tup [AV.agg [AV.int .u64 0, AV.int .u64 0, AV.int .u64 0, AV.int .u64 0], AV.int .i64 10]) [AObj.row 24 4 [AV.int .u64 0, AV.int .u64 0, AV.int .u64 0, AV.int .u64 0]]) (chkW (objClosed (AObj.ro (List.map (fun (x : UInt8) => AV.int .u8 (↑(UInt8.toNat x) : Int)) s))) ((envOf 73 [(0, AV.str s), (2, AV.ptr (some (0, 0))), (3, AV.int .i64 0), (27, AV.sl (some (1, 0)) (List.length s) (ACap.rel 0)), (28, AV.int .i64 (↑(List.length s) : Int)), (29, AV.int .i64 0)], [AObj.row 24 4 [AV.int .u64 0, AV.int .u64 0, AV.int .u64 0, AV.int .u64 0], AObj.ro (List.map (fun (x : UInt8) => AV.int .u8 (↑(UInt8.toNat x) : Int)) s)]) = (envOf 73 [(0, AV.str s), (2, AV.ptr (some (0, 0))), (3, AV.int .i64 0), (27, AV.sl (some (1, 0)) (List.length s) (ACap.rel 0)), (28, AV.int .i64 (↑(List.length s) : Int)), (29, AV.int .i64 0)], [AObj.row 24 4 [AV.int .u64 0, AV.int .u64 0, AV.int .u64 0, AV.int .u64 0], AObj.ro (bv s)]) ∧ askB (allD s) (chkW (objClosed (AObj.ro (List.map (fun (x : UInt8) => AV.int .u8 (↑(UInt8.toNat x) : Int)) s))) ((envOf 73 [(2, AV.ptr (some (0, 0))), (3, AV.int .i64 0), (6, AV.ptr (some (1, 0))), (42, AV.sl (some (2, 0)) (List.length s) (ACap.rel 0)), (43, AV.int .i64 (↑(List.length s) : Int)), (44, AV.int .i64 0)], [AObj.row 24 4 [AV.int .u64 0, AV.int .u64 0, AV.int .u64 0, AV.int .u64 0], AObj.row 24 4 [AV.int .u64 0, AV.int .u64 0, AV.int .u64 0, AV.int .u64 0], AObj.ro (List.map (fun (x : UInt8) => AV.int .u8 (↑(UInt8.toNat x) : Int)) s)]) = (envOf 73 [(2, AV.ptr (some (0, 0))), (3, AV.int .i64 0), (6, AV.ptr (some (1, 0))), (42, AV.sl (some (2, 0)) (List.length s) (ACap.rel 0)), (43, AV.int .i64 (↑(List.length s) : Int)), (44, AV.int .i64 0)], [AObj.row 24 4 [AV.int .u64 0, AV.int .u64 0, AV.int .u64 0, AV.int .u64 0], AObj.row 24 4 [AV.int .u64 0, AV.int .u64 0, AV.int .u64 0, AV.int .u64 0], AObj.ro (bv s)]) ∧ allD s = true ∧ askB (Option.isSome (foldD 0 s)) (∃ (n : Int), ∃ (n_1 : Int), ∃ (n_2 : Int), ∃ (n_3 : Int), some (AV.agg [AV.int .u64 (Option.getD (foldD 0 s) 0 % 18446744073709551616), AV.int .u64 (Option.getD (foldD 0 s) 0 / 18446744073709551616 % 18446744073709551616), AV.int .u64 (Option.getD (foldD 0 s) 0 / 18446744073709551616 / 18446744073709551616 % 18446744073709551616), AV.int .u64 (Option.getD (foldD 0 s) 0 / 18446744073709551616 / 18446744073709551616 / 18446744073709551616 % 18446744073709551616)]) = some (AV.agg [AV.int .u64 n, AV.int .u64 n_1, AV.int .u64 n_2, AV.int .u64 n_3]) ∧ R (AV.tup [AV.agg [AV.int .u64 n, AV.int .u64 n_1, AV.int .u64 n_2, AV.int .u64 n_3], AV.int .i64 0]) [AObj.row 24 4 [AV.int .u64 n, AV.int .u64 n_1, AV.int .u64 n_2, AV.int .u64 n_3], AObj.row 24 4 [AV.int .u64 (Option.getD (foldD 0 s) 0 % 18446744073709551616), AV.int .u64 (Option.getD (foldD 0 s) 0 / 18446744073709551616 % 18446744073709551616), AV.int .u64 (Option.getD (foldD 0 s) 0 / 18446744073709551616 / 18446744073709551616 % 18446744073709551616), AV.int .u64 (Option.getD (foldD 0 s) 0 / 18446744073709551616 / 18446744073709551616 / 18446744073709551616 % 18446744073709551616)]]) (R (AV.tup [AV.agg [AV.int .u64 0, AV.int .u64 0, AV.int .u64 0, AV.int .u64 0], AV.int .i64 7]) [AObj.row 24 4 [AV.int .u64 0, AV.int .u64 0, AV.int .u64 0, AV.int .u64 0]]))) (R (AV.tup [AV.agg [AV.int .u64 0, AV.int .u64 0, AV.int .u64 0, AV.int .u64 0], AV.int .i64 10]) [AObj.row 24 4 [AV.int .u64 0, AV.int .u64 0, AV.int .u64 0, AV.int .u64 0]])))) (chkW (objClosed (AObj.ro (List.map (fun (x : UInt8) => AV.int .u8 (↑(UInt8.toNat x) : Int)) s))) ((envOf 73 [(0, AV.str s), (2, AV.ptr (some (0, 0))), (3, AV.int .i64 0), (27, AV.sl (some (1, 0)) (List.length s) (ACap.rel 0)), (28, AV.int .i64 (↑(List.length s) : Int)), (29, AV.int .i64 0)], [AObj.row 24 4 [AV.int .u64 0, AV.int .u64 0, AV.int .u64 0, AV.int .u64 0], AObj.ro (List.map (fun (x : UInt8) => AV.int .u8 (↑(UInt8.toNat x) : Int)) s)]) = (envOf 73 [(0, AV.str s), (2, AV.ptr (some (0, 0))), (3, AV.int .i64 0), (27, AV.sl (some (1, 0)) (List.length s) (ACap.rel 0)), (28, AV.int .i64 (↑(List.length s) : Int)), (29, AV.int .i64 0)], [AObj.row 24 4 [AV.int .u64 0, AV.int .u64 0, AV.int .u64 0, AV.int .u64 0], AObj.ro (bv s)]) ∧ askB (allD s) (chkW (objClosed (AObj.ro (List.map (fun (x : UInt8) => AV.int .u8 (↑(UInt8.toNat x) : Int)) s))) ((envOf 73 [(2, AV.ptr (some (0, 0))), (3, AV.int .i64 0), (6, AV.ptr (some (1, 0))), (42, AV.sl (some (2, 0)) (List.length s) (ACap.rel 0)), (43, AV.int .i64 (↑(List.length s) : Int)), (44, AV.int .i64 0)], [AObj.row 24 4 [AV.int .u64 0, AV.int .u64 0, AV.int .u64 0, AV.int .u64 0], AObj.row 24 4 [AV.int .u64 0, AV.int .u64 0, AV.int .u64 0, AV.int .u64 0], AObj.ro (List.map (fun (x : UInt8) => AV.int .u8 (↑(UInt8.toNat x) : Int)) s)]) = (envOf 73 [(2, AV.ptr (some (0, 0))), (3, AV.int .i64 0), (6, AV.ptr (some (1, 0))), (42, AV.sl (some (2, 0)) (List.length s) (ACap.rel 0)), (43, AV.int .i64 (↑(List.length s) : Int)), (44, AV.int .i64 0)], [AObj.row 24 4 [AV.int .u64 0, AV.int .u64 0, AV.int .u64 0, AV.int .u64 0], AObj.row 24 4 [AV.int .u64 0, AV.int .u64 0, AV.int .u64 0, AV.int .u64 0], AObj.ro (bv s)]) ∧ allD s = true ∧ askB (Option.isSome (foldD 0 s)) (∃ (n : Int), ∃ (n_1 : Int), ∃ (n_2 : Int), ∃ (n_3 : Int), some (AV.agg [AV.int .u64 (Option.getD (foldD 0 s) 0 % 18446744073709551616), AV.int .u64 (Option.getD (foldD 0 s) 0 / 18446744073709551616 % 18446744073709551616), AV.int .u64 (Option.getD (foldD 0 s) 0 / 18446744073709551616 / 18446744073709551616 % 18446744073709551616), AV.int .u64 (Option.getD (foldD 0 s) 0 / 18446744073709551616 / 18446744073709551616 / 18446744073709551616 % 18446744073709551616)]) = some (AV.agg [AV.int .u64 n, AV.int .u64 n_1, AV.int .u64 n_2, AV.int .u64 n_3]) ∧ R (AV.tup [AV.agg [AV.int .u64 n, AV.int .u64 n_1, AV.int .u64 n_2, AV.int .u64 n_3], AV.int .i64 0]) [AObj.row 24 4 [AV.int .u64 n, AV.int .u64 n_1, AV.int .u64 n_2, AV.int .u64 n_3], AObj.row 24 4 [AV.int .u64 (Option.getD (foldD 0 s) 0 % 18446744073709551616), AV.int .u64 (Option.getD (foldD 0 s) 0 / 18446744073709551616 % 18446744073709551616), AV.int .u64 (Option.getD (foldD 0 s) 0 / 18446744073709551616 / 18446744073709551616 % 18446744073709551616), AV.int .u64 (Option.getD (foldD 0 s) 0 / 18446744073709551616 / 18446744073709551616 / 18446744073709551616 % 18446744073709551616)]]) (R (AV.tup [AV.agg [AV.int .u64 0, AV.int .u64 0, AV.int .u64 0, AV.int .u64 0], AV.int .i64 7]) [AObj.row 24 4 [AV.int .u64 0, AV.int .u64 0, AV.int .u64 0, AV.int .u64 0]]))) (R (AV.tup [AV.agg [AV.int .u64 0, AV.int .u64 0, AV.int .u64 0, AV.int .u64 0], AV.int .i64 10]) [AObj.row 24 4 [AV.int .u64 0, AV.int .u64 0, AV.int .u64 0, AV.int .u64 0]])))))) = (wpF Tryd.prog (C53 s) 80 p53 [.str s] [] R) := by kernel_rfl
theorem bv_at {s : List UInt8} {i : Nat} (h : i < s.length) : (bv s)[i]? = some (.int .u8 (s.getD i 0).toNat) := by
  simp [bv, List.getElem?_eq_getElem h]
def sCut : List AV → Option AV
  | [.str s, .str [c]] => if s.length ≤ 1099511627776 then some (.tup [.str (cut1 s c).1, .str (cut1 s c).2.1, .bool (cut1 s c).2.2]) else none
  | _ => none
def tb51 : List TbE := [⟨58, fun vs _ => sCut vs, .tup [.one .str, .one .str, .one .bool]⟩]
theorem v51 (s : List UInt8) (c : UInt8) (R : AV → AHeap → Prop) : (∃ (s_1 : List UInt8), ∃ (s_2 : List UInt8), ∃ (b : Bool), TbE.s { f := 58, s := fun (vs : List AV) (x : AHeap) => sCut vs, r := Rs.tup [Rs1.one K1.str, Rs1.one K1.str, Rs1.one K1.bool] } [AV.str s, AV.str [c]] [] = some (AV.tup [AV.str s_1, AV.str s_2, AV.bool b]) ∧ askB b (R (AV.tup [AV.str s_1, AV.str s_2, AV.bool true]) []) (R (AV.tup [AV.str s_1, AV.str s_2, AV.bool false]) [])) = (wpF Tryd.prog (tbC Q tb51 (fun _ => false) kdI) 40 p51 [.str s, .str [c]] [] R) := by kernel_rfl
def nz4 (a b c d : Int) : Bool := !(a == 0 && (b == 0 && (c == 0 && (d == 0 && true))))
def sCheck : List AV → Option AV
  | [.agg [.bool neg, .int .u64 l0, .int .u64 l1, .int .u64 l2, .int .u64 l3, .int .i64 sc]] => some (.int .i64 (if decide (sc < 0) || decide (sc > 18) || (neg && !(nz4 l0 l1 l2 l3)) then 20 else 0))
  | _ => none
def tn4 (v : Int) : AObj := .row 24 4 (limbs v)
theorem v21t (neg : Bool) (a0 a1 a2 a3 : Int) (sc : Int) (R : AV → AHeap → Prop) : (askB (decide (sc < 0)) (R (AV.int .i64 20) [AObj.row 26 6 [AV.bool neg, AV.int .u64 a0, AV.int .u64 a1, AV.int .u64 a2, AV.int .u64 a3, AV.int .i64 sc]]) (askB (decide (sc > 18)) (R (AV.int .i64 20) [AObj.row 26 6 [AV.bool neg, AV.int .u64 a0, AV.int .u64 a1, AV.int .u64 a2, AV.int .u64 a3, AV.int .i64 sc]]) (askB neg (askB (a0 == 0 && (a1 == 0 && (a2 == 0 && (a3 == 0 && true)))) (R (AV.int .i64 20) [AObj.row 26 6 [AV.bool neg, AV.int .u64 a0, AV.int .u64 a1, AV.int .u64 a2, AV.int .u64 a3, AV.int .i64 sc]]) (R (AV.int .i64 0) [AObj.row 26 6 [AV.bool neg, AV.int .u64 a0, AV.int .u64 a1, AV.int .u64 a2, AV.int .u64 a3, AV.int .i64 sc]])) (R (AV.int .i64 0) [AObj.row 26 6 [AV.bool neg, AV.int .u64 a0, AV.int .u64 a1, AV.int .u64 a2, AV.int .u64 a3, AV.int .i64 sc]])))) = (wpF Tryd.prog (tbC Q [] (fun _ => false) kdI) 60 pz21 [.agg [.bool neg, .int .u64 a0, .int .u64 a1, .int .u64 a2, .int .u64 a3, .int .i64 sc]] [] R) := by kernel_rfl
theorem limbs_num {a0 a1 a2 a3 : Int} (h : u64s a0 a1 a2 a3 = true) : ([.int .u64 a0, .int .u64 a1, .int .u64 a2, .int .u64 a3] : List AV) = limbs (num4 a0 a1 a2 a3) ∧ 0 ≤ num4 a0 a1 a2 a3 ∧ num4 a0 a1 a2 a3 < 115792089237316195423570985008687907853269984665640564039457584007913129639936 := by
  simp only [u64s, u64B, Bool.and_eq_true, decide_eq_true_eq] at h
  obtain ⟨⟨⟨⟨h0, g0⟩, h1, g1⟩, h2, g2⟩, h3, g3⟩ := h
  have e : num4 a0 a1 a2 a3 = a0 + 18446744073709551616 * (a1 + 18446744073709551616 * (a2 + 18446744073709551616 * a3)) := rfl
  refine ⟨?_, by omega, by omega⟩
  have e0 : num4 a0 a1 a2 a3 % 18446744073709551616 = a0 := by omega
  have e1 : num4 a0 a1 a2 a3 / 18446744073709551616 % 18446744073709551616 = a1 := by omega
  have e2 : num4 a0 a1 a2 a3 / 18446744073709551616 / 18446744073709551616 % 18446744073709551616 = a2 := by omega
  have e3 : num4 a0 a1 a2 a3 / 18446744073709551616 / 18446744073709551616 / 18446744073709551616 % 18446744073709551616 = a3 := by omega
  unfold limbs
  rw [e0, e1, e2, e3]
theorem check_ok : QuietOK Tryd.prog 21 fun vs _ => sCheck vs := quiet_plain htz21 fun args v h => by
  unfold sCheck at h
  split at h
  · rename_i neg l0 l1 l2 l3 sc
    cases h
    · skip
      refine ⟨rfl, rfl, ?_⟩
      have hS : (tbS Q []).OK Tryd.prog := tbS_ok quietText (by simp)
      obtain ⟨u, h', rfl, hsem⟩ := sem_vc mixed (C := tbC Q [] (fun _ => false) kdI) hS (tbS_q _ _) (tbW_ok rfl) htz21 cz21 (no_parts rfl) (v21t neg l0 l1 l2 l3 sc fun u _ => u = .int .i64 (if decide (sc < 0) || decide (sc > 18) || (neg && !(nz4 l0 l1 l2 l3)) then 20 else 0)) (by
        refine askI (fun g1 => ?_) fun g1 => askI (fun g2 => ?_) fun g2 => askI (fun g3 => askI (fun g4 => ?_) fun g4 => ?_) fun g3 => ?_
        · rw [g1]; rfl
        · rw [g1, g2]; rfl
        · have e : nz4 l0 l1 l2 l3 = false := by unfold nz4; rw [g4]; rfl
          rw [g1, g2, g3, e]; rfl
        · have e : nz4 l0 l1 l2 l3 = true := by unfold nz4; rw [g4]; rfl
          rw [g1, g2, g3, e]; rfl
        · rw [g1, g2, g3]; rfl)
      exact ⟨h', hsem⟩
  · cases h
theorem nz_limbs {x : Int} (h0 : 0 ≤ x) (h1 : x < 115792089237316195423570985008687907853269984665640564039457584007913129639936) : nz4 (x % 18446744073709551616) (x / 18446744073709551616 % 18446744073709551616) (x / 18446744073709551616 / 18446744073709551616 % 18446744073709551616) (x / 18446744073709551616 / 18446744073709551616 / 18446744073709551616 % 18446744073709551616) = decide (x ≠ 0) := by
  unfold nz4
  by_cases h : x = 0
  · subst h; rfl
  · rw [decide_eq_true h]
    cases hc : (x % 18446744073709551616 == 0 && (x / 18446744073709551616 % 18446744073709551616 == 0 && (x / 18446744073709551616 / 18446744073709551616 % 18446744073709551616 == 0 && (x / 18446744073709551616 / 18446744073709551616 / 18446744073709551616 % 18446744073709551616 == 0 && true)))) with
    | false => rfl
    | true =>
      simp only [Bool.and_eq_true, beq_iff_eq] at hc
      obtain ⟨a, b, c, d, -⟩ := hc
      exact absurd (by omega) h
theorem u64_limbs (x : Int) : u64s (x % 18446744073709551616) (x / 18446744073709551616 % 18446744073709551616) (x / 18446744073709551616 / 18446744073709551616 % 18446744073709551616) (x / 18446744073709551616 / 18446744073709551616 / 18446744073709551616 % 18446744073709551616) = true := by
  simp only [u64s, u64B, Bool.and_eq_true, decide_eq_true_eq]; omega
theorem num_limbs {x : Int} (h0 : 0 ≤ x) (h1 : x < 115792089237316195423570985008687907853269984665640564039457584007913129639936) : num4 (x % 18446744073709551616) (x / 18446744073709551616 % 18446744073709551616) (x / 18446744073709551616 / 18446744073709551616 % 18446744073709551616) (x / 18446744073709551616 / 18446744073709551616 / 18446744073709551616 % 18446744073709551616) = x := by unfold num4; omega

end Go.Proofs.YtddalcnajejibaaDoor
