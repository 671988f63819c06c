/- Written by merging: Ra Rb Rc Rd Re Rf Rh Rj. -/
import Derived.Test.YtddalcnajejibaaDoorAmV
import Derived.Test.YtddalcnajejibaaDoorAmHd
import Derived.Test.YtddalcnajejibaaDoorShelf
import Derived.WalkKit
import Derived.Lib.TrimByte
import Derived.Lib.Bytealg
import Derived.Lib.Strings
namespace Go.Proofs.YtddalcnajejibaaDoor
open Go Go.Am Go.RowKit
set_option maxRecDepth 100000
set_option maxHeartbeats 1000000
set_option linter.unusedVariables false
set_option linter.unusedSimpArgs false
theorem quietText : ∀ g, Q g = true → ∃ fn, HasText Tryd.prog g fn := by
  intro g hg
  have : g ∈ quiet := by simpa [Q] using hg
  simp only [quiet, List.mem_cons, List.not_mem_nil, or_false] at this
  rcases this with rfl | rfl | rfl | rfl | rfl | rfl | rfl | rfl | rfl | rfl | rfl | rfl | rfl | rfl | rfl | rfl | rfl | rfl | rfl | rfl | rfl | rfl | rfl | rfl | rfl | rfl | rfl | rfl | rfl | rfl | rfl | rfl | rfl | rfl | rfl | rfl | rfl | rfl | rfl | rfl | rfl | rfl | rfl | rfl | rfl | rfl | rfl | rfl | rfl | rfl | rfl | rfl | rfl | rfl | rfl | rfl | rfl | rfl | rfl | rfl | rfl | rfl | rfl | rfl | rfl | rfl | rfl
  · exact ⟨_, Tryd.func8, rfl, by decide⟩
  · exact ⟨_, Tryd.func9, rfl, by decide⟩
  · exact ⟨_, Tryd.func10, rfl, by decide⟩
  · exact ⟨_, Tryd.func11, rfl, by decide⟩
  · exact ⟨_, Tryd.func12, rfl, by decide⟩
  · exact ⟨_, Tryd.func13, rfl, by decide⟩
  · exact ⟨_, Tryd.func14, rfl, by decide⟩
  · exact ⟨_, Tryd.func15, rfl, by decide⟩
  · exact ⟨_, Tryd.func16, rfl, by decide⟩
  · exact ⟨_, Tryd.func17, rfl, by decide⟩
  · exact ⟨_, Tryd.func18, rfl, by decide⟩
  · exact ⟨_, Tryd.func19, rfl, by decide⟩
  · exact ⟨_, Tryd.func20, rfl, by decide⟩
  · exact ⟨_, Tryd.func21, rfl, by decide⟩
  · exact ⟨_, Tryd.func22, rfl, by decide⟩
  · exact ⟨_, Tryd.func23, rfl, by decide⟩
  · exact ⟨_, Tryd.func24, rfl, by decide⟩
  · exact ⟨_, Tryd.func25, rfl, by decide⟩
  · exact ⟨_, Tryd.func26, rfl, by decide⟩
  · exact ⟨_, Tryd.func27, rfl, by decide⟩
  · exact ⟨_, Tryd.func28, rfl, by decide⟩
  · exact ⟨_, Tryd.func29, rfl, by decide⟩
  · exact ⟨_, Tryd.func30, rfl, by decide⟩
  · exact ⟨_, Tryd.func31, rfl, by decide⟩
  · exact ⟨_, Tryd.func32, rfl, by decide⟩
  · exact ⟨_, Tryd.func33, rfl, by decide⟩
  · exact ⟨_, Tryd.func34, rfl, by decide⟩
  · exact ⟨_, Tryd.func35, rfl, by decide⟩
  · exact ⟨_, Tryd.func36, rfl, by decide⟩
  · exact ⟨_, Tryd.func37, rfl, by decide⟩
  · exact ⟨_, Tryd.func38, rfl, by decide⟩
  · exact ⟨_, Tryd.func39, rfl, by decide⟩
  · exact ⟨_, Tryd.func40, rfl, by decide⟩
  · exact ⟨_, Tryd.func41, rfl, by decide⟩
  · exact ⟨_, Tryd.func42, rfl, by decide⟩
  · exact ⟨_, Tryd.func43, rfl, by decide⟩
  · exact ⟨_, Tryd.func44, rfl, by decide⟩
  · exact ⟨_, Tryd.func45, rfl, by decide⟩
  · exact ⟨_, Tryd.func50, rfl, by decide⟩
  · exact ⟨_, Tryd.func51, rfl, by decide⟩
  · exact ⟨_, Tryd.func52, rfl, by decide⟩
  · exact ⟨_, Tryd.func53, rfl, by decide⟩
  · exact ⟨_, Tryd.func57, rfl, by decide⟩
  · exact ⟨_, Tryd.func58, rfl, by decide⟩
  · exact ⟨_, Tryd.func59, rfl, by decide⟩
  · exact ⟨_, Tryd.func62, rfl, by decide⟩
  · exact ⟨_, Tryd.func63, rfl, by decide⟩
  · exact ⟨_, Tryd.func64, rfl, by decide⟩
  · exact ⟨_, Tryd.func65, rfl, by decide⟩
  · exact ⟨_, Tryd.func66, rfl, by decide⟩
  · exact ⟨_, Tryd.func67, rfl, by decide⟩
  · exact ⟨_, Tryd.func68, rfl, by decide⟩
  · exact ⟨_, Tryd.func69, rfl, by decide⟩
  · exact ⟨_, Tryd.func70, rfl, by decide⟩
  · exact ⟨_, Tryd.func71, rfl, by decide⟩
  · exact ⟨_, Tryd.func73, rfl, by decide⟩
  · exact ⟨_, Tryd.func78, rfl, by decide⟩
  · exact ⟨_, Tryd.func82, rfl, by decide⟩
  · exact ⟨_, Tryd.func84, rfl, by decide⟩
  · exact ⟨_, Tryd.func85, rfl, by decide⟩
  · exact ⟨_, Tryd.func86, rfl, by decide⟩
  · exact ⟨_, Tryd.func87, rfl, by decide⟩
  · exact ⟨_, Tryd.func88, rfl, by decide⟩
  · exact ⟨_, Tryd.func89, rfl, by decide⟩
  · exact ⟨_, Tryd.func98, rfl, by decide⟩
  · exact ⟨_, Tryd.func99, rfl, by decide⟩
  · exact ⟨_, Tryd.func100, rfl, by decide⟩
theorem mixed : Tryd.prog.follows .mixedOrders = true := by kernel_rfl
/-- Letters as cells. -/
def bv (l : List UInt8) : List AV := l.map fun c => .int .u8 c.toNat
def kdI (_ : Nat) : Kd := .one (.int .i64)
theorem bv_len (l : List UInt8) : (bv l).length = l.length := by simp [bv]
theorem bv_back : ∀ l : List UInt8, (bv l).mapM byteOfA = some l
  | [] => rfl
  | c :: l => by
    have hc : byteOfA (.int .u8 c.toNat) = some c := by simp [byteOfA]
    have e : bv (c :: l) = .int .u8 c.toNat :: bv l := rfl
    rw [e, List.mapM_cons, hc, bv_back l]
    rfl
noncomputable def sLive : List AV → AHeap → Option AV := fun vs _ => @ite _ (vs = []) (Classical.propDecidable _) (some (.bool true)) none
def u64B (a : Int) : Bool := decide (0 ≤ a) && decide (a < 18446744073709551616)
def sFrom : List AV → Option AV
  | [.int .u64 a] => some (.agg [.int .u64 a, .int .u64 0, .int .u64 0, .int .u64 0])
  | _ => none
/-- A number's limbs. -/
def limbs (n : Int) : List AV := [.int .u64 (n % 18446744073709551616), .int .u64 (n / 18446744073709551616 % 18446744073709551616), .int .u64 (n / 18446744073709551616 / 18446744073709551616 % 18446744073709551616), .int .u64 (n / 18446744073709551616 / 18446744073709551616 / 18446744073709551616 % 18446744073709551616)]
def num4 (a b c d : Int) : Int := a + 18446744073709551616 * (b + 18446744073709551616 * (c + 18446744073709551616 * d))
def u64s (a b c d : Int) : Bool := u64B a && u64B b && u64B c && u64B d
def sAdd : List AV → Option AV
  | [.agg [.int .u64 a0, .int .u64 a1, .int .u64 a2, .int .u64 a3], .agg [.int .u64 b0, .int .u64 b1, .int .u64 b2, .int .u64 b3]] => if u64s a0 a1 a2 a3 && u64s b0 b1 b2 b3 then
      some (.tup [.agg (limbs (num4 a0 a1 a2 a3 + num4 b0 b1 b2 b3)), .bool (decide (num4 a0 a1 a2 a3 + num4 b0 b1 b2 b3 ≥ 115792089237316195423570985008687907853269984665640564039457584007913129639936))]) else none
  | _ => none
def sMul : List AV → Option AV
  | [.agg [.int .u64 a0, .int .u64 a1, .int .u64 a2, .int .u64 a3], .agg [.int .u64 b0, .int .u64 b1, .int .u64 b2, .int .u64 b3]] => if u64s a0 a1 a2 a3 && u64s b0 b1 b2 b3 then
      some (.tup [.agg (limbs (num4 a0 a1 a2 a3 * num4 b0 b1 b2 b3 / 115792089237316195423570985008687907853269984665640564039457584007913129639936)), .agg (limbs (num4 a0 a1 a2 a3 * num4 b0 b1 b2 b3))]) else none
  | _ => none
def i64 : Rs1 := .one (.int .u64)
def ag4 : Rs1 := .agg [.int .u64, .int .u64, .int .u64, .int .u64]
def kdU (_ : Nat) : Kd := .one (.int .u64)
def CL0 : Cfg := tbC Q [] (fun _ => false) kdU
theorem fdiv32 (x : Int) : Int.fdiv x (2 ^ min 32 (IntKind.bits .u64)) = x / 4294967296 := by
  show Int.fdiv x (2 ^ 32) = _
  rw [Int.fdiv_eq_ediv_of_nonneg _ (by decide)]
  rfl
theorem mul_bd {a b : Int} (ha : 0 ≤ a) (ha2 : a < 4294967296) (hb : 0 ≤ b) (hb2 : b < 4294967296) : 0 ≤ a * b ∧ a * b ≤ 18446744065119617025 := by
  refine ⟨Int.mul_nonneg ha hb, ?_⟩
  calc a * b ≤ 4294967295 * 4294967295 := Int.mul_le_mul (by omega) (by omega) hb (by decide)
    _ = 18446744065119617025 := by decide
theorem wrap64 {x : Int} (h0 : 0 ≤ x) (h1 : x < 18446744073709551616) : IntKind.wrap .u64 x = x := by rw [IntKind.wrap_u64]; omega
theorem limbs_of {l0 l1 l2 l3 c : Int} (h0 : 0 ≤ l0) (g0 : l0 < 18446744073709551616) (h1 : 0 ≤ l1) (g1 : l1 < 18446744073709551616) (h2 : 0 ≤ l2) (g2 : l2 < 18446744073709551616) (h3 : 0 ≤ l3) (g3 : l3 < 18446744073709551616) : limbs (l0 + 18446744073709551616 * (l1 + 18446744073709551616 * (l2 + 18446744073709551616 * (l3 + 18446744073709551616 * c)))) = [.int .u64 l0, .int .u64 l1, .int .u64 l2, .int .u64 l3] := by
  unfold limbs
  have d1 : (l0 + 18446744073709551616 * (l1 + 18446744073709551616 * (l2 + 18446744073709551616 * (l3 + 18446744073709551616 * c)))) / 18446744073709551616 = l1 + 18446744073709551616 * (l2 + 18446744073709551616 * (l3 + 18446744073709551616 * c)) := by omega
  have d2 : (l1 + 18446744073709551616 * (l2 + 18446744073709551616 * (l3 + 18446744073709551616 * c))) / 18446744073709551616 = l2 + 18446744073709551616 * (l3 + 18446744073709551616 * c) := by omega
  have d3 : (l2 + 18446744073709551616 * (l3 + 18446744073709551616 * c)) / 18446744073709551616 = l3 + 18446744073709551616 * c := by omega
  rw [d1, d2, d3]
  have m0 : (l0 + 18446744073709551616 * (l1 + 18446744073709551616 * (l2 + 18446744073709551616 * (l3 + 18446744073709551616 * c)))) % 18446744073709551616 = l0 := by omega
  have m1 : (l1 + 18446744073709551616 * (l2 + 18446744073709551616 * (l3 + 18446744073709551616 * c))) % 18446744073709551616 = l1 := by omega
  have m2 : (l2 + 18446744073709551616 * (l3 + 18446744073709551616 * c)) % 18446744073709551616 = l2 := by omega
  have m3 : (l3 + 18446744073709551616 * c) % 18446744073709551616 = l3 := by omega
  rw [m0, m1, m2, m3]
def z4 : AObj := .row 24 4 [.int .u64 0, .int .u64 0, .int .u64 0, .int .u64 0]
/-- Digits to the base 2^32. -/
def val : List Int → Int
  | [] => 0
  | x :: l => x + 4294967296 * val l
theorem v70 (a : Int) (R : AV → AHeap → Prop) : (R (AV.agg [AV.int .u64 a, AV.int .u64 0, AV.int .u64 0, AV.int .u64 0]) [AObj.row 24 4 [AV.int .u64 a, AV.int .u64 0, AV.int .u64 0, AV.int .u64 0]]) = (wpF Tryd.prog CL0 60 p70 [.int .u64 a] [] R) := by kernel_rfl
theorem fdiv0 (x : Int) : Int.fdiv x (2 ^ min 0 (IntKind.bits .u64)) = x := by
  show Int.fdiv x 1 = x
  exact Int.fdiv_one x
def isD (c : UInt8) : Bool := decide (48 ≤ c.toNat) && decide (c.toNat ≤ 57)
def allD (s : List UInt8) : Bool := s.all isD
def foldD : Int → List UInt8 → Option Int
  | v, [] => some v
  | v, c :: l => if v * 10 + ((c.toNat : Int) - 48) ≥ 115792089237316195423570985008687907853269984665640564039457584007913129639936 then none else foldD (v * 10 + ((c.toNat : Int) - 48)) l
def parseN (s : List UInt8) : Int × Int :=
  if s.isEmpty then (0, 10) else if s.getD 0 0 == 48 && decide (1 < s.length) then (0, 10) else if allD s then (match foldD 0 s with
    | some v => (v, 0)
    | none => (0, 7)) else (0, 10)
def kd53 (t : Nat) : Kd := if t = 32 ∨ t = 47 then .one (.int .u8) else if t = 72 then .agg [.int .u64, .int .u64, .int .u64, .int .u64] else .one (.int .u64)
def zr : AObj := .row 24 4 [.int .u64 0, .int .u64 0, .int .u64 0, .int .u64 0]
-- limb.Parse
theorem mul_ten {v : Int} (h0 : 0 ≤ v) (h1 : v < 115792089237316195423570985008687907853269984665640564039457584007913129639936) : sMul [.agg (limbs v), .agg [.int .u64 10, .int .u64 0, .int .u64 0, .int .u64 0]] = some (.tup [.agg (limbs (v * 10 / 115792089237316195423570985008687907853269984665640564039457584007913129639936)), .agg (limbs (v * 10))]) := by
  unfold limbs sMul
  have hu : (u64s (v % 18446744073709551616) (v / 18446744073709551616 % 18446744073709551616) (v / 18446744073709551616 / 18446744073709551616 % 18446744073709551616) (v / 18446744073709551616 / 18446744073709551616 / 18446744073709551616 % 18446744073709551616) && u64s 10 0 0 0) = true := by
    simp only [u64s, u64B, Bool.and_eq_true, decide_eq_true_eq]; omega
  simp only [hu, if_true]
  have hn : num4 (v % 18446744073709551616) (v / 18446744073709551616 % 18446744073709551616) (v / 18446744073709551616 / 18446744073709551616 % 18446744073709551616) (v / 18446744073709551616 / 18446744073709551616 / 18446744073709551616 % 18446744073709551616) = v := by unfold num4; omega
  have ht : num4 10 0 0 0 = 10 := by unfold num4; omega
  rw [hn, ht]
  rfl
theorem drop_cons {s : List UInt8} {i : Nat} (h : i < s.length) : s.drop i = s.getD i 0 :: s.drop (i + 1) := by
  rw [List.drop_eq_getElem_cons h, List.getD_eq_getElem?_getD, List.getElem?_eq_getElem h]; rfl
theorem pn_rest {s : List UInt8} (h : s ≠ []) (hz : (s.getD 0 0 == 48) = false ∨ ¬ 1 < s.length) : parseN s = if allD s = true then (match foldD 0 s with
    | some v => ((v, 0) : Int × Int)
    | none => (0, 7)) else (0, 10) := by
  have he : s.isEmpty = false := by cases s with | nil => exact absurd rfl h | cons _ _ => rfl
  have h2 : ¬ ((s.getD 0 0 == 48 && decide (1 < s.length)) = true) := by
    rcases hz with hz | hz
    · rw [hz]; simp
    · rw [decide_eq_false hz]; simp
  unfold parseN
  rw [if_neg (by rw [he]; decide), if_neg h2]
  all_goals
    by_cases hA : allD s = true
    · rw [if_pos hA, if_pos hA]
      try (cases foldD 0 s <;> rfl)
    · rw [if_neg hA, if_neg hA]
def dgA (s : List UInt8) (i : Nat) : Bool := decide (i < s.length) && isD (s.getD i 0)
def sDigit : List AV → Option AV
  | [.str s, .int .i64 i] => if 0 ≤ i then some (.bool (dgA s i.toNat)) else none
  | _ => none
def runD : List UInt8 → Nat
  | [] => 0
  | c :: l => if isD c then runD l + 1 else 0
def behindL (neg : Bool) : List UInt8 → Nat → Bool → Nat → Nat
  | [], _, _, good => good
  | c :: l, i, low, good => if isD c then behindL neg l (i + 1) (low || c != 48) (if (low || c != 48) || !neg then i + 1 else good) else good
def wholeP (neg : Bool) (s : List UInt8) (i : Nat) (low : Bool) : Nat :=
  if decide (i < s.length) && s.getD i 0 == 46 then behindL neg (s.drop (i + 1)) (i + 1) low (if low || !neg then i else 0) else (if low || !neg then i else 0)
def prefixF (s : List UInt8) : Nat :=
  if dgA s (if decide (0 < s.length) && s.getD 0 0 == 45 then 1 else 0) then
    (if s.getD (if decide (0 < s.length) && s.getD 0 0 == 45 then 1 else 0) 0 == 48 then wholeP (decide (0 < s.length) && s.getD 0 0 == 45) s ((if decide (0 < s.length) && s.getD 0 0 == 45 then 1 else 0) + 1) false
    else wholeP (decide (0 < s.length) && s.getD 0 0 == 45) s ((if decide (0 < s.length) && s.getD 0 0 == 45 then 1 else 0) + runD (s.drop (if decide (0 < s.length) && s.getD 0 0 == 45 then 1 else 0))) true) else 0
def tb37 : List TbE := [⟨38, fun vs _ => sDigit vs, .of (.one .bool)⟩]
def q37 (s : List UInt8) (good : Int) (i : Nat) (low neg : Bool) : St := (envOf 69 [(0, .str s), (3, .int .i64 good), (4, .int .i64 i), (5, .bool low), (6, .bool neg)], [])
def r37 (v : Int) : St := (envOf 69 [(2, .int .i64 v), (3, .int .i64 v), (68, .int .i64 v)], [])
def C37 : Cfg := { tbC Q tb37 (fun _ => false) kdI with
  F := fun id => if id = 21 then ⟨dropT 69 [3], .all⟩ else if id = 1000002 ∨ id = 1000003 then ⟨dropT 69 [0, 3, 4, 5, 6], .all⟩ else ⟨[], .all⟩ }
def G37 (s : List UInt8) (m : Nat) (l : Nat) : Option (St → (AExit → St → Prop) → Prop) :=
  if l = 2 then some fun st K => ∃ (i : Nat) (neg : Bool), st = q37 s 0 i true neg ∧ (dgA s i = true ∧ s.length - i < m) ∧ K .ret (r37 (wholeP neg s (i + runD (s.drop i)) true))
  else if l = 3 then some fun st K => ∃ (i good : Nat) (low neg : Bool), st = q37 s good i low neg ∧ (i ≤ s.length ∧ s.length - i < m) ∧ K .ret (r37 (behindL neg (s.drop i) i low good)) else none
theorem v37 (s : List UInt8) (m : Nat) (R : AV → AHeap → Prop) : (askB (decide ((↑(List.length s) : Int) > 0)) (chkW (decide (0 < List.length s)) (askB ((↑(UInt8.toNat (List.getD s 0 0)) : Int) == 45) (∃ (b : Bool), some (AV.bool (dgA s 1)) = some (AV.bool b) ∧ askB b (chkW (decide (1 < List.length s)) (askB ((↑(UInt8.toNat (List.getD s 1 0)) : Int) == 48) (askB (decide (2 ≥ (↑(List.length s) : Int))) (R (AV.int .i64 0) []) (chkW (decide (2 < List.length s)) (askB ((↑(UInt8.toNat (List.getD s 2 0)) : Int) != 46) (R (AV.int .i64 0) []) (∃ (b : Bool), some (AV.bool (dgA s 3)) = some (AV.bool b) ∧ askB b (chkW (decide (3 < List.length s)) (askB ((↑(UInt8.toNat (List.getD s 3 0)) : Int) != 48) (∃ (i : Nat), ∃ (good : Nat), ∃ (low : Bool), ∃ (neg : Bool), (envOf 69 [(0, AV.str s), (3, AV.int .i64 4), (4, AV.int .i64 4), (5, AV.bool true), (6, AV.bool true)], ([] : AHeap)) = (envOf 69 [(0, AV.str s), (3, AV.int .i64 (↑good : Int)), (4, AV.int .i64 (↑i : Int)), (5, AV.bool low), (6, AV.bool neg)], []) ∧ (i ≤ List.length s ∧ List.length s - i < m) ∧ R (AV.int .i64 (↑(behindL neg (List.drop i s) i low good) : Int)) []) (∃ (i : Nat), ∃ (good : Nat), ∃ (low : Bool), ∃ (neg : Bool), (envOf 69 [(0, AV.str s), (3, AV.int .i64 0), (4, AV.int .i64 4), (5, AV.bool false), (6, AV.bool true)], ([] : AHeap)) = (envOf 69 [(0, AV.str s), (3, AV.int .i64 (↑good : Int)), (4, AV.int .i64 (↑i : Int)), (5, AV.bool low), (6, AV.bool neg)], []) ∧ (i ≤ List.length s ∧ List.length s - i < m) ∧ R (AV.int .i64 (↑(behindL neg (List.drop i s) i low good) : Int)) []))) (R (AV.int .i64 0) []))))) (∃ (b : Bool), some (AV.bool (dgA s 2)) = some (AV.bool b) ∧ askB b (∃ (i : Nat), ∃ (neg : Bool), (envOf 69 [(0, AV.str s), (3, AV.int .i64 0), (4, AV.int .i64 2), (5, AV.bool true), (6, AV.bool true)], ([] : AHeap)) = (envOf 69 [(0, AV.str s), (3, AV.int .i64 0), (4, AV.int .i64 (↑i : Int)), (5, AV.bool true), (6, AV.bool neg)], []) ∧ (dgA s i = true ∧ List.length s - i < m) ∧ R (AV.int .i64 (↑(wholeP neg s (i + runD (List.drop i s)) true) : Int)) []) (askB (decide (2 ≥ (↑(List.length s) : Int))) (R (AV.int .i64 2) []) (chkW (decide (2 < List.length s)) (askB ((↑(UInt8.toNat (List.getD s 2 0)) : Int) != 46) (R (AV.int .i64 2) []) (∃ (b : Bool), some (AV.bool (dgA s 3)) = some (AV.bool b) ∧ askB b (∃ (i : Nat), ∃ (good : Nat), ∃ (low : Bool), ∃ (neg : Bool), (envOf 69 [(0, AV.str s), (3, AV.int .i64 4), (4, AV.int .i64 4), (5, AV.bool true), (6, AV.bool true)], ([] : AHeap)) = (envOf 69 [(0, AV.str s), (3, AV.int .i64 (↑good : Int)), (4, AV.int .i64 (↑i : Int)), (5, AV.bool low), (6, AV.bool neg)], []) ∧ (i ≤ List.length s ∧ List.length s - i < m) ∧ R (AV.int .i64 (↑(behindL neg (List.drop i s) i low good) : Int)) []) (R (AV.int .i64 2) [])))))))) (R (AV.int .i64 0) [])) (∃ (b : Bool), some (AV.bool (dgA s 0)) = some (AV.bool b) ∧ askB b (chkW (decide (0 < List.length s)) (askB ((↑(UInt8.toNat (List.getD s 0 0)) : Int) == 48) (askB (decide (1 ≥ (↑(List.length s) : Int))) (R (AV.int .i64 1) []) (chkW (decide (1 < List.length s)) (askB ((↑(UInt8.toNat (List.getD s 1 0)) : Int) != 46) (R (AV.int .i64 1) []) (∃ (b : Bool), some (AV.bool (dgA s 2)) = some (AV.bool b) ∧ askB b (chkW (decide (2 < List.length s)) (askB ((↑(UInt8.toNat (List.getD s 2 0)) : Int) != 48) (∃ (i : Nat), ∃ (good : Nat), ∃ (low : Bool), ∃ (neg : Bool), (envOf 69 [(0, AV.str s), (3, AV.int .i64 3), (4, AV.int .i64 3), (5, AV.bool true), (6, AV.bool false)], ([] : AHeap)) = (envOf 69 [(0, AV.str s), (3, AV.int .i64 (↑good : Int)), (4, AV.int .i64 (↑i : Int)), (5, AV.bool low), (6, AV.bool neg)], []) ∧ (i ≤ List.length s ∧ List.length s - i < m) ∧ R (AV.int .i64 (↑(behindL neg (List.drop i s) i low good) : Int)) []) (∃ (i : Nat), ∃ (good : Nat), ∃ (low : Bool), ∃ (neg : Bool), (envOf 69 [(0, AV.str s), (3, AV.int .i64 3), (4, AV.int .i64 3), (5, AV.bool false), (6, AV.bool false)], ([] : AHeap)) = (envOf 69 [(0, AV.str s), (3, AV.int .i64 (↑good : Int)), (4, AV.int .i64 (↑i : Int)), (5, AV.bool low), (6, AV.bool neg)], []) ∧ (i ≤ List.length s ∧ List.length s - i < m) ∧ R (AV.int .i64 (↑(behindL neg (List.drop i s) i low good) : Int)) []))) (R (AV.int .i64 1) []))))) (∃ (b : Bool), some (AV.bool (dgA s 1)) = some (AV.bool b) ∧ askB b (∃ (i : Nat), ∃ (neg : Bool), (envOf 69 [(0, AV.str s), (3, AV.int .i64 0), (4, AV.int .i64 1), (5, AV.bool true), (6, AV.bool false)], ([] : AHeap)) = (envOf 69 [(0, AV.str s), (3, AV.int .i64 0), (4, AV.int .i64 (↑i : Int)), (5, AV.bool true), (6, AV.bool neg)], []) ∧ (dgA s i = true ∧ List.length s - i < m) ∧ R (AV.int .i64 (↑(wholeP neg s (i + runD (List.drop i s)) true) : Int)) []) (askB (decide (1 ≥ (↑(List.length s) : Int))) (R (AV.int .i64 1) []) (chkW (decide (1 < List.length s)) (askB ((↑(UInt8.toNat (List.getD s 1 0)) : Int) != 46) (R (AV.int .i64 1) []) (∃ (b : Bool), some (AV.bool (dgA s 2)) = some (AV.bool b) ∧ askB b (∃ (i : Nat), ∃ (good : Nat), ∃ (low : Bool), ∃ (neg : Bool), (envOf 69 [(0, AV.str s), (3, AV.int .i64 3), (4, AV.int .i64 3), (5, AV.bool true), (6, AV.bool false)], ([] : AHeap)) = (envOf 69 [(0, AV.str s), (3, AV.int .i64 (↑good : Int)), (4, AV.int .i64 (↑i : Int)), (5, AV.bool low), (6, AV.bool neg)], []) ∧ (i ≤ List.length s ∧ List.length s - i < m) ∧ R (AV.int .i64 (↑(behindL neg (List.drop i s) i low good) : Int)) []) (R (AV.int .i64 1) [])))))))) (R (AV.int .i64 0) [])))) (∃ (b : Bool), some (AV.bool (dgA s 0)) = some (AV.bool b) ∧ askB b (chkW (decide (0 < List.length s)) (askB ((↑(UInt8.toNat (List.getD s 0 0)) : Int) == 48) (askB (decide (1 ≥ (↑(List.length s) : Int))) (R (AV.int .i64 1) []) (chkW (decide (1 < List.length s)) (askB ((↑(UInt8.toNat (List.getD s 1 0)) : Int) != 46) (R (AV.int .i64 1) []) (∃ (b : Bool), some (AV.bool (dgA s 2)) = some (AV.bool b) ∧ askB b (chkW (decide (2 < List.length s)) (askB ((↑(UInt8.toNat (List.getD s 2 0)) : Int) != 48) (∃ (i : Nat), ∃ (good : Nat), ∃ (low : Bool), ∃ (neg : Bool), (envOf 69 [(0, AV.str s), (3, AV.int .i64 3), (4, AV.int .i64 3), (5, AV.bool true), (6, AV.bool false)], ([] : AHeap)) = (envOf 69 [(0, AV.str s), (3, AV.int .i64 (↑good : Int)), (4, AV.int .i64 (↑i : Int)), (5, AV.bool low), (6, AV.bool neg)], []) ∧ (i ≤ List.length s ∧ List.length s - i < m) ∧ R (AV.int .i64 (↑(behindL neg (List.drop i s) i low good) : Int)) []) (∃ (i : Nat), ∃ (good : Nat), ∃ (low : Bool), ∃ (neg : Bool), (envOf 69 [(0, AV.str s), (3, AV.int .i64 3), (4, AV.int .i64 3), (5, AV.bool false), (6, AV.bool false)], ([] : AHeap)) = (envOf 69 [(0, AV.str s), (3, AV.int .i64 (↑good : Int)), (4, AV.int .i64 (↑i : Int)), (5, AV.bool low), (6, AV.bool neg)], []) ∧ (i ≤ List.length s ∧ List.length s - i < m) ∧ R (AV.int .i64 (↑(behindL neg (List.drop i s) i low good) : Int)) []))) (R (AV.int .i64 1) []))))) (∃ (b : Bool), some (AV.bool (dgA s 1)) = some (AV.bool b) ∧ askB b (∃ (i : Nat), ∃ (neg : Bool), (envOf 69 [(0, AV.str s), (3, AV.int .i64 0), (4, AV.int .i64 1), (5, AV.bool true), (6, AV.bool false)], ([] : AHeap)) = (envOf 69 [(0, AV.str s), (3, AV.int .i64 0), (4, AV.int .i64 (↑i : Int)), (5, AV.bool true), (6, AV.bool neg)], []) ∧ (dgA s i = true ∧ List.length s - i < m) ∧ R (AV.int .i64 (↑(wholeP neg s (i + runD (List.drop i s)) true) : Int)) []) (askB (decide (1 ≥ (↑(List.length s) : Int))) (R (AV.int .i64 1) []) (chkW (decide (1 < List.length s)) (askB ((↑(UInt8.toNat (List.getD s 1 0)) : Int) != 46) (R (AV.int .i64 1) []) (∃ (b : Bool), some (AV.bool (dgA s 2)) = some (AV.bool b) ∧ askB b (∃ (i : Nat), ∃ (good : Nat), ∃ (low : Bool), ∃ (neg : Bool), (envOf 69 [(0, AV.str s), (3, AV.int .i64 3), (4, AV.int .i64 3), (5, AV.bool true), (6, AV.bool false)], ([] : AHeap)) = (envOf 69 [(0, AV.str s), (3, AV.int .i64 (↑good : Int)), (4, AV.int .i64 (↑i : Int)), (5, AV.bool low), (6, AV.bool neg)], []) ∧ (i ≤ List.length s ∧ List.length s - i < m) ∧ R (AV.int .i64 (↑(behindL neg (List.drop i s) i low good) : Int)) []) (R (AV.int .i64 1) [])))))))) (R (AV.int .i64 0) []))) = (wpF Tryd.prog { C37 with gw := G37 s m } 80 p37 [.str s] [] R) := by kernel_rfl
theorem dgA_lt {s : List UInt8} {i : Nat} (h : dgA s i = true) : i < s.length := by
  unfold dgA at h
  simp only [Bool.and_eq_true, decide_eq_true_eq] at h
  exact h.1
theorem dgA_eq {s : List UInt8} {i : Nat} (h : i < s.length) : dgA s i = isD (s.getD i 0) := by
  unfold dgA; rw [decide_eq_true h, Bool.true_and]
theorem runD_at {s : List UInt8} {i : Nat} (h : dgA s i = true) : runD (s.drop i) = runD (s.drop (i + 1)) + 1 := by
  have hl := dgA_lt h
  rw [drop_cons hl]
  rw [dgA_eq hl] at h
  simp only [runD, h, if_true]
theorem runD_no {s : List UInt8} {i : Nat} (h : dgA s i = false) : runD (s.drop i) = 0 := by
  rcases Nat.lt_or_ge i s.length with hl | hl
  · rw [drop_cons hl]
    rw [dgA_eq hl] at h
    simp only [runD, h, Bool.false_eq_true, if_false]
  · rw [List.drop_eq_nil_of_le hl]; rfl
theorem wholeP_no {neg low : Bool} {s : List UInt8} {i : Nat} (h : (decide (i < s.length) && s.getD i 0 == 46) = false) : wholeP neg s i low = if low || !neg then i else 0 := by
  unfold wholeP; rw [h]; rfl
theorem pfx_neg {s : List UInt8} (h : (decide (0 < s.length) && s.getD 0 0 == 45) = true) : prefixF s = if dgA s 1 then (if s.getD 1 0 == 48 then wholeP true s 2 false else wholeP true s (1 + runD (s.drop 1)) true) else 0 := by
  unfold prefixF; rw [h]; rfl
theorem pfx_pos {s : List UInt8} (h : (decide (0 < s.length) && s.getD 0 0 == 45) = false) : prefixF s = if dgA s 0 then (if s.getD 0 0 == 48 then wholeP false s 1 false else wholeP false s (0 + runD (s.drop 0)) true) else 0 := by
  unfold prefixF; rw [h]; rfl
def cut1 (s : List UInt8) (c : UInt8) : List UInt8 × List UInt8 × Bool :=
  if Lib.indexByte s c ≥ 0 then (s.take (Lib.indexByte s c).toNat, s.drop ((Lib.indexByte s c).toNat + 1), true) else (s, [], false)
def digX (w d : List UInt8) : List UInt8 := if (Lib.trimLeftB (w ++ d) 48 == []) = true then [48] else Lib.trimLeftB (w ++ d) 48
def parseWD (neg : Bool) (w d : List UInt8) : Bool × Int × Int × Int :=
  if d.length > 18 then (false, 0, 0, 31)
  else if ((parseN (digX w d)).2 != 0) = true then (false, 0, 0, (parseN (digX w d)).2)
  else (neg, (parseN (digX w d)).1, d.length, 0)
def parseD (s : List UInt8) : Bool × Int × Int × Int :=
  if ((s == []) || ((prefixF s : Int) != (s.length : Int))) = true then (false, 0, 0, 30)
  else parseWD (Lib.hasPrefix s [45]) (cut1 (Lib.trimPrefix s [45]) 46).1 (cut1 (Lib.trimPrefix s [45]) 46).2.1
def decV (neg : Bool) (v sc : Int) : AV := .agg (.bool neg :: (limbs v ++ [.int .i64 sc]))
def decX (p : Bool × Int × Int × Int) : AV := .tup [decV p.1 p.2.1 p.2.2.1, .int .i64 p.2.2.2]
def X (s : List UInt8) : AV := decX (parseD s)
theorem runD_le : ∀ l : List UInt8, runD l ≤ l.length
  | [] => Nat.le_refl _
  | c :: l => by
    unfold runD
    split
    · have := runD_le l; simp only [List.length_cons]; omega
    · omega
def nzD : List UInt8 → Bool
  | [] => false
  | c :: l => if isD c then c != 48 || nzD l else false
def wRf (s : List UInt8) (fr : Nat) : Bool :=
  if runD (s.drop fr) == 0 || (s.getD fr 0 == 48 && decide (1 < runD (s.drop fr))) then false
  else if decide (fr + runD (s.drop fr) < s.length) then
    (if s.getD (fr + runD (s.drop fr)) 0 != 46 || fr + runD (s.drop fr) + 1 == s.length then false
     else if fr + runD (s.drop fr) + 1 + runD (s.drop (fr + runD (s.drop fr) + 1)) == s.length then (nzD (s.drop fr) || nzD (s.drop (fr + runD (s.drop fr) + 1))) || s.getD 0 0 != 45 else false)
  else nzD (s.drop fr) || s.getD 0 0 != 45
def wR (s : List UInt8) : Bool := wRf s (if decide (0 < s.length) && s.getD 0 0 == 45 then 1 else 0)
theorem rd_yes {s : List UInt8} {i : Nat} (h : i < s.length) (hd : isD (s.getD i 0) = true) : runD (s.drop i) = runD (s.drop (i + 1)) + 1 := by
  rw [drop_cons h]; exact if_pos hd
theorem nz_yes {s : List UInt8} {i : Nat} (h : i < s.length) (hd : isD (s.getD i 0) = true) : nzD (s.drop i) = (s.getD i 0 != 48 || nzD (s.drop (i + 1))) := by
  rw [drop_cons h]; exact if_pos hd
theorem nz_no {s : List UInt8} {i : Nat} (h : i < s.length) (hd : isD (s.getD i 0) = false) : nzD (s.drop i) = false := by
  rw [drop_cons h]; exact if_neg (by rw [hd]; decide)
def allR : List UInt8 → List UInt8 → List UInt8
  | [], acc => acc
  | c :: l, acc => if c == 46 then allR l acc else if isD c then (if decide (0 < acc.length) || c != 48 then allR l (acc ++ [c]) else allR l acc) else allR l acc
def behR : List UInt8 → Bool → Nat → Nat
  | [], _, b => b
  | c :: l, p, b => if c == 46 then behR l true b else if isD c then behR l p (if p then b + 1 else b) else behR l p b
theorem beh_full (neg : Bool) : ∀ (l : List UInt8) (j : Nat) (low : Bool) (g : Nat), g < j + l.length → (behindL neg l j low g = j + l.length ↔ (l ≠ [] ∧ runD l = l.length ∧ (low || nzD l || !neg) = true))
  | [], j, low, g, h => by
    simp only [behindL, List.length_nil, Nat.add_zero] at h ⊢
    constructor
    · omega
    · rintro ⟨h1, _⟩; exact absurd rfl h1
  | c :: l, j, low, g, h => by
    simp only [List.length_cons] at h ⊢
    rw [behindL, runD, nzD]
    cases hd : isD c with
    | false =>
      simp only [Bool.false_eq_true, if_false]
      constructor
      · omega
      · rintro ⟨_, h2, _⟩; omega
    | true =>
      simp only [if_true]
      cases l with
      | nil =>
        simp only [behindL, runD, nzD, List.length_nil, Nat.zero_add, Bool.or_false]
        cases hq : (low || c != 48 || !neg) with
        | true => simp
        | false =>
          simp only [Bool.false_eq_true, if_false, List.length_nil, Nat.zero_add] at h ⊢
          constructor
          · omega
          · rintro ⟨_, _, h3⟩; exact absurd h3 (by decide)
      | cons d l =>
        have ih := beh_full neg (d :: l) (j + 1) (low || c != 48) (if (low || c != 48) || !neg then j + 1 else g) (by simp only [List.length_cons] at h ⊢; split <;> omega)
        have e1 : j + ((d :: l).length + 1) = j + 1 + (d :: l).length := by omega
        rw [e1, ih]
        constructor
        · rintro ⟨_, h2, h3⟩
          exact ⟨List.cons_ne_nil _ _, by omega, by rw [← h3]; simp only [Bool.or_assoc]⟩
        · rintro ⟨_, h2, h3⟩
          exact ⟨List.cons_ne_nil _ _, by omega, by rw [← h3]; simp only [Bool.or_assoc]⟩
def wX (s : List UInt8) (i : Nat) (low : Bool) : Bool :=
  if decide (i < s.length) then (if s.getD i 0 != 46 || i + 1 == s.length then false else if i + 1 + runD (s.drop (i + 1)) == s.length then (low || nzD (s.drop (i + 1))) || s.getD 0 0 != 45 else false) else low || s.getD 0 0 != 45
theorem whole_full {s : List UInt8} {i : Nat} {low neg : Bool} (h0 : 0 < i) (hi : i ≤ s.length) (hn : (s.getD 0 0 != 45) = !neg) : (wholeP neg s i low = s.length) ↔ wX s i low = true := by
  unfold wX wholeP
  rw [hn]
  rcases Nat.lt_or_ge i s.length with h | h
  · rw [decide_eq_true h, if_pos rfl, Bool.true_and]
    cases h46 : (s.getD i 0 == 46) with
    | false =>
      rw [bne, h46]
      simp only [Bool.false_eq_true, if_false, Bool.not_false, Bool.true_or, if_true]
      constructor
      · split <;> omega
      · exact False.elim
    | true =>
      rw [bne, h46]
      simp only [if_true, Bool.not_true, Bool.false_or]
      have hb := beh_full neg (s.drop (i + 1)) (i + 1) low (if low || !neg then i else 0) (by rw [List.length_drop]; split <;> omega)
      rw [List.length_drop, show i + 1 + (s.length - (i + 1)) = s.length by omega] at hb
      rw [hb]
      cases hl : (i + 1 == s.length) with
      | true =>
        rw [beq_iff_eq] at hl
        simp only [if_true]
        constructor
        · rintro ⟨h1, _⟩; exact absurd (List.drop_eq_nil_of_le (by omega)) h1
        · intro h; cases h
      | false =>
        rw [beq_eq_false_iff_ne] at hl
        simp only [Bool.false_eq_true, if_false]
        cases hr : (i + 1 + runD (s.drop (i + 1)) == s.length) with
        | true =>
          rw [beq_iff_eq] at hr
          simp only [if_true]
          constructor
          · rintro ⟨_, _, h3⟩; exact h3
          · intro h3
            refine ⟨fun e => ?_, by omega, h3⟩
            have := congrArg List.length e
            rw [List.length_drop] at this
            simp at this
            omega
        | false =>
          rw [beq_eq_false_iff_ne] at hr
          simp only [Bool.false_eq_true, if_false]
          constructor
          · rintro ⟨_, h2, _⟩; omega
          · exact False.elim
  · have he : i = s.length := by omega
    rw [decide_eq_false (by omega)]
    simp only [Bool.false_and, Bool.false_eq_true, if_false]
    cases (low || !neg) <;> simp <;> omega
theorem nz_first {s : List UInt8} {i : Nat} (h : i < s.length) (hd : isD (s.getD i 0) = true) (h48 : (s.getD i 0 == 48) = false) : nzD (s.drop i) = true := by
  rw [nz_yes h hd, bne, h48]; rfl
theorem wR_len {s : List UInt8} (hl : 0 < s.length) : wR s = true ↔ prefixF s = s.length := by
  have gen : ∀ (fr : Nat) (neg : Bool), fr ≤ 1 → fr ≤ s.length → (s.getD 0 0 != 45) = !neg → (wRf s fr = true ↔ (if dgA s fr then (if s.getD fr 0 == 48 then wholeP neg s (fr + 1) false else wholeP neg s (fr + runD (s.drop fr)) true) else 0) = s.length) := by
    intro fr neg hf hfl hn
    have hX : wRf s fr = if runD (s.drop fr) == 0 || (s.getD fr 0 == 48 && decide (1 < runD (s.drop fr))) then false else wX s (fr + runD (s.drop fr)) (nzD (s.drop fr)) := by
      unfold wRf wX
      split
      · rfl
      · rfl
    rw [hX]
    cases hd : dgA s fr with
    | false =>
      rw [runD_no hd]
      simp
      omega
    | true =>
      have hlt := dgA_lt hd
      have hdi : isD (s.getD fr 0) = true := by rw [← dgA_eq hlt]; exact hd
      have hr := runD_at hd
      have hk : (runD (s.drop fr) == 0) = false := by rw [beq_eq_false_iff_ne]; omega
      have hrl := runD_le (s.drop fr)
      rw [List.length_drop] at hrl
      rw [hk, Bool.false_or]
      simp only [if_true]
      cases h48 : (s.getD fr 0 == 48) with
      | false =>
        simp only [Bool.false_and, Bool.false_eq_true, if_false]
        rw [whole_full (by omega) (by omega) hn, nz_first hlt hdi h48]
      | true =>
        simp only [Bool.true_and, if_true]
        rcases Nat.lt_or_ge 1 (runD (s.drop fr)) with h1 | h1
        · rw [decide_eq_true h1]
          simp only [if_true]
          have hd1 : dgA s (fr + 1) = true := by
            cases h : dgA s (fr + 1) with
            | true => rfl
            | false => rw [runD_no h] at hr; omega
          have hl1 := dgA_lt hd1
          rw [dgA_eq hl1] at hd1
          have h46 : (s.getD (fr + 1) 0 == 46) = false := by
            rw [beq_eq_false_iff_ne]; intro e; rw [e] at hd1; cases hd1
          constructor
          · intro h; cases h
          · rw [wholeP_no (by rw [h46, Bool.and_false])]
            intro h; split at h <;> omega
        · rw [decide_eq_false (by omega)]
          simp only [Bool.false_eq_true, if_false]
          have hk1 : runD (s.drop fr) = 1 := by omega
          have hnz : nzD (s.drop fr) = false := by
            rw [nz_yes hlt hdi]
            have : nzD (s.drop (fr + 1)) = false := by
              rcases Nat.lt_or_ge (fr + 1) s.length with h | h
              · exact nz_no h (by
                  cases hc : isD (s.getD (fr + 1) 0) with
                  | false => rfl
                  | true => rw [rd_yes h hc] at hr; omega)
              · rw [List.drop_eq_nil_of_le h]; rfl
            rw [this, Bool.or_false, bne, h48]; rfl
          rw [hk1, hnz, whole_full (by omega) (by omega) hn]
  unfold wR
  cases hn : (decide (0 < s.length) && s.getD 0 0 == 45) with
  | true =>
    rw [pfx_neg hn]
    rw [decide_eq_true hl, Bool.true_and] at hn
    exact gen 1 true (by omega) (by omega) (by rw [bne, hn])
  | false =>
    rw [pfx_pos hn]
    rw [decide_eq_true hl, Bool.true_and] at hn
    exact gen 0 false (by omega) (by omega) (by rw [bne, hn])
theorem wR_nil : wR [] = false := by decide
theorem cond_eq (s : List UInt8) : ((s == []) || ((prefixF s : Int) != (s.length : Int))) = !wR s := by
  rcases Nat.lt_or_ge 0 s.length with h | h
  · have he : (s == []) = false := by
      cases s with
      | nil => cases h
      | cons _ _ => rfl
    rw [he, Bool.false_or]
    cases hw : wR s with
    | true =>
      have := (wR_len h).1 hw
      rw [this]; simp
    | false =>
      rw [Bool.not_false, bne_iff_ne]
      intro e
      have : prefixF s = s.length := by omega
      rw [(wR_len h).2 this] at hw
      cases hw
  · have : s = [] := List.eq_nil_of_length_eq_zero (by omega)
    subst this
    rw [wR_nil]; rfl
theorem all_run {l : List UInt8} (h : runD l = l.length) : ∀ c ∈ l, isD c = true := by
  induction l with
  | nil => intro c hc; cases hc
  | cons d l ih =>
    rw [runD] at h
    cases hd : isD d with
    | false => rw [hd] at h; simp at h
    | true =>
      rw [hd] at h
      simp only [if_true, List.length_cons] at h
      intro c hc
      rcases List.mem_cons.1 hc with rfl | hc
      · exact hd
      · exact ih (by omega) c hc
theorem take_run : ∀ l : List UInt8, ∀ c ∈ l.take (runD l), isD c = true
  | [], c, hc => by cases hc
  | d :: l, c, hc => by
    rw [runD] at hc
    cases hd : isD d with
    | false => rw [hd] at hc; cases hc
    | true =>
      rw [hd] at hc
      simp only [if_true, List.take_succ_cons] at hc
      rcases List.mem_cons.1 hc with rfl | hc
      · exact hd
      · exact take_run l c hc
theorem isD_46 {c : UInt8} (h : isD c = true) : (c == 46) = false := by
  rw [beq_eq_false_iff_ne]; rintro rfl; cases h
theorem al1 : ∀ (l acc r : List UInt8), (∀ c ∈ l, isD c = true) → 0 < acc.length → allR (l ++ r) acc = allR r (acc ++ l)
  | [], acc, r, _, _ => by rw [List.nil_append, List.append_nil]
  | c :: l, acc, r, h, ha => by
    have hc := h c (List.mem_cons_self ..)
    rw [List.cons_append, allR, if_neg (by rw [isD_46 hc]; decide), if_pos hc, if_pos (by rw [decide_eq_true ha]; rfl), al1 l (acc ++ [c]) r (fun d hd => h d (List.mem_cons_of_mem _ hd)) (by simp), List.append_assoc]
    rfl
def dw (l : List UInt8) : List UInt8 := l.dropWhile (· == 48)
theorem dw_cons (c : UInt8) (l : List UInt8) : dw (c :: l) = if c == 48 then dw l else c :: l := by
  unfold dw; rw [List.dropWhile_cons]
theorem al2 : ∀ (l r : List UInt8), (∀ c ∈ l, isD c = true) → allR (l ++ r) [] = allR r (dw l)
  | [], r, _ => rfl
  | c :: l, r, h => by
    have hc := h c (List.mem_cons_self ..)
    have hl : ∀ d ∈ l, isD d = true := fun d hd => h d (List.mem_cons_of_mem _ hd)
    rw [List.cons_append, allR, if_neg (by rw [isD_46 hc]; decide), if_pos hc, dw_cons]
    cases h48 : (c == 48) with
    | true =>
      rw [if_neg (by rw [bne, h48]; decide), if_pos rfl]
      exact al2 l r hl
    | false =>
      rw [if_pos (by rw [bne, h48]; rfl), if_neg (by decide), List.nil_append, al1 l [c] r hl (by simp)]
      rfl
theorem dw_app (a b : List UInt8) : dw (a ++ b) = if (dw a).isEmpty then dw b else dw a ++ b := by
  unfold dw; rw [List.dropWhile_append]
theorem al3 (w d : List UInt8) (hw : ∀ c ∈ w, isD c = true) (hd : ∀ c ∈ d, isD c = true) : allR (w ++ 46 :: d) [] = dw (w ++ d) := by
  rw [al2 w _ hw, dw_app]
  have e : allR (46 :: d) (dw w) = allR d (dw w) := by rw [allR]; rfl
  rw [e]
  have e2 : d = d ++ [] := (List.append_nil d).symm
  split
  · rename_i h
    rw [List.isEmpty_iff.1 h]
    conv => lhs; rw [e2]
    rw [al2 d [] hd]; rfl
  · rename_i h
    conv => lhs; rw [e2]
    rw [al1 d _ [] hd (by
      cases hh : dw w with
      | nil => rw [hh] at h; exact absurd rfl h
      | cons _ _ => simp)]
    rfl
theorem be1 : ∀ (l r : List UInt8) (b : Nat), (∀ c ∈ l, isD c = true) → behR (l ++ r) false b = behR r false b
  | [], _, _, _ => rfl
  | c :: l, r, b, h => by
    have hc := h c (List.mem_cons_self ..)
    rw [List.cons_append, behR, if_neg (by rw [isD_46 hc]; decide), if_pos hc]
    exact be1 l r b fun d hd => h d (List.mem_cons_of_mem _ hd)
theorem be2 : ∀ (l : List UInt8) (b : Nat), (∀ c ∈ l, isD c = true) → behR l true b = b + l.length
  | [], _, _ => rfl
  | c :: l, b, h => by
    have hc := h c (List.mem_cons_self ..)
    rw [behR, if_neg (by rw [isD_46 hc]; decide), if_pos hc, if_pos rfl, be2 l (b + 1) fun d hd => h d (List.mem_cons_of_mem _ hd)]
    simp only [List.length_cons]; omega
theorem ix_no : ∀ (l : List UInt8), (∀ c ∈ l, isD c = true) → Lib.indexByte l 46 = -1
  | [], _ => rfl
  | c :: l, h => by
    have hc := h c (List.mem_cons_self ..)
    rw [Lib.indexByte, if_neg (by rw [isD_46 hc]; decide), ix_no l fun d hd => h d (List.mem_cons_of_mem _ hd)]
    rfl
theorem ix_at : ∀ (l d : List UInt8), (∀ c ∈ l, isD c = true) → Lib.indexByte (l ++ 46 :: d) 46 = (l.length : Int)
  | [], d, _ => by rw [List.nil_append, Lib.indexByte]; rfl
  | c :: l, d, h => by
    have hc := h c (List.mem_cons_self ..)
    rw [List.cons_append, Lib.indexByte, if_neg (by rw [isD_46 hc]; decide), ix_at l d fun d hd => h d (List.mem_cons_of_mem _ hd), if_neg (by rw [beq_iff_eq]; omega), List.length_cons]
    omega
def parse44 (s : List UInt8) : Bool × Int × Int × Int :=
  if wR s = false then (false, 0, 0, 30) else if behR s false 0 > 18 then (false, 0, 0, 31)
  else if (allR s []).isEmpty then (s.getD 0 0 == 45, 0, (behR s false 0 : Nat), 0)
  else if ((parseN (allR s [])).2 != 0) = true then (false, 0, 0, (parseN (allR s [])).2) else (s.getD 0 0 == 45, (parseN (allR s [])).1, (behR s false 0 : Nat), 0)
/-- A whole text: its digits. -/
theorem split_whole {t : List UInt8} (h1 : 0 < runD t) (h : runD t = t.length ∨ (runD t < t.length ∧ t.getD (runD t) 0 = 46 ∧ runD (t.drop (runD t + 1)) = (t.drop (runD t + 1)).length)) :
    allR t [] = dw ((cut1 t 46).1 ++ (cut1 t 46).2.1) ∧ behR t false 0 = (cut1 t 46).2.1.length := by
  rcases h with h | ⟨ha, hb, hc⟩
  · have hall := all_run h
    have hcut : cut1 t 46 = (t, [], false) := by
      unfold cut1; rw [ix_no t hall]; rfl
    rw [hcut]
    refine ⟨?_, ?_⟩
    · have := al2 t [] hall
      rw [List.append_nil] at this
      rw [this, List.append_nil]; rfl
    · have := be1 t [] 0 hall
      rw [List.append_nil] at this
      rw [this]; rfl
  · have hw := take_run t
    have hd := all_run hc
    have ht : t = t.take (runD t) ++ 46 :: t.drop (runD t + 1) := by
      have e := List.take_append_drop (runD t) t
      rw [drop_cons ha, hb] at e
      exact e.symm
    generalize t.take (runD t) = w at hw ht
    generalize t.drop (runD t + 1) = d at hd ht
    subst ht
    have hcut : cut1 (w ++ 46 :: d) 46 = (w, d, true) := by
      unfold cut1
      rw [ix_at w d hw, if_pos (by omega), Int.toNat_natCast]
      rw [List.take_left' rfl, show w.length + 1 = (w ++ [46]).length by simp, show w ++ 46 :: d = (w ++ [46]) ++ d by simp, List.drop_left' rfl]
    rw [hcut]
    refine ⟨al3 w d hw hd, ?_⟩
    have e : behR (46 :: d) false 0 = behR d true 0 := by rw [behR]; rfl
    rw [be1 w _ 0 hw, e, be2 d 0 hd]; simp
theorem pWD (neg : Bool) (w d : List UInt8) : parseWD neg w d = if d.length > 18 then (false, 0, 0, 31)
    else if (dw (w ++ d)).isEmpty then (neg, 0, (d.length : Int), 0)
    else if ((parseN (dw (w ++ d))).2 != 0) = true then (false, 0, 0, (parseN (dw (w ++ d))).2) else (neg, (parseN (dw (w ++ d))).1, (d.length : Int), 0) := by
  unfold parseWD
  split
  · rfl
  · have h48 : parseN [48] = (0, 0) := by decide +kernel
    have hX : digX w d = if (dw (w ++ d)).isEmpty then [48] else dw (w ++ d) := by
      unfold digX dw Lib.trimLeftB
      cases h : List.dropWhile (fun x => x == 48) (w ++ d) with
      | nil => rfl
      | cons _ _ => rfl
    rw [hX]
    cases h : (dw (w ++ d)).isEmpty with
    | true =>
      simp only [if_true, h48]
      rfl
    | false =>
      simp only [Bool.false_eq_true, if_false]
theorem parse_same (s : List UInt8) : parse44 s = parseD s := by
  unfold parse44 parseD
  rw [cond_eq]
  cases hw : wR s with
  | false => rfl
  | true =>
    rw [if_neg (show ¬ (true = false) by decide), if_neg (show ¬ ((!true) = true) by decide), pWD]
    have hl : 0 < s.length := by
      cases s with
      | nil => rw [wR_nil] at hw; cases hw
      | cons _ _ => simp
    have key : ∀ fr : Nat, wRf s fr = true → fr ≤ s.length → 0 < runD (s.drop fr) ∧ (runD (s.drop fr) = (s.drop fr).length ∨ (runD (s.drop fr) < (s.drop fr).length ∧ (s.drop fr).getD (runD (s.drop fr)) 0 = 46 ∧ runD ((s.drop fr).drop (runD (s.drop fr) + 1)) = ((s.drop fr).drop (runD (s.drop fr) + 1)).length)) := by
      intro fr hf hfl
      unfold wRf at hf
      have hrl := runD_le (s.drop fr)
      rw [List.length_drop] at hrl
      split at hf
      · cases hf
      · rename_i h0
        have h0' : (runD (s.drop fr) == 0) = false := by
          cases h : (runD (s.drop fr) == 0) with
          | false => rfl
          | true => rw [h] at h0; exact absurd rfl h0
        rw [beq_eq_false_iff_ne] at h0'
        refine ⟨by omega, ?_⟩
        rw [List.length_drop]
        split at hf
        · rename_i h1
          simp only [decide_eq_true_eq] at h1
          split at hf
          · cases hf
          · rename_i h2
            split at hf
            · rename_i h3
              rw [beq_iff_eq] at h3
              refine .inr ⟨by omega, ?_, ?_⟩
              · rw [List.getD_eq_getElem?_getD, List.getElem?_drop, ← List.getD_eq_getElem?_getD]
                cases h : (s.getD (fr + runD (s.drop fr)) 0 != 46) with
                | true => rw [h] at h2; exact absurd rfl h2
                | false => rw [bne, Bool.not_eq_false'] at h; exact beq_iff_eq.1 h
              · rw [List.drop_drop, List.length_drop, show fr + (runD (s.drop fr) + 1) = fr + runD (s.drop fr) + 1 by omega]
                omega
            · cases hf
        · rename_i h1
          simp only [decide_eq_true_eq] at h1
          exact .inl (by omega)
    cases hn : (s.getD 0 0 == 45) with
    | true =>
      have hwf : wRf s 1 = true := by
        rw [← hw]; unfold wR; rw [hn, decide_eq_true hl]; rfl
      obtain ⟨k1, k2⟩ := key 1 hwf (by omega)
      obtain ⟨a, b⟩ := split_whole k1 k2
      have hs : s = 45 :: s.drop 1 := by
        rw [beq_iff_eq] at hn
        have := drop_cons hl
        rw [List.drop_zero, hn] at this
        exact this
      have e1 : allR s [] = allR (s.drop 1) [] := by
        conv => lhs; rw [hs]
        rw [allR]; rfl
      have e2 : behR s false 0 = behR (s.drop 1) false 0 := by
        conv => lhs; rw [hs]
        rw [behR]; rfl
      have hp : Lib.hasPrefix s [45] = true := by
        rw [hs]; simp [Lib.hasPrefix, List.isPrefixOf]
      have ht : Lib.trimPrefix s [45] = s.drop 1 := by
        unfold Lib.trimPrefix; rw [if_pos hp]; rfl
      rw [e1, e2, hp, ht, a, b]
    | false =>
      have hwf : wRf s 0 = true := by
        rw [← hw]; unfold wR; rw [hn, Bool.and_false]; rfl
      obtain ⟨k1, k2⟩ := key 0 hwf (by omega)
      rw [List.drop_zero] at k1 k2
      obtain ⟨a, b⟩ := split_whole k1 k2
      have hp : Lib.hasPrefix s [45] = false := by
        have := drop_cons hl
        rw [List.drop_zero] at this
        rw [this]
        unfold Lib.hasPrefix
        rw [List.isPrefixOf]
        rw [beq_eq_false_iff_ne] at hn
        rw [show ((45 : UInt8) == s.getD 0 0) = false by rw [beq_eq_false_iff_ne]; exact fun e => hn e.symm]
        rfl
      have ht : Lib.trimPrefix s [45] = s := by
        unfold Lib.trimPrefix; rw [if_neg (by rw [hp]; decide)]
      rw [hp, ht, a, b]
def sIndexByte : List AV → Option AV
  | [.str s, .int .u8 c] => some (.int .i64 (Lib.indexByte s c.toNat.toUInt8))
  | _ => none
theorem indexByte_ok : QuietOK Tryd.prog 25 fun vs _ => sIndexByte vs := quiet_plain ht27 fun args v h => by
  unfold sIndexByte at h
  split at h <;> cases h
  exact ⟨rfl, rfl, _, sem_below rfl fun ρ w => (Tryd.strings_IndexByte _ _ w).mono fun e w' ⟨h1, h2⟩ => ⟨h1, h2 ▸ Below.refl _ _⟩⟩
def sCutPrefix : List AV → Option AV
  | [.str s, .str p] => some (.tup [.str (Lib.trimPrefix s p), .bool (Lib.hasPrefix s p)])
  | _ => none
theorem cutPrefix_ok : QuietOK Tryd.prog 28 fun vs _ => sCutPrefix vs := quiet_plain ht50 fun args v h => by
  unfold sCutPrefix at h
  split at h <;> cases h
  exact ⟨rfl, rfl, _, sem_below rfl fun ρ w => (Tryd.strings_CutPrefix _ _ w).mono fun e w' ⟨h1, h2⟩ => ⟨h1, h2 ▸ Below.refl _ _⟩⟩
def sIndexOne : List AV → Option AV
  | [.str s, .str [c]] => some (.int .i64 (Lib.indexByte s c))
  | _ => none
theorem indexOne_ok : QuietOK Tryd.prog 82 fun vs _ => sIndexOne vs := quiet_plain ht73 fun args v h => by
  unfold sIndexOne at h
  split at h <;> cases h
  exact ⟨rfl, rfl, _, sem_below rfl fun ρ w => (Tryd.stringslite_Index_one _ _ w).mono fun e w' ⟨h1, h2⟩ => ⟨h1, h2 ▸ Below.refl _ _⟩⟩
def bq0 : FuncId → Option (List AV → AHeap → Option AV)
  | 25 => some fun vs _ => sIndexByte vs
  | 82 => some fun vs _ => sIndexOne vs
  | 28 => some fun vs _ => sCutPrefix vs
  | _ => none
theorem bq0_ok : ∀ g s, bq0 g = some s → QuietOK Tryd.prog g s := by
  intro g s h
  unfold bq0 at h
  split at h <;> cases h
  · exact indexByte_ok
  · exact indexOne_ok
  · exact cutPrefix_ok
def tab : FuncId → Option PF
  | 9 => some pz9
  | 11 => some pz11
  | 13 => some p38
  | 15 => some pz15
  | 17 => some p37
  | 21 => some pz21
  | 22 => some pz22
  | 26 => some pz26
  | 27 => some pz27
  | 29 => some p51
  | 30 => some p52
  | 31 => some p53
  | 35 => some pz35
  | 38 => some p49
  | 39 => some pz39
  | 40 => some pz40
  | 42 => some pz42
  | 43 => some pz43
  | 44 => some pz44
  | 52 => some pz52
  | 53 => some pz53
  | 57 => some p60
  | 58 => some p61
  | 59 => some p62
  | 62 => some p66
  | 63 => some p67
  | 64 => some p68
  | 67 => some pz67
  | 68 => some pz68
  | 70 => some pz70
  | 71 => some pz71
  | 73 => some pz73
  | 78 => some pz78
  | 84 => some p77
  | 85 => some p78
  | 86 => some pz86
  | _ => none
theorem tab_ok : TabOK Tryd.prog tab Q := by
  intro g pf h
  unfold tab at h
  split at h <;> cases h
  · exact ⟨_, htz9, cz9⟩
  · exact ⟨_, htz11, cz11⟩
  · exact ⟨_, ht38, c38⟩
  · exact ⟨_, htz15, cz15⟩
  · exact ⟨_, ht37, c37⟩
  · exact ⟨_, htz21, cz21⟩
  · exact ⟨_, htz22, cz22⟩
  · exact ⟨_, htz26, cz26⟩
  · exact ⟨_, htz27, cz27⟩
  · exact ⟨_, ht51, c51⟩
  · exact ⟨_, ht52, c52⟩
  · exact ⟨_, ht53, c53⟩
  · exact ⟨_, htz35, cz35⟩
  · exact ⟨_, ht49, c49⟩
  · exact ⟨_, htz39, cz39⟩
  · exact ⟨_, htz40, cz40⟩
  · exact ⟨_, htz42, cz42⟩
  · exact ⟨_, htz43, cz43⟩
  · exact ⟨_, htz44, cz44⟩
  · exact ⟨_, htz52, cz52⟩
  · exact ⟨_, htz53, cz53⟩
  · exact ⟨_, ht60, c60⟩
  · exact ⟨_, ht61, c61⟩
  · exact ⟨_, ht62, c62⟩
  · exact ⟨_, ht66, c66⟩
  · exact ⟨_, ht67, c67⟩
  · exact ⟨_, ht68, c68⟩
  · exact ⟨_, htz67, cz67⟩
  · exact ⟨_, htz68, cz68⟩
  · exact ⟨_, htz70, cz70⟩
  · exact ⟨_, htz71, cz71⟩
  · exact ⟨_, htz73, cz73⟩
  · exact ⟨_, htz78, cz78⟩
  · exact ⟨_, ht77, c77⟩
  · exact ⟨_, ht78, c78⟩
  · exact ⟨_, htz86, cz86⟩
noncomputable def SR : Nat → Specs := Go.Am.runD Tryd.prog tab Q bq0 (fun _ => none) (fun _ _ => []) 300 2
theorem SR_ok (n : Nat) : (SR n).OK Tryd.prog ∧ ∀ g, ((SR n).q g).isSome = Q g := Go.Am.runD_ok mixed tab_ok quietText bq0_ok (fun _ _ h => by cases h) _ _ _ n
theorem live_run : (runF Tryd.prog (SR 12) (fun _ => []) 300 p10 [] []).map (·.1) = some (.bool true) := by kernel_rfl
theorem live_ok : QuietOK Tryd.prog 8 fun vs _ => @ite _ (vs = []) (Classical.propDecidable _) (some (.bool true)) none := quiet_closed mixed (SR_ok 12).1 (SR_ok 12).2 ht10 c10 rfl rfl live_run
theorem live_at (h : AHeap) : sLive [] h = some (.bool true) := by unfold sLive; rw [if_pos rfl]

end Go.Proofs.YtddalcnajejibaaDoor
