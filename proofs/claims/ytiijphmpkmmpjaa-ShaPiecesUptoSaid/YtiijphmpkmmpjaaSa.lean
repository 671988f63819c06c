/- Written by merging: ShaA ShaB. -/
import Derived.Test.YtiijphmpkmmpjaaAmW
import Derived.Test.YtiijphmpkmmpjaaAmV
namespace Go.Proofs.Ytiijphmpkmmpjaa
open Go Go.Am
set_option maxRecDepth 100000
set_option linter.unusedVariables false
set_option linter.unusedSimpArgs false

abbrev u32 (x : Int) : AV := .int .u32 x
structure S8 where
  (a b c d e f g h : Int)
def S8.l (x : S8) : List AV := [u32 x.a, u32 x.b, u32 x.c, u32 x.d, u32 x.e, u32 x.f, u32 x.g, u32 x.h]
def ad (a b : Int) : Int := IntKind.u32.wrap (a + b)
def an (a b : Int) : Int := IntKind.u32.wrap (BitVec.ofInt 32 a &&& BitVec.ofInt 32 b).toNat
def xo (a b : Int) : Int := IntKind.u32.wrap (BitVec.ofInt 32 a ^^^ BitVec.ofInt 32 b).toNat
def orr (a b : Int) : Int := IntKind.u32.wrap (BitVec.ofInt 32 a ||| BitVec.ofInt 32 b).toNat
def no (a : Int) : Int := xo 4294967295 a
def sr (x : Int) (n : Nat) : Int := x.fdiv (2 ^ n)
def sl (x : Int) (n : Nat) : Int := IntKind.u32.wrap (x * 2 ^ n)
def rot (x : Int) (n : Nat) : Int := orr (sr x n) (sl x (32 - n))
def turnS : List AV → Option AV
  | [.int .u32 x, .int .i64 n] => if 0 ≤ n ∧ n ≤ 32 then some (u32 (rot x n.toNat)) else none
  | _ => none
def turnsI (x : Int) (a b c : Nat) : Int := xo (xo (rot x a) (rot x b)) (rot x c)
def turnsS : List AV → Option AV
  | [.int .u32 x, .int .i64 a, .int .i64 b, .int .i64 c] => if 0 ≤ a ∧ a ≤ 32 ∧ 0 ≤ b ∧ b ≤ 32 ∧ 0 ≤ c ∧ c ≤ 32 then some (u32 (turnsI x a.toNat b.toNat c.toNat)) else none
  | _ => none
def Ks : List Int := [1116352408, 1899447441, 3049323471, 3921009573, 961987163, 1508970993, 2453635748, 2870763221, 3624381080, 310598401, 607225278, 1426881987, 1925078388, 2162078206, 2614888103, 3248222580, 3835390401, 4022224774, 264347078, 604807628, 770255983, 1249150122, 1555081692, 1996064986, 2554220882, 2821834349, 2952996808, 3210313671, 3336571891, 3584528711, 113926993, 338241895, 666307205, 773529912, 1294757372, 1396182291, 1695183700, 1986661051, 2177026350, 2456956037, 2730485921, 2820302411, 3259730800, 3345764771, 3516065817, 3600352804, 4094571909, 275423344, 430227734, 506948616, 659060556, 883997877, 958139571, 1322822218, 1537002063, 1747873779, 1955562222, 2024104815, 2227730452, 2361852424, 2428436474, 2756734187, 3204031479, 3329325298]
def constS : List AV → Option AV
  | [.int .i64 t] => if 0 ≤ t then (Ks[t.toNat]?).map u32 else none
  | _ => none
def S0 : Specs := mkS Q (fun _ => none) (fun _ => none)
theorem quietText : ∀ g, Q g = true → ∃ fn, HasText Try.prog g fn := by
  intro g hg
  have : g ∈ quiet := by simpa [Q] using hg
  simp only [quiet, List.mem_cons, List.not_mem_nil, or_false] at this
  rcases this with rfl | rfl | rfl | rfl | rfl | rfl | rfl | rfl | rfl | rfl | rfl | rfl | rfl | rfl | rfl | rfl | rfl | rfl | rfl
  · exact ⟨_, ht9⟩
  · exact ⟨_, ht10⟩
  · exact ⟨_, ht11⟩
  · exact ⟨_, ht13⟩
  · exact ⟨_, ht14⟩
  · exact ⟨_, ht23⟩
  · exact ⟨_, ht24⟩
  · exact ⟨_, ht25⟩
  · exact ⟨_, ht26⟩
  · exact ⟨_, ht27⟩
  · exact ⟨_, ht28⟩
  · exact ⟨_, ht29⟩
  · exact ⟨_, ht31⟩
  · exact ⟨_, ht32⟩
  · exact ⟨_, ht33⟩
  · exact ⟨_, ht34⟩
  · exact ⟨_, ht37⟩
  · exact ⟨_, ht38⟩
  · exact ⟨_, ht39⟩
theorem mixed : Try.prog.follows .mixedOrders = true := by kernel_rfl
theorem S0_ok : S0.OK Try.prog := mkS_ok quietText (fun _ _ _ h => by cases h) (fun _ _ h => by cases h)
theorem S0_q : ∀ g, (S0.q g).isSome = Q g := fun g => mkS_isSome g
theorem turn_run (P : Program) (S : Specs) (x n : Int) (h0 : 0 ≤ n) (h1 : n ≤ 32) : runF P S (fun _ => []) 10 p39 [.int .u32 x, .int .i64 n] [] = some (u32 (rot x n.toNat), []) := by
  have hw : IntKind.i64.wrap (32 - n) = 32 - n := by rw [IntKind.wrap_i64]; omega
  have e1 : ¬ n < 0 := by omega
  have e2 : ¬ (32 - n < 0) := by omega
  have hb : IntKind.u32.bits = 32 := rfl
  have m1 : min n.toNat 32 = n.toNat := by omega
  have m2 : min (32 - n).toNat 32 = 32 - n.toNat := by omega
  simp [p39, runF, evP, evalOpsR, stepR, wantedR, RI.isPure, RI.isAlloc, pureR, evalOperand, put, withHoles, forget, ofValue, shiftA, intOp, hw, e1, e2, resultA, rot, orr, sr, sl, hb, m1, m2]
theorem turn_ref (P : Program) (S : Specs) (x n : Int) (h0 : 0 ≤ n) (h1 : n ≤ 32) : runF P S (fun _ => []) 10 p31 [.int .u32 x, .int .i64 n] [] = some (u32 (rot x n.toNat), []) := turn_run P S x n h0 h1
theorem turn_ok : QuietOK Try.prog 39 fun args _ => turnS args := quiet_of_plain mixed S0_ok ht39 fun args v hv => by
  unfold turnS at hv
  split at hv
  · split at hv
    · rename_i x n hn
      cases hv
      exact ⟨rfl, rfl, _, _, _, runF_sound S0_q c39 (turn_run _ _ x n hn.1 hn.2)⟩
    · cases hv
  · cases hv
theorem rturn_ok : QuietOK Try.prog 31 fun args _ => turnS args := quiet_of_plain mixed S0_ok ht31 fun args v hv => by
  unfold turnS at hv
  split at hv
  · split at hv
    · rename_i x n hn
      cases hv
      exact ⟨rfl, rfl, _, _, _, runF_sound S0_q c31 (turn_ref _ _ x n hn.1 hn.2)⟩
    · cases hv
  · cases hv
def constP (p : PF) (n : Nat) : Prop := ∀ P S, (runF P S (fun _ => []) 10 p [.int .i64 (n : Nat)] []).map (·.1) = some (u32 (Ks.getD n 0))
theorem const_all : AllLt (constP p29) 0 64 := (⟨⟨⟨⟨⟨⟨⟨⟨⟨⟨⟨⟨⟨⟨⟨⟨⟨⟨⟨⟨⟨⟨⟨⟨⟨⟨⟨⟨⟨⟨⟨⟨⟨⟨⟨⟨⟨⟨⟨⟨⟨⟨⟨⟨⟨⟨⟨⟨⟨⟨⟨⟨⟨⟨⟨⟨⟨⟨⟨⟨⟨⟨⟨⟨trivial, fun _ _ => by kernel_rfl⟩, fun _ _ => by kernel_rfl⟩, fun _ _ => by kernel_rfl⟩, fun _ _ => by kernel_rfl⟩, fun _ _ => by kernel_rfl⟩, fun _ _ => by kernel_rfl⟩, fun _ _ => by kernel_rfl⟩, fun _ _ => by kernel_rfl⟩, fun _ _ => by kernel_rfl⟩, fun _ _ => by kernel_rfl⟩, fun _ _ => by kernel_rfl⟩, fun _ _ => by kernel_rfl⟩, fun _ _ => by kernel_rfl⟩, fun _ _ => by kernel_rfl⟩, fun _ _ => by kernel_rfl⟩, fun _ _ => by kernel_rfl⟩, fun _ _ => by kernel_rfl⟩, fun _ _ => by kernel_rfl⟩, fun _ _ => by kernel_rfl⟩, fun _ _ => by kernel_rfl⟩, fun _ _ => by kernel_rfl⟩, fun _ _ => by kernel_rfl⟩, fun _ _ => by kernel_rfl⟩, fun _ _ => by kernel_rfl⟩, fun _ _ => by kernel_rfl⟩, fun _ _ => by kernel_rfl⟩, fun _ _ => by kernel_rfl⟩, fun _ _ => by kernel_rfl⟩, fun _ _ => by kernel_rfl⟩, fun _ _ => by kernel_rfl⟩, fun _ _ => by kernel_rfl⟩, fun _ _ => by kernel_rfl⟩, fun _ _ => by kernel_rfl⟩, fun _ _ => by kernel_rfl⟩, fun _ _ => by kernel_rfl⟩, fun _ _ => by kernel_rfl⟩, fun _ _ => by kernel_rfl⟩, fun _ _ => by kernel_rfl⟩, fun _ _ => by kernel_rfl⟩, fun _ _ => by kernel_rfl⟩, fun _ _ => by kernel_rfl⟩, fun _ _ => by kernel_rfl⟩, fun _ _ => by kernel_rfl⟩, fun _ _ => by kernel_rfl⟩, fun _ _ => by kernel_rfl⟩, fun _ _ => by kernel_rfl⟩, fun _ _ => by kernel_rfl⟩, fun _ _ => by kernel_rfl⟩, fun _ _ => by kernel_rfl⟩, fun _ _ => by kernel_rfl⟩, fun _ _ => by kernel_rfl⟩, fun _ _ => by kernel_rfl⟩, fun _ _ => by kernel_rfl⟩, fun _ _ => by kernel_rfl⟩, fun _ _ => by kernel_rfl⟩, fun _ _ => by kernel_rfl⟩, fun _ _ => by kernel_rfl⟩, fun _ _ => by kernel_rfl⟩, fun _ _ => by kernel_rfl⟩, fun _ _ => by kernel_rfl⟩, fun _ _ => by kernel_rfl⟩, fun _ _ => by kernel_rfl⟩, fun _ _ => by kernel_rfl⟩, fun _ _ => by kernel_rfl⟩)
theorem rconst_all : AllLt (constP p32) 0 64 := (⟨⟨⟨⟨⟨⟨⟨⟨⟨⟨⟨⟨⟨⟨⟨⟨⟨⟨⟨⟨⟨⟨⟨⟨⟨⟨⟨⟨⟨⟨⟨⟨⟨⟨⟨⟨⟨⟨⟨⟨⟨⟨⟨⟨⟨⟨⟨⟨⟨⟨⟨⟨⟨⟨⟨⟨⟨⟨⟨⟨⟨⟨⟨⟨trivial, fun _ _ => by kernel_rfl⟩, fun _ _ => by kernel_rfl⟩, fun _ _ => by kernel_rfl⟩, fun _ _ => by kernel_rfl⟩, fun _ _ => by kernel_rfl⟩, fun _ _ => by kernel_rfl⟩, fun _ _ => by kernel_rfl⟩, fun _ _ => by kernel_rfl⟩, fun _ _ => by kernel_rfl⟩, fun _ _ => by kernel_rfl⟩, fun _ _ => by kernel_rfl⟩, fun _ _ => by kernel_rfl⟩, fun _ _ => by kernel_rfl⟩, fun _ _ => by kernel_rfl⟩, fun _ _ => by kernel_rfl⟩, fun _ _ => by kernel_rfl⟩, fun _ _ => by kernel_rfl⟩, fun _ _ => by kernel_rfl⟩, fun _ _ => by kernel_rfl⟩, fun _ _ => by kernel_rfl⟩, fun _ _ => by kernel_rfl⟩, fun _ _ => by kernel_rfl⟩, fun _ _ => by kernel_rfl⟩, fun _ _ => by kernel_rfl⟩, fun _ _ => by kernel_rfl⟩, fun _ _ => by kernel_rfl⟩, fun _ _ => by kernel_rfl⟩, fun _ _ => by kernel_rfl⟩, fun _ _ => by kernel_rfl⟩, fun _ _ => by kernel_rfl⟩, fun _ _ => by kernel_rfl⟩, fun _ _ => by kernel_rfl⟩, fun _ _ => by kernel_rfl⟩, fun _ _ => by kernel_rfl⟩, fun _ _ => by kernel_rfl⟩, fun _ _ => by kernel_rfl⟩, fun _ _ => by kernel_rfl⟩, fun _ _ => by kernel_rfl⟩, fun _ _ => by kernel_rfl⟩, fun _ _ => by kernel_rfl⟩, fun _ _ => by kernel_rfl⟩, fun _ _ => by kernel_rfl⟩, fun _ _ => by kernel_rfl⟩, fun _ _ => by kernel_rfl⟩, fun _ _ => by kernel_rfl⟩, fun _ _ => by kernel_rfl⟩, fun _ _ => by kernel_rfl⟩, fun _ _ => by kernel_rfl⟩, fun _ _ => by kernel_rfl⟩, fun _ _ => by kernel_rfl⟩, fun _ _ => by kernel_rfl⟩, fun _ _ => by kernel_rfl⟩, fun _ _ => by kernel_rfl⟩, fun _ _ => by kernel_rfl⟩, fun _ _ => by kernel_rfl⟩, fun _ _ => by kernel_rfl⟩, fun _ _ => by kernel_rfl⟩, fun _ _ => by kernel_rfl⟩, fun _ _ => by kernel_rfl⟩, fun _ _ => by kernel_rfl⟩, fun _ _ => by kernel_rfl⟩, fun _ _ => by kernel_rfl⟩, fun _ _ => by kernel_rfl⟩, fun _ _ => by kernel_rfl⟩)
theorem const_ok {f : FuncId} {fn : Func} {p : PF} (hf : HasText Try.prog f fn) (hc : compF Try.prog Q fn = some p) (hall : AllLt (constP p) 0 64) : QuietOK Try.prog f fun args _ => constS args := quiet_of_plain mixed S0_ok hf fun args v hv => by
  unfold constS at hv
  split at hv
  · rename_i t
    split at hv
    · rename_i h0
      simp only [Option.map_eq_some_iff] at hv
      obtain ⟨k, hk, rfl⟩ := hv
      have hlt : t.toNat < 64 := by
        rcases Nat.lt_or_ge t.toNat 64 with q | q
        · exact q
        · rw [List.getElem?_eq_none (by simpa [Ks] using q)] at hk; cases hk
      have hr := allLt_spec hall t.toNat (Nat.zero_le _) (by omega) Try.prog S0
      simp only [Option.map_eq_some_iff] at hr
      obtain ⟨⟨v1, h⟩, hr, hv1⟩ := hr
      simp only at hv1
      subst hv1
      rw [show ((t.toNat : Nat) : Int) = t by omega] at hr
      have : Ks.getD t.toNat 0 = k := by rw [List.getD_eq_getElem?_getD, hk]; rfl
      rw [this] at hr
      exact ⟨rfl, rfl, _, _, _, runF_sound S0_q hc hr⟩
    · cases hv
  · cases hv
def S1 : Specs := mkS Q (fun g => match g with
  | 39 => some fun args _ => turnS args
  | 31 => some fun args _ => turnS args
  | 29 => some fun args _ => constS args
  | 32 => some fun args _ => constS args
  | _ => none) (fun _ => none)
theorem S1_ok : S1.OK Try.prog := mkS_ok quietText (fun g s _ h => by
  split at h
  · cases h; exact turn_ok
  · cases h; exact rturn_ok
  · cases h; exact const_ok ht29 c29 const_all
  · cases h; exact const_ok ht32 c32 rconst_all
  · cases h) (fun _ _ h => by cases h)
theorem S1_q : ∀ g, (S1.q g).isSome = Q g := fun g => mkS_isSome g
theorem turns_ok : QuietOK Try.prog 28 fun args _ => turnsS args := quiet_of_plain mixed S1_ok ht28 fun args v hv => by
  unfold turnsS at hv
  split at hv
  · split at hv
    · rename_i x a b c hn
      cases hv
      have hr : runF Try.prog S1 (fun _ => []) 10 p28 [.int .u32 x, .int .i64 a, .int .i64 b, .int .i64 c] [] = some (u32 (turnsI x a.toNat b.toNat c.toNat), []) := by
        have t1 : ∀ n : Int, 0 ≤ n → n ≤ 32 → turnS [.int .u32 x, .int .i64 n] = some (u32 (rot x n.toNat)) := fun n h0 h1 => by simp [turnS, h0, h1]
        have hq : S1.q 39 = some fun args _ => turnS args := by kernel_rfl
        simp [p28, runF, evP, evalOpsR, stepR, wantedR, RI.isPure, RI.isAlloc, pureR, calleeR, callR, hq, t1, hn, evalOperand, put, withHoles, forget, ofValue, intOp, resultA, turnsI, xo]
        rfl
      exact ⟨rfl, rfl, _, _, _, runF_sound S1_q c28 hr⟩
    · cases hv
  · cases hv
def upd1 (W : Nat → Int) (t : Nat) (v : Int) : Nat → Int := fun i => if i = t then v else W i
def cv (x : Int) : Int := IntKind.u32.wrap x
def stA (B : Nat → Int) (t : Nat) (W : Nat → Int) : Nat → Int := upd1 W t (orr (orr (orr (sl (cv (B (4 * t))) 24) (sl (cv (B (4 * t + 1))) 16)) (sl (cv (B (4 * t + 2))) 8)) (cv (B (4 * t + 3))))
def stB (t : Nat) (W : Nat → Int) : Nat → Int := upd1 W t (ad (ad (ad (xo (xo (rot (W (t - 2)) 17) (rot (W (t - 2)) 19)) (sr (W (t - 2)) 10)) (W (t - 7))) (xo (xo (rot (W (t - 15)) 7) (rot (W (t - 15)) 18)) (sr (W (t - 15)) 3))) (W (t - 16)))
def wordsA (B : Nat → Int) : Nat → Int := loopN (stA B) 0 16 (fun _ => 0)
def wordsW (B : Nat → Int) : Nat → Int := loopN stB 16 48 (wordsA B)
def yy (t0 t d : Nat) : AV := if t = t0 then .any else .int .i64 ((t - d : Nat) : Int)
def F27 (id : Nat) : List Nat := if id = 7 then [0, 4, 5, 6, 7, 8, 10, 11, 12, 13, 14, 15, 16, 17, 18, 19, 20, 21, 22, 23, 24, 25, 26, 27, 28, 29, 30, 31, 32, 33, 34, 35, 36, 37, 38, 39, 40, 41, 43, 44, 45, 46, 47, 48, 49, 50, 51, 52, 53, 54, 55, 56, 57, 58, 59, 60, 61, 62, 63, 64, 65, 66, 67, 68, 69, 70, 71, 72, 73, 74, 75, 76, 77, 78, 79, 80, 81, 82, 83, 84] else if id = 2 then [0] else if id = 8 then [0, 4, 5, 6, 7, 8, 9, 10, 11, 12, 13, 14, 15, 16, 17, 18, 19, 20, 21, 22, 23, 24, 25, 26, 27, 28, 29, 30, 31, 32, 33, 34, 35, 36, 37, 38, 39, 40, 41, 42, 43, 44, 45, 46, 47, 48, 49, 50, 51, 52, 53, 54, 55, 56, 57, 58, 59, 60, 61, 62, 63, 64, 65, 66, 67, 68, 69, 70, 71, 72, 73, 74, 75, 76, 77, 78, 79, 80, 81, 82, 83, 84] else if id = 10 then [0, 4, 5, 7, 8, 9, 10, 11, 12, 13, 14, 15, 16, 17, 18, 19, 20, 21, 22, 23, 24, 25, 26, 27, 28, 29, 30, 31, 32, 33, 34, 35, 36, 37, 38, 39, 40, 41, 42, 43, 44, 47, 48, 49, 50, 51, 52, 53, 54, 55, 56, 57, 58, 59, 60, 61, 62, 63, 64, 65, 66, 67, 68, 69, 70, 71, 72, 73, 74, 75, 76, 77, 78, 79, 80, 81, 82, 83, 84] else []
def hp27 (B W : Nat → Int) : AHeap := [.row 26 64 (ints .u8 64 B), .row 53 64 (ints .u32 64 fun _ => 0), .row 53 64 (ints .u32 64 W)]
def CA27 (B : Nat → Int) (t : Nat) (W : Nat → Int) : St := ([.any, .ptr (some (0, 0)), .ptr (some (1, 0)), .ptr (some (2, 0)), .any, .any, .any, .any, .any, .int .i64 (t : Nat), .any, .any, .any, .any, .any, .any, .any, .any, .any, .any, .any, .any, .any, .any, .any, .any, .any, .any, .any, .any, .any, .any, .any, .any, .any, .any, .any, .any, .any, .any, .any, .any, yy 0 t 0, .any, .any, .any, .any, .any, .any, .any, .any, .any, .any, .any, .any, .any, .any, .any, .any, .any, .any, .any, .any, .any, .any, .any, .any, .any, .any, .any, .any, .any, .any, .any, .any, .any, .any, .any, .any, .any, .any, .any, .any, .any, .any], hp27 B W)
def EA27 (B : Nat → Int) (W : Nat → Int) : St := ([.any, .ptr (some (0, 0)), .ptr (some (1, 0)), .ptr (some (2, 0)), .any, .any, .any, .any, .any, .int .i64 16, .bool false, .any, .any, .any, .any, .any, .any, .any, .any, .any, .any, .any, .any, .any, .any, .any, .any, .any, .any, .any, .any, .any, .any, .any, .any, .any, .any, .any, .any, .any, .any, .any, .int .i64 16, .any, .any, .any, .any, .any, .any, .any, .any, .any, .any, .any, .any, .any, .any, .any, .any, .any, .any, .any, .any, .any, .any, .any, .any, .any, .any, .any, .any, .any, .any, .any, .any, .any, .any, .any, .any, .any, .any, .any, .any, .any, .any], hp27 B W)
def CB27 (B : Nat → Int) (t : Nat) (W : Nat → Int) : St := ([.any, .ptr (some (0, 0)), .ptr (some (1, 0)), .ptr (some (2, 0)), .any, .any, .int .i64 (t : Nat), .any, .any, .any, .any, .any, .any, .any, .any, .any, .any, .any, .any, .any, .any, .any, .any, .any, .any, .any, .any, .any, .any, .any, .any, .any, .any, .any, .any, .any, .any, .any, .any, .any, .any, .any, .any, .any, .any, yy 16 t 1, yy 16 t 0, .any, .any, .any, .any, .any, .any, .any, .any, .any, .any, .any, .any, .any, .any, .any, .any, .any, .any, .any, .any, .any, .any, .any, .any, .any, .any, .any, .any, .any, .any, .any, .any, .any, .any, .any, .any, .any, .any], hp27 B W)
def EB27 (B : Nat → Int) (W : Nat → Int) : St := ([.any, .ptr (some (0, 0)), .ptr (some (1, 0)), .ptr (some (2, 0)), .any, .any, .int .i64 64, .any, .any, .any, .any, .any, .any, .any, .any, .any, .any, .any, .any, .any, .any, .any, .any, .any, .any, .any, .any, .any, .any, .any, .any, .any, .any, .any, .any, .any, .any, .any, .any, .any, .any, .any, .any, .int .i64 64, .bool false, .int .i64 63, .int .i64 64, .any, .any, .any, .any, .any, .any, .any, .any, .any, .any, .any, .any, .any, .any, .any, .any, .any, .any, .any, .any, .any, .any, .any, .any, .any, .any, .any, .any, .any, .any, .any, .any, .any, .any, .any, .any, .any, .any], hp27 B W)
def PA27 (P : Program) (B : Nat → Int) (t : Nat) : Prop := ∀ (k : Nat) (W : Nat → Int), evP P S1 F27 (k + 30) (.inl p27_l1) (CA27 B t W) = some (.normal, CA27 B (t + 1) (stA B t W))
def PB27 (P : Program) (B : Nat → Int) (t : Nat) : Prop := ∀ (k : Nat) (W : Nat → Int), evP P S1 F27 (k + 30) (.inl p27_l0) (CB27 B t W) = some (.normal, CB27 B (t + 1) (stB t W))
def G27 (B W : Nat → Int) : St := ([.any, .ptr (some (0, 0)), .ptr (some (1, 0)), .ptr (some (2, 0)), .any, .any, .int .i64 64, .any, .any, .any, .any, .any, .any, .any, .any, .any, .any, .any, .any, .any, .any, .any, .any, .any, .any, .any, .any, .any, .any, .any, .any, .any, .any, .any, .any, .any, .any, .any, .any, .any, .any, .any, .any, .int .i64 64, .bool false, .int .i64 63, .int .i64 64, .any, .any, .any, .any, .any, .any, .any, .any, .any, .any, .any, .any, .any, .any, .any, .any, .any, .any, .any, .any, .any, .any, .any, .any, .any, .any, .any, .any, .any, .any, .any, .any, .any, .any, .any, .any, .any, .agg (ints .u32 64 W)], [.row 26 64 (ints .u8 64 B), .row 53 64 (ints .u32 64 W), .row 53 64 (ints .u32 64 W)])
def wordsS : List AV → Option AV
  | [.agg l] => if isInts .u8 64 l then some (.agg (ints .u32 64 (wordsW (dec l)))) else none
  | _ => none
def gar (t : Nat) (W : Nat → Int) : AHeap := (List.range t).flatMap fun i => [.row 24 1 [u32 (W i)], .dead]
def hp30 (x y z : AObj) (B : Nat → Int) (t : Nat) (W : Nat → Int) : AHeap := [x, y, z, .row 26 64 (ints .u8 64 B)] ++ (match t with
  | 0 => []
  | t + 1 => gar t W ++ [.row 24 1 [u32 (W t)], .row 24 1 (ints .u32 (t + 1) W)])
def sl30 (t : Nat) : AV := match t with
  | 0 => .sl none 0 (.fix 0)
  | t + 1 => .sl (some (5 + 2 * t, 0)) (t + 1) (.rel 0)
def F30 (id : Nat) : List Nat := if id = 4 then [0, 5, 6, 7, 8, 11, 12, 13, 14, 15, 16, 17, 18, 19, 20, 21, 22, 23, 24, 25, 26, 27, 28, 29, 30, 31, 32, 33, 34, 35, 36, 37, 38, 39, 40, 41, 42, 43, 44, 45, 46, 47, 48, 49, 50, 51, 52, 53, 54, 55, 56, 57, 58, 59, 60, 61, 62, 63, 64, 65, 66, 67, 68, 69, 70, 71, 72, 73, 74, 75, 76, 77, 78, 79, 80, 81, 82, 83, 84, 85, 86, 87, 88, 89, 90, 91, 92, 93, 94, 95, 96, 97, 98, 99, 100, 101, 102, 103] else if id = 2 then [0] else []
def C30 (x y z : AObj) (B : Nat → Int) (t : Nat) (W : Nat → Int) : St := ([.any, .ptr (some (3, 0)), .sl none 0 (.fix 0), sl30 t, .int .i64 (t : Nat), .any, .any, .any, .any, yy 0 t 1, yy 0 t 0, .any, .any, .any, .any, .any, .any, .any, .any, .any, .any, .any, .any, .any, .any, .any, .any, .any, .any, .any, .any, .any, .any, .any, .any, .any, .any, .any, .any, .any, .any, .any, .any, .any, .any, .any, .any, .any, .any, .any, .any, .any, .any, .any, .any, .any, .any, .any, .any, .any, .any, .any, .any, .any, .any, .any, .any, .any, .any, .any, .any, .any, .any, .any, .any, .any, .any, .any, .any, .any, .any, .any, .any, .any, .any, .any, .any, .any, .any, .any, .any, .any, .any, .any, .any, .any, .any, .any, .any, .any, .any, .any, .any, .any], hp30 x y z B t W)
def st30 (B : Nat → Int) (t : Nat) (W : Nat → Int) : Nat → Int := if t < 16 then stA B t W else stB t W
def PP30 (P : Program) (x y z : AObj) (B : Nat → Int) (t : Nat) : Prop := ∀ (k : Nat) (W : Nat → Int), evP P S1 F30 (k + 30) (.inl p30_l0) (C30 x y z B t W) = some (.normal, C30 x y z B (t + 1) (st30 B t W))
def E30 (x y z : AObj) (B : Nat → Int) (W : Nat → Int) : St := ([.any, .ptr (some (3, 0)), .sl none 0 (.fix 0), .sl (some (131, 0)) 64 (.rel 0), .int .i64 64, .any, .any, .int .i64 64, .bool false, .int .i64 63, .int .i64 64, .any, .any, .any, .any, .any, .any, .any, .any, .any, .any, .any, .any, .any, .any, .any, .any, .any, .any, .any, .any, .any, .any, .any, .any, .any, .any, .any, .any, .any, .any, .any, .any, .any, .any, .any, .any, .any, .any, .any, .any, .any, .any, .any, .any, .any, .any, .any, .any, .any, .any, .any, .any, .any, .any, .any, .any, .any, .any, .any, .any, .any, .any, .any, .any, .any, .any, .any, .any, .any, .any, .any, .any, .any, .any, .any, .any, .any, .any, .any, .any, .any, .any, .any, .any, .any, .any, .any, .any, .any, .any, .any, .any, .any], hp30 x y z B 64 W)
def G30 (x y z : AObj) (B : Nat → Int) (W : Nat → Int) : St := ([.any, .ptr (some (3, 0)), .sl (some (131, 0)) 64 (.rel 0), .sl (some (131, 0)) 64 (.rel 0), .int .i64 64, .any, .any, .int .i64 64, .bool false, .int .i64 63, .int .i64 64, .any, .any, .any, .any, .any, .any, .any, .any, .any, .any, .any, .any, .any, .any, .any, .any, .any, .any, .any, .any, .any, .any, .any, .any, .any, .any, .any, .any, .any, .any, .any, .any, .any, .any, .any, .any, .any, .any, .any, .any, .any, .any, .any, .any, .any, .any, .any, .any, .any, .any, .any, .any, .any, .any, .any, .any, .any, .any, .any, .any, .any, .any, .any, .any, .any, .any, .any, .any, .any, .any, .any, .any, .any, .any, .any, .any, .any, .any, .any, .any, .any, .any, .any, .any, .any, .any, .any, .any, .any, .any, .any, .any, .sl (some (131, 0)) 64 (.rel 0)], hp30 x y z B 64 W)
def rwordsS : List AV → AHeap → Option (AV × AHeap)
  | [.agg l], [x, y, z] => if isInts .u8 64 l then some (.sl (some (131, 0)) 64 (.rel 0), hp30 x y z (dec l) 64 (wordsW (dec l))) else none
  | _, _ => none
def S8.fn (x : S8) : Nat → Int
  | 0 => x.a | 1 => x.b | 2 => x.c | 3 => x.d | 4 => x.e | 5 => x.f | 6 => x.g | _ => x.h
def rnd (k w : Int) (s : S8) : S8 :=
  let one := ad (ad (ad (ad s.h (turnsI s.e 6 11 25)) (xo (an s.e s.f) (an (no s.e) s.g))) k) w
  let two := ad (turnsI s.a 2 13 22) (xo (xo (an s.a s.b) (an s.a s.c)) (an s.b s.c))
  ⟨ad one two, s.a, s.b, s.c, ad s.d one, s.e, s.f, s.g⟩
def rndT (W : Nat → Int) (t : Nat) (s : S8) : S8 := rnd (Ks.getD t 0) (W t) s
def s8 (g : Nat → Int) : S8 := ⟨g 0, g 1, g 2, g 3, g 4, g 5, g 6, g 7⟩
def addT (g : Nat → Int) (t : Nat) (f : Nat → Int) : Nat → Int := upd1 f t (ad (f t) (g t))
def roundsI (g W : Nat → Int) : S8 := loopN (rndT W) 0 64 (s8 g)
def blockI (g W : Nat → Int) : Nat → Int := loopN (addT g) 0 8 (roundsI g W).fn
def S2 : Specs := mkS Q (fun g => match g with
  | 39 => some fun args _ => turnS args
  | 31 => some fun args _ => turnS args
  | 29 => some fun args _ => constS args
  | 32 => some fun args _ => constS args
  | 28 => some fun args _ => turnsS args
  | 27 => some fun args _ => wordsS args
  | _ => none) (fun g => match g with
  | 30 => some rwordsS
  | _ => none)
def hp10 (g B W f : Nat → Int) : AHeap := [.row 25 8 (ints .u32 8 g), .row 26 64 (ints .u8 64 B), .row 25 8 (ints .u32 8 fun _ => 0), .row 53 64 (ints .u32 64 W), .row 25 8 (ints .u32 8 f)]
def F10 (id : Nat) : List Nat := if id = 10 then [0, 1, 7, 8, 9, 10, 11, 12, 13, 14, 15, 17, 18, 19, 20, 21, 22, 23, 24, 25, 26, 27, 28, 29, 30, 31, 32, 33, 34, 35, 36, 37, 38, 39, 40, 41, 42, 43, 44, 45, 46, 47, 48, 49, 50, 51, 52, 53, 54, 55, 56, 57, 58, 59, 60, 61, 62, 63, 64, 65, 66, 67, 68, 69, 70, 71, 72, 73, 74, 75, 76, 77, 78, 79, 80, 81, 82, 83, 85, 86, 87, 88, 89, 90, 91, 92, 93, 94, 95, 96, 97] else if id = 3 then [0, 1, 7, 8, 9, 10, 11, 12, 13, 14, 15, 16, 17, 18, 19, 20, 21, 22, 23, 24, 25, 26, 27, 28, 29, 30, 31, 32, 33, 34, 35, 36, 37, 38, 39, 40, 41, 42, 43, 44, 45, 46, 47, 48, 49, 50, 51, 52, 53, 54, 55, 56, 57, 58, 59, 60, 61, 62, 63, 64, 65, 66, 67, 68, 69, 70, 71, 72, 73, 74, 75, 76, 77, 78, 79, 80, 81, 82, 83, 84, 85, 86, 87, 88, 89, 90, 91, 92, 93, 94, 95, 96, 97] else if id = 11 then [0, 1, 7, 8, 9, 10, 11, 12, 13, 14, 15, 16, 17, 18, 19, 20, 21, 22, 23, 24, 25, 26, 27, 28, 29, 30, 31, 32, 33, 34, 35, 36, 37, 38, 39, 40, 41, 42, 43, 44, 45, 46, 47, 48, 49, 50, 51, 52, 53, 54, 55, 56, 57, 58, 59, 60, 61, 62, 63, 64, 65, 66, 67, 68, 69, 70, 71, 72, 73, 74, 75, 76, 77, 78, 79, 80, 81, 82, 83, 84, 85, 86, 87, 88, 89, 90, 91, 92, 93, 94, 95, 96, 97] else if id = 15 then [0, 1, 7, 8, 9, 10, 11, 12, 13, 14, 15, 16, 17, 18, 19, 20, 21, 22, 23, 24, 25, 26, 27, 28, 29, 30, 31, 32, 33, 34, 35, 36, 37, 38, 39, 40, 41, 42, 43, 44, 45, 46, 47, 48, 49, 50, 51, 52, 53, 54, 55, 56, 57, 58, 59, 60, 61, 62, 63, 64, 65, 66, 67, 68, 69, 70, 71, 72, 73, 74, 75, 76, 77, 78, 79, 80, 81, 82, 83, 84, 86, 87, 88, 89, 90, 91, 92, 93, 94, 95, 97] else []
def C10 (g B W : Nat → Int) (t : Nat) (s : S8) : St := ([.any, .any, .ptr (some (0, 0)), .ptr (some (1, 0)), .ptr (some (2, 0)), .ptr (some (3, 0)), .ptr (some (4, 0)), .any, .any, .any, .any, .any, .any, .any, .any, .any, .int .i64 (t : Nat), .any, .any, .any, .any, .any, .any, .any, .any, .any, .any, .any, .any, .any, .any, .any, .any, .any, .any, .any, .any, .any, .any, .any, .any, .any, .any, .any, .any, .any, .any, .any, .any, .any, .any, .any, .any, .any, .any, .any, .any, .any, .any, .any, .any, .any, .any, .any, .any, .any, .any, .any, .any, .any, .any, .any, .any, .any, .any, .any, .any, .any, .any, .any, .any, .any, .any, .any, yy 0 t 0, .any, .any, .any, .any, .any, .any, .any, .any, .any, .any, .any, .any, .any], hp10 g B W s.fn)
def E10 (g B W : Nat → Int) (s : S8) : St := ([.any, .any, .ptr (some (0, 0)), .ptr (some (1, 0)), .ptr (some (2, 0)), .ptr (some (3, 0)), .ptr (some (4, 0)), .any, .any, .any, .any, .any, .any, .any, .any, .any, .int .i64 64, .bool false, .any, .any, .any, .any, .any, .any, .any, .any, .any, .any, .any, .any, .any, .any, .any, .any, .any, .any, .any, .any, .any, .any, .any, .any, .any, .any, .any, .any, .any, .any, .any, .any, .any, .any, .any, .any, .any, .any, .any, .any, .any, .any, .any, .any, .any, .any, .any, .any, .any, .any, .any, .any, .any, .any, .any, .any, .any, .any, .any, .any, .any, .any, .any, .any, .any, .any, .int .i64 64, .any, .any, .any, .any, .any, .any, .any, .any, .any, .any, .any, .any, .any], hp10 g B W s.fn)
def PP10 (P : Program) (g B W : Nat → Int) (t : Nat) : Prop := ∀ (k : Nat) (s : S8), evP P S2 F10 (k + 30) (.inl p10_l1) (C10 g B W t s) = some (.normal, C10 g B W (t + 1) (rndT W t s))
def D10 (g B W : Nat → Int) (t : Nat) (f : Nat → Int) : St := ([.any, .any, .ptr (some (0, 0)), .ptr (some (1, 0)), .ptr (some (2, 0)), .ptr (some (3, 0)), .ptr (some (4, 0)), .any, .any, .any, .any, .any, .any, .any, .any, .any, .any, .any, .any, .any, .any, .any, .any, .any, .any, .any, .any, .any, .any, .any, .any, .any, .any, .any, .any, .any, .any, .any, .any, .any, .any, .any, .any, .any, .any, .any, .any, .any, .any, .any, .any, .any, .any, .any, .any, .any, .any, .any, .any, .any, .any, .any, .any, .any, .any, .any, .any, .any, .any, .any, .any, .any, .any, .any, .any, .any, .any, .any, .any, .any, .any, .any, .any, .any, .any, .int .i64 (t : Nat), .any, .any, .any, .any, .any, .any, .any, .any, .any, .any, yy 0 t 0, .any], hp10 g B W f)
def H10 (g B W : Nat → Int) (f : Nat → Int) : St := ([.any, .any, .ptr (some (0, 0)), .ptr (some (1, 0)), .ptr (some (2, 0)), .ptr (some (3, 0)), .ptr (some (4, 0)), .any, .any, .any, .any, .any, .any, .any, .any, .any, .any, .any, .any, .any, .any, .any, .any, .any, .any, .any, .any, .any, .any, .any, .any, .any, .any, .any, .any, .any, .any, .any, .any, .any, .any, .any, .any, .any, .any, .any, .any, .any, .any, .any, .any, .any, .any, .any, .any, .any, .any, .any, .any, .any, .any, .any, .any, .any, .any, .any, .any, .any, .any, .any, .any, .any, .any, .any, .any, .any, .any, .any, .any, .any, .any, .any, .any, .any, .any, .int .i64 8, .bool false, .any, .any, .any, .any, .any, .any, .any, .any, .any, .int .i64 8, .any], hp10 g B W f)
def PQ10 (P : Program) (g B W : Nat → Int) (t : Nat) : Prop := ∀ (k : Nat) (f : Nat → Int), evP P S2 F10 (k + 30) (.inl p10_l0) (D10 g B W t f) = some (.normal, D10 g B W (t + 1) (addT g t f))
def z10 (g B : Nat → Int) : AHeap := [.row 25 8 (ints .u32 8 g), .row 26 64 (ints .u8 64 B), .row 25 8 (ints .u32 8 fun _ => 0)]
def K10 (g B W f : Nat → Int) : St := ([.any, .any, .ptr (some (0, 0)), .ptr (some (1, 0)), .ptr (some (2, 0)), .ptr (some (3, 0)), .ptr (some (4, 0)), .any, .any, .any, .any, .any, .any, .any, .any, .any, .any, .any, .any, .any, .any, .any, .any, .any, .any, .any, .any, .any, .any, .any, .any, .any, .any, .any, .any, .any, .any, .any, .any, .any, .any, .any, .any, .any, .any, .any, .any, .any, .any, .any, .any, .any, .any, .any, .any, .any, .any, .any, .any, .any, .any, .any, .any, .any, .any, .any, .any, .any, .any, .any, .any, .any, .any, .any, .any, .any, .any, .any, .any, .any, .any, .any, .any, .any, .any, .int .i64 8, .bool false, .any, .any, .any, .any, .any, .any, .any, .any, .any, .int .i64 8, .agg (ints .u32 8 f)], [.row 25 8 (ints .u32 8 g), .row 26 64 (ints .u8 64 B), .row 25 8 (ints .u32 8 f), .row 53 64 (ints .u32 64 W), .row 25 8 (ints .u32 8 f)])
abbrev WB (B : Nat → Int) : Nat → Int := wordsW (dec (ints .u8 64 B))
def blockS : List AV → Option AV
  | [.agg s, .agg l] => if isInts .u32 8 s && isInts .u8 64 l then some (.agg (ints .u32 8 (blockI (dec s) (wordsW (dec l))))) else none
  | _ => none
def hp11 (g B B' W f : Nat → Int) : AHeap := hp30 (.row 25 8 (ints .u32 8 g)) (.row 26 64 (ints .u8 64 B)) (.row 25 8 (ints .u32 8 fun _ => 0)) B' 64 W ++ [.row 25 8 (ints .u32 8 f)]
def F11 (id : Nat) : List Nat := if id = 5 then [0, 1, 8, 9, 10, 11, 12, 13, 14, 15, 16, 17, 20, 21, 22, 23, 24, 25, 26, 27, 28, 29, 30, 31, 32, 33, 34, 35, 36, 37, 38, 39, 40, 41, 42, 43, 44, 45, 46, 47, 48, 49, 50, 51, 52, 53, 54, 55, 56, 57, 58, 59, 60, 61, 62, 63, 64, 65, 66, 67, 68, 69, 70, 71, 72, 73, 74, 75, 76, 77, 78, 79, 80, 81, 82, 83, 84, 85, 86, 87, 88, 89, 90, 91, 92, 93, 94, 95, 96, 97, 98, 99, 100, 101, 102, 103, 104, 105, 106, 107, 108, 109, 110, 111, 112, 113, 114, 115, 116, 117, 118] else if id = 3 then [0, 1, 7, 8, 9, 10, 11, 12, 13, 14, 15, 16, 17, 18, 19, 20, 21, 22, 23, 24, 25, 26, 27, 28, 29, 30, 31, 32, 33, 34, 35, 36, 37, 38, 39, 40, 41, 42, 43, 44, 45, 46, 47, 48, 49, 50, 51, 52, 53, 54, 55, 56, 57, 58, 59, 60, 61, 62, 63, 64, 65, 66, 67, 68, 69, 70, 71, 72, 73, 74, 75, 76, 77, 78, 79, 80, 81, 82, 83, 84, 85, 86, 87, 88, 89, 90, 91, 92, 93, 94, 95, 96, 97, 98, 99, 100, 101, 102, 103, 104, 105, 106, 107, 108, 109, 110, 111, 112, 113, 114, 115, 116, 117, 118] else if id = 11 then [0, 1, 7, 8, 9, 10, 11, 12, 13, 14, 15, 16, 17, 18, 19, 20, 21, 22, 23, 24, 25, 26, 27, 28, 29, 30, 31, 32, 33, 34, 35, 36, 37, 38, 39, 40, 41, 42, 43, 44, 45, 46, 47, 48, 49, 50, 51, 52, 53, 54, 55, 56, 57, 58, 59, 60, 61, 62, 63, 64, 65, 66, 67, 68, 69, 70, 71, 72, 73, 74, 75, 76, 77, 78, 79, 80, 81, 82, 83, 84, 85, 86, 87, 88, 89, 90, 91, 92, 93, 94, 95, 96, 97, 98, 99, 100, 101, 102, 103, 104, 105, 106, 107, 108, 109, 110, 111, 112, 113, 114, 115, 116, 117, 118] else if id = 13 then [0, 1, 7, 8, 9, 10, 11, 13, 14, 15, 16, 17, 18, 19, 20, 21, 22, 23, 24, 25, 26, 27, 28, 29, 30, 31, 32, 33, 34, 35, 36, 37, 38, 39, 40, 41, 42, 43, 44, 45, 46, 47, 48, 49, 50, 51, 52, 53, 54, 55, 56, 57, 58, 59, 60, 61, 62, 63, 64, 65, 66, 67, 68, 69, 70, 71, 72, 73, 74, 75, 76, 77, 78, 79, 80, 81, 82, 83, 84, 85, 86, 87, 88, 89, 90, 91, 92, 93, 94, 95, 96, 97, 98, 99, 100, 101, 102, 103, 104, 105, 106, 107, 110, 111, 112, 113, 114, 115, 116, 117, 118] else []
def C11 (g B B' W : Nat → Int) (t : Nat) (s : S8) : St := ([.any, .any, .ptr (some (0, 0)), .ptr (some (1, 0)), .ptr (some (2, 0)), .sl (some (131, 0)) 64 (.rel 0), .ptr (some (132, 0)), .int .i64 (t : Nat), .any, .any, .any, .any, .any, .any, .any, .any, .any, .any, yy 0 t 1, yy 0 t 0, .any, .any, .any, .any, .any, .any, .any, .any, .any, .any, .any, .any, .any, .any, .any, .any, .any, .any, .any, .any, .any, .any, .any, .any, .any, .any, .any, .any, .any, .any, .any, .any, .any, .any, .any, .any, .any, .any, .any, .any, .any, .any, .any, .any, .any, .any, .any, .any, .any, .any, .any, .any, .any, .any, .any, .any, .any, .any, .any, .any, .any, .any, .any, .any, .any, .any, .any, .any, .any, .any, .any, .any, .any, .any, .any, .any, .any, .any, .any, .any, .any, .any, .any, .any, .any, .any, .any, .any, .any, .any, .any, .any, .any, .any, .any, .any, .any, .any, .any], hp11 g B B' W s.fn)
def E11 (g B B' W : Nat → Int) (s : S8) : St := ([.any, .any, .ptr (some (0, 0)), .ptr (some (1, 0)), .ptr (some (2, 0)), .sl (some (131, 0)) 64 (.rel 0), .ptr (some (132, 0)), .int .i64 64, .any, .any, .any, .any, .any, .any, .any, .any, .int .i64 64, .bool false, .int .i64 63, .int .i64 64, .any, .any, .any, .any, .any, .any, .any, .any, .any, .any, .any, .any, .any, .any, .any, .any, .any, .any, .any, .any, .any, .any, .any, .any, .any, .any, .any, .any, .any, .any, .any, .any, .any, .any, .any, .any, .any, .any, .any, .any, .any, .any, .any, .any, .any, .any, .any, .any, .any, .any, .any, .any, .any, .any, .any, .any, .any, .any, .any, .any, .any, .any, .any, .any, .any, .any, .any, .any, .any, .any, .any, .any, .any, .any, .any, .any, .any, .any, .any, .any, .any, .any, .any, .any, .any, .any, .any, .any, .any, .any, .any, .any, .any, .any, .any, .any, .any, .any, .any], hp11 g B B' W s.fn)
def PP11 (P : Program) (g B B' W : Nat → Int) (t : Nat) : Prop := ∀ (k : Nat) (s : S8), evP P S2 F11 (k + 30) (.inl p11_l1) (C11 g B B' W t s) = some (.normal, C11 g B B' W (t + 1) (rndT W t s))
def D11 (g B B' W : Nat → Int) (t : Nat) (f : Nat → Int) : St := ([.any, .any, .ptr (some (0, 0)), .ptr (some (1, 0)), .ptr (some (2, 0)), .sl (some (131, 0)) 64 (.rel 0), .ptr (some (132, 0)), .any, .any, .any, .any, .any, .int .i64 (t : Nat), .any, .any, .any, .any, .any, .any, .any, .any, .any, .any, .any, .any, .any, .any, .any, .any, .any, .any, .any, .any, .any, .any, .any, .any, .any, .any, .any, .any, .any, .any, .any, .any, .any, .any, .any, .any, .any, .any, .any, .any, .any, .any, .any, .any, .any, .any, .any, .any, .any, .any, .any, .any, .any, .any, .any, .any, .any, .any, .any, .any, .any, .any, .any, .any, .any, .any, .any, .any, .any, .any, .any, .any, .any, .any, .any, .any, .any, .any, .any, .any, .any, .any, .any, .any, .any, .any, .any, .any, .any, .any, .any, .any, .any, .any, .any, yy 0 t 1, yy 0 t 0, .any, .any, .any, .any, .any, .any, .any, .any, .any], hp11 g B B' W f)
def H11 (g B B' W : Nat → Int) (f : Nat → Int) : St := ([.any, .any, .ptr (some (0, 0)), .ptr (some (1, 0)), .ptr (some (2, 0)), .sl (some (131, 0)) 64 (.rel 0), .ptr (some (132, 0)), .any, .any, .any, .any, .any, .int .i64 8, .any, .any, .any, .any, .any, .any, .any, .any, .any, .any, .any, .any, .any, .any, .any, .any, .any, .any, .any, .any, .any, .any, .any, .any, .any, .any, .any, .any, .any, .any, .any, .any, .any, .any, .any, .any, .any, .any, .any, .any, .any, .any, .any, .any, .any, .any, .any, .any, .any, .any, .any, .any, .any, .any, .any, .any, .any, .any, .any, .any, .any, .any, .any, .any, .any, .any, .any, .any, .any, .any, .any, .any, .any, .any, .any, .any, .any, .any, .any, .any, .any, .any, .any, .any, .any, .any, .any, .any, .any, .any, .any, .any, .any, .int .i64 8, .bool false, .int .i64 7, .int .i64 8, .any, .any, .any, .any, .any, .any, .any, .any, .any], hp11 g B B' W f)
def PQ11 (P : Program) (g B B' W : Nat → Int) (t : Nat) : Prop := ∀ (k : Nat) (f : Nat → Int), evP P S2 F11 (k + 30) (.inl p11_l0) (D11 g B B' W t f) = some (.normal, D11 g B B' W (t + 1) (addT g t f))
def K11 (g B B' W f : Nat → Int) : St := ([.any, .any, .ptr (some (0, 0)), .ptr (some (1, 0)), .ptr (some (2, 0)), .sl (some (131, 0)) 64 (.rel 0), .ptr (some (132, 0)), .any, .any, .any, .any, .any, .int .i64 8, .any, .any, .any, .any, .any, .any, .any, .any, .any, .any, .any, .any, .any, .any, .any, .any, .any, .any, .any, .any, .any, .any, .any, .any, .any, .any, .any, .any, .any, .any, .any, .any, .any, .any, .any, .any, .any, .any, .any, .any, .any, .any, .any, .any, .any, .any, .any, .any, .any, .any, .any, .any, .any, .any, .any, .any, .any, .any, .any, .any, .any, .any, .any, .any, .any, .any, .any, .any, .any, .any, .any, .any, .any, .any, .any, .any, .any, .any, .any, .any, .any, .any, .any, .any, .any, .any, .any, .any, .any, .any, .any, .any, .any, .int .i64 8, .bool false, .int .i64 7, .int .i64 8, .any, .any, .any, .any, .any, .any, .any, .any, .agg (ints .u32 8 f)], hp30 (.row 25 8 (ints .u32 8 g)) (.row 26 64 (ints .u8 64 B)) (.row 25 8 (ints .u32 8 f)) B' 64 W ++ [.row 25 8 (ints .u32 8 f)])
abbrev DB (B : Nat → Int) : Nat → Int := dec (ints .u8 64 B)

end Go.Proofs.Ytiijphmpkmmpjaa
