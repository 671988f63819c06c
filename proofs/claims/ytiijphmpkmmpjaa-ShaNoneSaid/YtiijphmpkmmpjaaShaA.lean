import Derived.Test.YtiijphmpkmmpjaaAmW
import Derived.Test.YtiijphmpkmmpjaaAmV
namespace Go.Proofs.Ytiijphmpkmmpjaa
open Go Go.Am
set_option maxRecDepth 100000
set_option linter.unusedVariables false
set_option linter.unusedSimpArgs false

abbrev u32 (x : Int) : AV := .int .u32 x
structure S8 where
  (a b c d e f g h : Int)
def S8.l (x : S8) : List AV := [u32 x.a, u32 x.b, u32 x.c, u32 x.d, u32 x.e, u32 x.f, u32 x.g, u32 x.h]
def ad (a b : Int) : Int := IntKind.u32.wrap (a + b)
def an (a b : Int) : Int := IntKind.u32.wrap (BitVec.ofInt 32 a &&& BitVec.ofInt 32 b).toNat
def xo (a b : Int) : Int := IntKind.u32.wrap (BitVec.ofInt 32 a ^^^ BitVec.ofInt 32 b).toNat
def orr (a b : Int) : Int := IntKind.u32.wrap (BitVec.ofInt 32 a ||| BitVec.ofInt 32 b).toNat
def no (a : Int) : Int := xo 4294967295 a
def sr (x : Int) (n : Nat) : Int := x.fdiv (2 ^ n)
def sl (x : Int) (n : Nat) : Int := IntKind.u32.wrap (x * 2 ^ n)
def rot (x : Int) (n : Nat) : Int := orr (sr x n) (sl x (32 - n))
def turnS : List AV → Option AV
  | [.int .u32 x, .int .i64 n] => if 0 ≤ n ∧ n ≤ 32 then some (u32 (rot x n.toNat)) else none
  | _ => none
def turnsI (x : Int) (a b c : Nat) : Int := xo (xo (rot x a) (rot x b)) (rot x c)
def turnsS : List AV → Option AV
  | [.int .u32 x, .int .i64 a, .int .i64 b, .int .i64 c] => if 0 ≤ a ∧ a ≤ 32 ∧ 0 ≤ b ∧ b ≤ 32 ∧ 0 ≤ c ∧ c ≤ 32 then some (u32 (turnsI x a.toNat b.toNat c.toNat)) else none
  | _ => none
def Ks : List Int := [1116352408, 1899447441, 3049323471, 3921009573, 961987163, 1508970993, 2453635748, 2870763221, 3624381080, 310598401, 607225278, 1426881987, 1925078388, 2162078206, 2614888103, 3248222580, 3835390401, 4022224774, 264347078, 604807628, 770255983, 1249150122, 1555081692, 1996064986, 2554220882, 2821834349, 2952996808, 3210313671, 3336571891, 3584528711, 113926993, 338241895, 666307205, 773529912, 1294757372, 1396182291, 1695183700, 1986661051, 2177026350, 2456956037, 2730485921, 2820302411, 3259730800, 3345764771, 3516065817, 3600352804, 4094571909, 275423344, 430227734, 506948616, 659060556, 883997877, 958139571, 1322822218, 1537002063, 1747873779, 1955562222, 2024104815, 2227730452, 2361852424, 2428436474, 2756734187, 3204031479, 3329325298]
def constS : List AV → Option AV
  | [.int .i64 t] => if 0 ≤ t then (Ks[t.toNat]?).map u32 else none
  | _ => none

def S0 : Specs := mkS Q (fun _ => none) (fun _ => none)

theorem quietText : ∀ g, Q g = true → ∃ fn, HasText Try.prog g fn := by
  intro g hg
  have : g ∈ quiet := by simpa [Q] using hg
  simp only [quiet, List.mem_cons, List.not_mem_nil, or_false] at this
  rcases this with rfl | rfl | rfl | rfl | rfl | rfl | rfl | rfl | rfl | rfl | rfl | rfl | rfl | rfl | rfl | rfl | rfl | rfl | rfl
  · exact ⟨_, ht9⟩
  · exact ⟨_, ht10⟩
  · exact ⟨_, ht11⟩
  · exact ⟨_, ht13⟩
  · exact ⟨_, ht14⟩
  · exact ⟨_, ht23⟩
  · exact ⟨_, ht24⟩
  · exact ⟨_, ht25⟩
  · exact ⟨_, ht26⟩
  · exact ⟨_, ht27⟩
  · exact ⟨_, ht28⟩
  · exact ⟨_, ht29⟩
  · exact ⟨_, ht31⟩
  · exact ⟨_, ht32⟩
  · exact ⟨_, ht33⟩
  · exact ⟨_, ht34⟩
  · exact ⟨_, ht37⟩
  · exact ⟨_, ht38⟩
  · exact ⟨_, ht39⟩

theorem mixed : Try.prog.follows .mixedOrders = true := by kernel_rfl

theorem S0_ok : S0.OK Try.prog := mkS_ok quietText (fun _ _ _ h => by cases h) (fun _ _ h => by cases h)
theorem S0_q : ∀ g, (S0.q g).isSome = Q g := fun g => mkS_isSome g

theorem turn_run (P : Program) (S : Specs) (x n : Int) (h0 : 0 ≤ n) (h1 : n ≤ 32) : runF P S (fun _ => []) 10 p39 [.int .u32 x, .int .i64 n] [] = some (u32 (rot x n.toNat), []) := by
  have hw : IntKind.i64.wrap (32 - n) = 32 - n := by rw [IntKind.wrap_i64]; omega
  have e1 : ¬ n < 0 := by omega
  have e2 : ¬ (32 - n < 0) := by omega
  have hb : IntKind.u32.bits = 32 := rfl
  have m1 : min n.toNat 32 = n.toNat := by omega
  have m2 : min (32 - n).toNat 32 = 32 - n.toNat := by omega
  simp [p39, runF, evP, evalOpsR, stepR, wantedR, RI.isPure, RI.isAlloc, pureR, evalOperand, put, withHoles, forget, ofValue, shiftA, intOp, hw, e1, e2, resultA, rot, orr, sr, sl, hb, m1, m2]

theorem turn_ref (P : Program) (S : Specs) (x n : Int) (h0 : 0 ≤ n) (h1 : n ≤ 32) : runF P S (fun _ => []) 10 p31 [.int .u32 x, .int .i64 n] [] = some (u32 (rot x n.toNat), []) := turn_run P S x n h0 h1

theorem turn_ok : QuietOK Try.prog 39 fun args _ => turnS args := quiet_of_plain mixed S0_ok ht39 fun args v hv => by
  unfold turnS at hv
  split at hv
  · split at hv
    · rename_i x n hn
      cases hv
      exact ⟨rfl, rfl, _, _, _, runF_sound S0_q c39 (turn_run _ _ x n hn.1 hn.2)⟩
    · cases hv
  · cases hv

theorem rturn_ok : QuietOK Try.prog 31 fun args _ => turnS args := quiet_of_plain mixed S0_ok ht31 fun args v hv => by
  unfold turnS at hv
  split at hv
  · split at hv
    · rename_i x n hn
      cases hv
      exact ⟨rfl, rfl, _, _, _, runF_sound S0_q c31 (turn_ref _ _ x n hn.1 hn.2)⟩
    · cases hv
  · cases hv

def constP (p : PF) (n : Nat) : Prop := ∀ P S, (runF P S (fun _ => []) 10 p [.int .i64 (n : Nat)] []).map (·.1) = some (u32 (Ks.getD n 0))
theorem const_all : AllLt (constP p29) 0 64 := (⟨⟨⟨⟨⟨⟨⟨⟨⟨⟨⟨⟨⟨⟨⟨⟨⟨⟨⟨⟨⟨⟨⟨⟨⟨⟨⟨⟨⟨⟨⟨⟨⟨⟨⟨⟨⟨⟨⟨⟨⟨⟨⟨⟨⟨⟨⟨⟨⟨⟨⟨⟨⟨⟨⟨⟨⟨⟨⟨⟨⟨⟨⟨⟨trivial, fun _ _ => by kernel_rfl⟩, fun _ _ => by kernel_rfl⟩, fun _ _ => by kernel_rfl⟩, fun _ _ => by kernel_rfl⟩, fun _ _ => by kernel_rfl⟩, fun _ _ => by kernel_rfl⟩, fun _ _ => by kernel_rfl⟩, fun _ _ => by kernel_rfl⟩, fun _ _ => by kernel_rfl⟩, fun _ _ => by kernel_rfl⟩, fun _ _ => by kernel_rfl⟩, fun _ _ => by kernel_rfl⟩, fun _ _ => by kernel_rfl⟩, fun _ _ => by kernel_rfl⟩, fun _ _ => by kernel_rfl⟩, fun _ _ => by kernel_rfl⟩, fun _ _ => by kernel_rfl⟩, fun _ _ => by kernel_rfl⟩, fun _ _ => by kernel_rfl⟩, fun _ _ => by kernel_rfl⟩, fun _ _ => by kernel_rfl⟩, fun _ _ => by kernel_rfl⟩, fun _ _ => by kernel_rfl⟩, fun _ _ => by kernel_rfl⟩, fun _ _ => by kernel_rfl⟩, fun _ _ => by kernel_rfl⟩, fun _ _ => by kernel_rfl⟩, fun _ _ => by kernel_rfl⟩, fun _ _ => by kernel_rfl⟩, fun _ _ => by kernel_rfl⟩, fun _ _ => by kernel_rfl⟩, fun _ _ => by kernel_rfl⟩, fun _ _ => by kernel_rfl⟩, fun _ _ => by kernel_rfl⟩, fun _ _ => by kernel_rfl⟩, fun _ _ => by kernel_rfl⟩, fun _ _ => by kernel_rfl⟩, fun _ _ => by kernel_rfl⟩, fun _ _ => by kernel_rfl⟩, fun _ _ => by kernel_rfl⟩, fun _ _ => by kernel_rfl⟩, fun _ _ => by kernel_rfl⟩, fun _ _ => by kernel_rfl⟩, fun _ _ => by kernel_rfl⟩, fun _ _ => by kernel_rfl⟩, fun _ _ => by kernel_rfl⟩, fun _ _ => by kernel_rfl⟩, fun _ _ => by kernel_rfl⟩, fun _ _ => by kernel_rfl⟩, fun _ _ => by kernel_rfl⟩, fun _ _ => by kernel_rfl⟩, fun _ _ => by kernel_rfl⟩, fun _ _ => by kernel_rfl⟩, fun _ _ => by kernel_rfl⟩, fun _ _ => by kernel_rfl⟩, fun _ _ => by kernel_rfl⟩, fun _ _ => by kernel_rfl⟩, fun _ _ => by kernel_rfl⟩, fun _ _ => by kernel_rfl⟩, fun _ _ => by kernel_rfl⟩, fun _ _ => by kernel_rfl⟩, fun _ _ => by kernel_rfl⟩, fun _ _ => by kernel_rfl⟩, fun _ _ => by kernel_rfl⟩)
theorem rconst_all : AllLt (constP p32) 0 64 := (⟨⟨⟨⟨⟨⟨⟨⟨⟨⟨⟨⟨⟨⟨⟨⟨⟨⟨⟨⟨⟨⟨⟨⟨⟨⟨⟨⟨⟨⟨⟨⟨⟨⟨⟨⟨⟨⟨⟨⟨⟨⟨⟨⟨⟨⟨⟨⟨⟨⟨⟨⟨⟨⟨⟨⟨⟨⟨⟨⟨⟨⟨⟨⟨trivial, fun _ _ => by kernel_rfl⟩, fun _ _ => by kernel_rfl⟩, fun _ _ => by kernel_rfl⟩, fun _ _ => by kernel_rfl⟩, fun _ _ => by kernel_rfl⟩, fun _ _ => by kernel_rfl⟩, fun _ _ => by kernel_rfl⟩, fun _ _ => by kernel_rfl⟩, fun _ _ => by kernel_rfl⟩, fun _ _ => by kernel_rfl⟩, fun _ _ => by kernel_rfl⟩, fun _ _ => by kernel_rfl⟩, fun _ _ => by kernel_rfl⟩, fun _ _ => by kernel_rfl⟩, fun _ _ => by kernel_rfl⟩, fun _ _ => by kernel_rfl⟩, fun _ _ => by kernel_rfl⟩, fun _ _ => by kernel_rfl⟩, fun _ _ => by kernel_rfl⟩, fun _ _ => by kernel_rfl⟩, fun _ _ => by kernel_rfl⟩, fun _ _ => by kernel_rfl⟩, fun _ _ => by kernel_rfl⟩, fun _ _ => by kernel_rfl⟩, fun _ _ => by kernel_rfl⟩, fun _ _ => by kernel_rfl⟩, fun _ _ => by kernel_rfl⟩, fun _ _ => by kernel_rfl⟩, fun _ _ => by kernel_rfl⟩, fun _ _ => by kernel_rfl⟩, fun _ _ => by kernel_rfl⟩, fun _ _ => by kernel_rfl⟩, fun _ _ => by kernel_rfl⟩, fun _ _ => by kernel_rfl⟩, fun _ _ => by kernel_rfl⟩, fun _ _ => by kernel_rfl⟩, fun _ _ => by kernel_rfl⟩, fun _ _ => by kernel_rfl⟩, fun _ _ => by kernel_rfl⟩, fun _ _ => by kernel_rfl⟩, fun _ _ => by kernel_rfl⟩, fun _ _ => by kernel_rfl⟩, fun _ _ => by kernel_rfl⟩, fun _ _ => by kernel_rfl⟩, fun _ _ => by kernel_rfl⟩, fun _ _ => by kernel_rfl⟩, fun _ _ => by kernel_rfl⟩, fun _ _ => by kernel_rfl⟩, fun _ _ => by kernel_rfl⟩, fun _ _ => by kernel_rfl⟩, fun _ _ => by kernel_rfl⟩, fun _ _ => by kernel_rfl⟩, fun _ _ => by kernel_rfl⟩, fun _ _ => by kernel_rfl⟩, fun _ _ => by kernel_rfl⟩, fun _ _ => by kernel_rfl⟩, fun _ _ => by kernel_rfl⟩, fun _ _ => by kernel_rfl⟩, fun _ _ => by kernel_rfl⟩, fun _ _ => by kernel_rfl⟩, fun _ _ => by kernel_rfl⟩, fun _ _ => by kernel_rfl⟩, fun _ _ => by kernel_rfl⟩, fun _ _ => by kernel_rfl⟩)

theorem const_ok {f : FuncId} {fn : Func} {p : PF} (hf : HasText Try.prog f fn) (hc : compF Try.prog Q fn = some p) (hall : AllLt (constP p) 0 64) : QuietOK Try.prog f fun args _ => constS args := quiet_of_plain mixed S0_ok hf fun args v hv => by
  unfold constS at hv
  split at hv
  · rename_i t
    split at hv
    · rename_i h0
      simp only [Option.map_eq_some_iff] at hv
      obtain ⟨k, hk, rfl⟩ := hv
      have hlt : t.toNat < 64 := by
        rcases Nat.lt_or_ge t.toNat 64 with q | q
        · exact q
        · rw [List.getElem?_eq_none (by simpa [Ks] using q)] at hk; cases hk
      have hr := allLt_spec hall t.toNat (Nat.zero_le _) (by omega) Try.prog S0
      simp only [Option.map_eq_some_iff] at hr
      obtain ⟨⟨v1, h⟩, hr, hv1⟩ := hr
      simp only at hv1
      subst hv1
      rw [show ((t.toNat : Nat) : Int) = t by omega] at hr
      have : Ks.getD t.toNat 0 = k := by rw [List.getD_eq_getElem?_getD, hk]; rfl
      rw [this] at hr
      exact ⟨rfl, rfl, _, _, _, runF_sound S0_q hc hr⟩
    · cases hv
  · cases hv

def S1 : Specs := mkS Q (fun g => match g with
  | 39 => some fun args _ => turnS args
  | 31 => some fun args _ => turnS args
  | 29 => some fun args _ => constS args
  | 32 => some fun args _ => constS args
  | _ => none) (fun _ => none)

theorem S1_ok : S1.OK Try.prog := mkS_ok quietText (fun g s _ h => by
  split at h
  · cases h; exact turn_ok
  · cases h; exact rturn_ok
  · cases h; exact const_ok ht29 c29 const_all
  · cases h; exact const_ok ht32 c32 rconst_all
  · cases h) (fun _ _ h => by cases h)
theorem S1_q : ∀ g, (S1.q g).isSome = Q g := fun g => mkS_isSome g

theorem turns_ok : QuietOK Try.prog 28 fun args _ => turnsS args := quiet_of_plain mixed S1_ok ht28 fun args v hv => by
  unfold turnsS at hv
  split at hv
  · split at hv
    · rename_i x a b c hn
      cases hv
      have hr : runF Try.prog S1 (fun _ => []) 10 p28 [.int .u32 x, .int .i64 a, .int .i64 b, .int .i64 c] [] = some (u32 (turnsI x a.toNat b.toNat c.toNat), []) := by
        have t1 : ∀ n : Int, 0 ≤ n → n ≤ 32 → turnS [.int .u32 x, .int .i64 n] = some (u32 (rot x n.toNat)) := fun n h0 h1 => by simp [turnS, h0, h1]
        have hq : S1.q 39 = some fun args _ => turnS args := by kernel_rfl
        simp [p28, runF, evP, evalOpsR, stepR, wantedR, RI.isPure, RI.isAlloc, pureR, calleeR, callR, hq, t1, hn, evalOperand, put, withHoles, forget, ofValue, intOp, resultA, turnsI, xo]
        rfl
      exact ⟨rfl, rfl, _, _, _, runF_sound S1_q c28 hr⟩
    · cases hv
  · cases hv
end Go.Proofs.Ytiijphmpkmmpjaa
