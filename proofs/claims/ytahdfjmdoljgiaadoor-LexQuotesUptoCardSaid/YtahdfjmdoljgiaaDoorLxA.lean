/- Contracts of the library's functions and of Quote; the closed run of live. -/
import Derived.Test.YtahdfjmdoljgiaaDoorAmV
import Derived.Test.YtahdfjmdoljgiaaDoorAmHc
import Derived.Test.YtahdfjmdoljgiaaDoorAmHd
import Derived.Test.YtahdfjmdoljgiaaDoorQu
namespace Go.Proofs.YtahdfjmdoljgiaaDoor
open Go Go.Am Go.RowKit
set_option maxRecDepth 100000
set_option linter.unusedVariables false
set_option linter.unusedSimpArgs false

theorem quietText : ∀ g, Q g = true → ∃ fn, HasText Tryd.prog g fn := by
  intro g hg
  have : g ∈ quiet := by simpa [Q] using hg
  simp only [quiet, List.mem_cons, List.not_mem_nil, or_false] at this
  rcases this with rfl | rfl | rfl | rfl | rfl | rfl | rfl | rfl | rfl | rfl | rfl | rfl | rfl | rfl | rfl | rfl | rfl | rfl | rfl | rfl | rfl | rfl | rfl | rfl | rfl | rfl | rfl | rfl | rfl | rfl | rfl | rfl | rfl | rfl | rfl | rfl | rfl | rfl | rfl | rfl | rfl | rfl | rfl | rfl | rfl | rfl | rfl | rfl | rfl | rfl | rfl | rfl | rfl | rfl | rfl
  · exact ⟨_, ht10⟩
  · exact ⟨_, ht11⟩
  · exact ⟨_, ht12⟩
  · exact ⟨_, ht13⟩
  · exact ⟨_, ht14⟩
  · exact ⟨_, ht15⟩
  · exact ⟨_, ht16⟩
  · exact ⟨_, ht17⟩
  · exact ⟨_, ht18⟩
  · exact ⟨_, ht19⟩
  · exact ⟨_, ht20⟩
  · exact ⟨_, ht21⟩
  · exact ⟨_, ht22⟩
  · exact ⟨_, ht23⟩
  · exact ⟨_, ht24⟩
  · exact ⟨_, ht25⟩
  · exact ⟨_, ht26⟩
  · exact ⟨_, ht27⟩
  · exact ⟨_, ht28⟩
  · exact ⟨_, ht32⟩
  · exact ⟨_, ht33⟩
  · exact ⟨_, ht34⟩
  · exact ⟨_, ht35⟩
  · exact ⟨_, ht36⟩
  · exact ⟨_, ht37⟩
  · exact ⟨_, ht38⟩
  · exact ⟨_, ht39⟩
  · exact ⟨_, ht40⟩
  · exact ⟨_, ht41⟩
  · exact ⟨_, ht42⟩
  · exact ⟨_, ht43⟩
  · exact ⟨_, ht44⟩
  · exact ⟨_, ht45⟩
  · exact ⟨_, ht47⟩
  · exact ⟨_, ht49⟩
  · exact ⟨_, ht50⟩
  · exact ⟨_, ht51⟩
  · exact ⟨_, ht52⟩
  · exact ⟨_, ht53⟩
  · exact ⟨_, ht54⟩
  · exact ⟨_, ht55⟩
  · exact ⟨_, ht56⟩
  · exact ⟨_, ht60⟩
  · exact ⟨_, ht61⟩
  · exact ⟨_, ht62⟩
  · exact ⟨_, ht66⟩
  · exact ⟨_, ht67⟩
  · exact ⟨_, ht68⟩
  · exact ⟨_, ht69⟩
  · exact ⟨_, ht70⟩
  · exact ⟨_, ht71⟩
  · exact ⟨_, ht73⟩
  · exact ⟨_, ht77⟩
  · exact ⟨_, ht78⟩
  · exact ⟨_, ht79⟩
theorem mixed : Tryd.prog.follows .mixedOrders = true := by kernel_rfl

theorem strE (l : List UInt8) : (⟨l.toArray⟩ : ByteArray).data.toList = l := rfl

/-! ### The library -/
def sIndexByte : List AV → Option AV
  | [.str s, .int .u8 c] => some (.int .i64 (Lib.indexByte s c.toNat.toUInt8))
  | _ => none
theorem indexByte_ok : QuietOK Tryd.prog 27 fun vs _ => sIndexByte vs := quiet_plain ht27 fun args v h => by
  unfold sIndexByte at h
  split at h <;> cases h
  exact ⟨rfl, rfl, _, sem_below rfl fun ρ w => (Tryd.strings_IndexByte _ _ w).mono fun e w' ⟨h1, h2⟩ => ⟨h1, h2 ▸ Below.refl _ _⟩⟩
def sHasPrefix : List AV → Option AV
  | [.str s, .str p] => some (.bool (Lib.hasPrefix s p))
  | _ => none
theorem hasPrefix_ok : QuietOK Tryd.prog 17 fun vs _ => sHasPrefix vs := quiet_plain ht17 fun args v h => by
  unfold sHasPrefix at h
  split at h <;> cases h
  exact ⟨rfl, rfl, _, sem_below rfl fun ρ w => (Tryd.strings_HasPrefix _ _ w).mono fun e w' ⟨h1, h2⟩ => ⟨h1, h2 ▸ Below.refl _ _⟩⟩
def sCutPrefix : List AV → Option AV
  | [.str s, .str p] => some (.tup [.str (Lib.trimPrefix s p), .bool (Lib.hasPrefix s p)])
  | _ => none
theorem cutPrefix_ok : QuietOK Tryd.prog 50 fun vs _ => sCutPrefix vs := quiet_plain ht50 fun args v h => by
  unfold sCutPrefix at h
  split at h <;> cases h
  exact ⟨rfl, rfl, _, sem_below rfl fun ρ w => (Tryd.strings_CutPrefix _ _ w).mono fun e w' ⟨h1, h2⟩ => ⟨h1, h2 ▸ Below.refl _ _⟩⟩
def sIndexOne : List AV → Option AV
  | [.str s, .str [c]] => some (.int .i64 (Lib.indexByte s c))
  | _ => none
theorem indexOne_ok : QuietOK Tryd.prog 73 fun vs _ => sIndexOne vs := quiet_plain ht73 fun args v h => by
  unfold sIndexOne at h
  split at h <;> cases h
  exact ⟨rfl, rfl, _, sem_below rfl fun ρ w => (Tryd.stringslite_Index_one _ _ w).mono fun e w' ⟨h1, h2⟩ => ⟨h1, h2 ▸ Below.refl _ _⟩⟩
def sTrimLeft : List AV → Option AV
  | [.str s, .str [c]] => if c.toNat < 128 then some (.str (Lib.trimLeftB s c)) else none
  | _ => none
theorem trimLeft_ok : QuietOK Tryd.prog 52 fun vs _ => sTrimLeft vs := quiet_plain ht52 fun args v h => by
  unfold sTrimLeft at h
  split at h
  · split at h <;> cases h
    rename_i hc
    exact ⟨rfl, rfl, _, sem_below rfl fun ρ w => (Tryd.strings_TrimLeft_one _ _ hc w).mono fun e w' ⟨h1, h2⟩ => ⟨h1, h2 ▸ Below.refl _ _⟩⟩
  · cases h
def sQuote : List AV → Option AV
  | [.str s] => if s.length ≤ 35184372088000 then some (.str (quoteL s)) else none
  | _ => none
theorem quote_ok : QuietOK Tryd.prog 14 fun vs _ => sQuote vs := quiet_plain ht14 fun args v h => by
  unfold sQuote at h
  split at h
  · split at h <;> cases h
    rename_i s hc
    exact ⟨rfl, rfl, _, sem_below rfl fun ρ w => quote_walk ⟨s.toArray⟩ w hc⟩
  · cases h

/-! ### live -/
def bq0 : FuncId → Option (List AV → AHeap → Option AV)
  | 27 => some fun vs _ => sIndexByte vs
  | 17 => some fun vs _ => sHasPrefix vs
  | 50 => some fun vs _ => sCutPrefix vs
  | 73 => some fun vs _ => sIndexOne vs
  | 52 => some fun vs _ => sTrimLeft vs
  | _ => none
theorem bq0_ok : ∀ g s, bq0 g = some s → QuietOK Tryd.prog g s := by
  intro g s h
  unfold bq0 at h
  split at h <;> cases h
  · exact indexByte_ok
  · exact hasPrefix_ok
  · exact cutPrefix_ok
  · exact indexOne_ok
  · exact trimLeft_ok
def tab : FuncId → Option PF
  | 8 => some p8
  | 12 => some p12
  | 16 => some p16
  | 18 => some p18
  | 21 => some p21
  | 33 => some p33
  | 34 => some p34
  | 35 => some p35
  | 36 => some p36
  | 37 => some p37
  | 38 => some p38
  | 39 => some p39
  | 49 => some p49
  | 51 => some p51
  | 53 => some p53
  | 61 => some p61
  | 66 => some p66
  | 67 => some p67
  | 68 => some p68
  | 77 => some p77
  | 78 => some p78
  | _ => none
theorem tab_ok : TabOK Tryd.prog tab Q := by
  intro g pf h
  unfold tab at h
  split at h <;> cases h
  · exact ⟨_, ht8, c8⟩
  · exact ⟨_, ht12, c12⟩
  · exact ⟨_, ht16, c16⟩
  · exact ⟨_, ht18, c18⟩
  · exact ⟨_, ht21, c21⟩
  · exact ⟨_, ht33, c33⟩
  · exact ⟨_, ht34, c34⟩
  · exact ⟨_, ht35, c35⟩
  · exact ⟨_, ht36, c36⟩
  · exact ⟨_, ht37, c37⟩
  · exact ⟨_, ht38, c38⟩
  · exact ⟨_, ht39, c39⟩
  · exact ⟨_, ht49, c49⟩
  · exact ⟨_, ht51, c51⟩
  · exact ⟨_, ht53, c53⟩
  · exact ⟨_, ht61, c61⟩
  · exact ⟨_, ht66, c66⟩
  · exact ⟨_, ht67, c67⟩
  · exact ⟨_, ht68, c68⟩
  · exact ⟨_, ht77, c77⟩
  · exact ⟨_, ht78, c78⟩
noncomputable def SR : Nat → Specs := runD Tryd.prog tab Q bq0 (fun _ => none) (fun _ _ => []) 200 2
theorem SR_ok (n : Nat) : (SR n).OK Tryd.prog ∧ ∀ g, ((SR n).q g).isSome = Q g := runD_ok mixed tab_ok quietText bq0_ok (fun _ _ h => by cases h) _ _ _ n
theorem live_run : (runF Tryd.prog (SR 8) (fun _ => []) 200 p10 [] []).map (·.1) = some (.bool true) := by kernel_rfl
theorem live_ok : QuietOK Tryd.prog 10 fun vs _ => @ite _ (vs = []) (Classical.propDecidable _) (some (.bool true)) none := quiet_closed mixed (SR_ok 8).1 (SR_ok 8).2 ht10 c10 rfl rfl live_run
end Go.Proofs.YtahdfjmdoljgiaaDoor
