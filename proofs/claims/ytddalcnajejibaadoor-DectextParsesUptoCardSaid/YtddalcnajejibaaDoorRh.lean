/- The fixed texts: live; DectextPrefix: shapes of its run. -/
import Derived.Test.YtddalcnajejibaaDoorRg
import Derived.Test.YtddalcnajejibaaDoorShelf
namespace Go.Proofs.YtddalcnajejibaaDoor
open Go Go.Am Go.RowKit
set_option maxRecDepth 100000
set_option maxHeartbeats 1000000
set_option linter.unusedVariables false
set_option linter.unusedSimpArgs false

def sIndexByte : List AV → Option AV
  | [.str s, .int .u8 c] => some (.int .i64 (Lib.indexByte s c.toNat.toUInt8))
  | _ => none
theorem indexByte_ok : QuietOK Tryd.prog 25 fun vs _ => sIndexByte vs := quiet_plain ht27 fun args v h => by
  unfold sIndexByte at h
  split at h <;> cases h
  exact ⟨rfl, rfl, _, sem_below rfl fun ρ w => (Tryd.strings_IndexByte _ _ w).mono fun e w' ⟨h1, h2⟩ => ⟨h1, h2 ▸ Below.refl _ _⟩⟩
def sCutPrefix : List AV → Option AV
  | [.str s, .str p] => some (.tup [.str (Lib.trimPrefix s p), .bool (Lib.hasPrefix s p)])
  | _ => none
theorem cutPrefix_ok : QuietOK Tryd.prog 28 fun vs _ => sCutPrefix vs := quiet_plain ht50 fun args v h => by
  unfold sCutPrefix at h
  split at h <;> cases h
  exact ⟨rfl, rfl, _, sem_below rfl fun ρ w => (Tryd.strings_CutPrefix _ _ w).mono fun e w' ⟨h1, h2⟩ => ⟨h1, h2 ▸ Below.refl _ _⟩⟩
def sIndexOne : List AV → Option AV
  | [.str s, .str [c]] => some (.int .i64 (Lib.indexByte s c))
  | _ => none
theorem indexOne_ok : QuietOK Tryd.prog 82 fun vs _ => sIndexOne vs := quiet_plain ht73 fun args v h => by
  unfold sIndexOne at h
  split at h <;> cases h
  exact ⟨rfl, rfl, _, sem_below rfl fun ρ w => (Tryd.stringslite_Index_one _ _ w).mono fun e w' ⟨h1, h2⟩ => ⟨h1, h2 ▸ Below.refl _ _⟩⟩
def bq0 : FuncId → Option (List AV → AHeap → Option AV)
  | 25 => some fun vs _ => sIndexByte vs
  | 82 => some fun vs _ => sIndexOne vs
  | 28 => some fun vs _ => sCutPrefix vs
  | _ => none
theorem bq0_ok : ∀ g s, bq0 g = some s → QuietOK Tryd.prog g s := by
  intro g s h
  unfold bq0 at h
  split at h <;> cases h
  · exact indexByte_ok
  · exact indexOne_ok
  · exact cutPrefix_ok
def tab : FuncId → Option PF
  | 9 => some pz9
  | 11 => some pz11
  | 13 => some p38
  | 15 => some pz15
  | 17 => some p37
  | 21 => some pz21
  | 22 => some pz22
  | 26 => some pz26
  | 27 => some pz27
  | 29 => some p51
  | 30 => some p52
  | 31 => some p53
  | 35 => some pz35
  | 38 => some p49
  | 39 => some pz39
  | 40 => some pz40
  | 42 => some pz42
  | 43 => some pz43
  | 44 => some pz44
  | 52 => some pz52
  | 53 => some pz53
  | 57 => some p60
  | 58 => some p61
  | 59 => some p62
  | 62 => some p66
  | 63 => some p67
  | 64 => some p68
  | 67 => some pz67
  | 68 => some pz68
  | 70 => some pz70
  | 71 => some pz71
  | 73 => some pz73
  | 78 => some pz78
  | 84 => some p77
  | 85 => some p78
  | 86 => some pz86
  | _ => none
theorem tab_ok : TabOK Tryd.prog tab Q := by
  intro g pf h
  unfold tab at h
  split at h <;> cases h
  · exact ⟨_, htz9, cz9⟩
  · exact ⟨_, htz11, cz11⟩
  · exact ⟨_, ht38, c38⟩
  · exact ⟨_, htz15, cz15⟩
  · exact ⟨_, ht37, c37⟩
  · exact ⟨_, htz21, cz21⟩
  · exact ⟨_, htz22, cz22⟩
  · exact ⟨_, htz26, cz26⟩
  · exact ⟨_, htz27, cz27⟩
  · exact ⟨_, ht51, c51⟩
  · exact ⟨_, ht52, c52⟩
  · exact ⟨_, ht53, c53⟩
  · exact ⟨_, htz35, cz35⟩
  · exact ⟨_, ht49, c49⟩
  · exact ⟨_, htz39, cz39⟩
  · exact ⟨_, htz40, cz40⟩
  · exact ⟨_, htz42, cz42⟩
  · exact ⟨_, htz43, cz43⟩
  · exact ⟨_, htz44, cz44⟩
  · exact ⟨_, htz52, cz52⟩
  · exact ⟨_, htz53, cz53⟩
  · exact ⟨_, ht60, c60⟩
  · exact ⟨_, ht61, c61⟩
  · exact ⟨_, ht62, c62⟩
  · exact ⟨_, ht66, c66⟩
  · exact ⟨_, ht67, c67⟩
  · exact ⟨_, ht68, c68⟩
  · exact ⟨_, htz67, cz67⟩
  · exact ⟨_, htz68, cz68⟩
  · exact ⟨_, htz70, cz70⟩
  · exact ⟨_, htz71, cz71⟩
  · exact ⟨_, htz73, cz73⟩
  · exact ⟨_, htz78, cz78⟩
  · exact ⟨_, ht77, c77⟩
  · exact ⟨_, ht78, c78⟩
  · exact ⟨_, htz86, cz86⟩
noncomputable def SR : Nat → Specs := Go.Am.runD Tryd.prog tab Q bq0 (fun _ => none) (fun _ _ => []) 300 2
theorem SR_ok (n : Nat) : (SR n).OK Tryd.prog ∧ ∀ g, ((SR n).q g).isSome = Q g := Go.Am.runD_ok mixed tab_ok quietText bq0_ok (fun _ _ h => by cases h) _ _ _ n
theorem live_run : (runF Tryd.prog (SR 12) (fun _ => []) 300 p10 [] []).map (·.1) = some (.bool true) := by kernel_rfl
theorem live_ok : QuietOK Tryd.prog 8 fun vs _ => @ite _ (vs = []) (Classical.propDecidable _) (some (.bool true)) none := quiet_closed mixed (SR_ok 12).1 (SR_ok 12).2 ht10 c10 rfl rfl live_run
def ag6 : Rs1 := .agg [.bool, .int .u64, .int .u64, .int .u64, .int .u64, .int .i64]
noncomputable def tbP : List TbE := [⟨17, fun vs _ => sPrefix vs, .of (.one (.int .i64))⟩, ⟨8, sLive, .of (.one .bool)⟩, ⟨18, fun vs _ => sPrefix vs, .of (.one (.int .i64))⟩, ⟨14, fun vs _ => sParseD vs, .tup [ag6, .one (.int .i64)]⟩]
def qP (s : List UInt8) (n m i : Int) : St := (envOf 56 [(0, .str s), (3, .int .i64 n), (23, .int .i64 m), (24, .int .i64 i)], [])
def tP : Tidy := ⟨dropT 56 [0, 3, 23, 24], .rows []⟩
def xP : Tidy := ⟨dropT 56 [], .rows []⟩
def rP : Tidy := ⟨dropT 56 [2], .rows []⟩
noncomputable def CPl : Cfg := tbC Q tbP (fun _ => false) kdI
noncomputable def CP (s : List UInt8) : Cfg := { CPl with
  lw := fun id => if id = 7 then some fun st K => st = qP s (prefixF s) ((s.length : Int) + 1) 0 ∧ s.length ≤ 300 ∧ K (.exit 0) (envOf 56 [], []) else none
  F := fun id => if id = 7 then tP else ⟨[], .all⟩ }
end Go.Proofs.YtddalcnajejibaaDoor
