/- The law ShaTexts behind its first three regions, along its two paths. -/
import Derived.Test.YtiijphmpkmmpjaaShaTd
namespace Go.Proofs.Ytiijphmpkmmpjaa
open Go Go.Am
set_option maxRecDepth 100000
set_option linter.unusedVariables false
set_option linter.unusedSimpArgs false

noncomputable def SX8 : Specs := mkS Q (fun g => match g with
  | 9 => some fun args _ => begunS args
  | 23 => some fun args _ => parseS args
  | 24 => some fun args _ => parseS args
  | 25 => some fun args _ => hexS args
  | 26 => some fun args _ => hexS args
  | _ => none) (fun _ => none)
def cv8 : CV := fun g args h => match g with
  | 25 => hexC args h
  | 26 => hexC args h
  | _ => none
def F8 (id : Nat) : List Nat := if id = 3 then [0, 12, 13, 14] else []
def rest8 : PC → Nat → PC
  | c, 0 => c
  | .seq _ b, n + 1 => rest8 b n
  | c, _ => c
abbrev D32 (f : Nat → Int) : Nat → Int := dec (ints .u8 32 f)
def E32 (f g : Nat → Int) : Bool := (List.range 32).foldr (fun i b => f i == g i && b) true
def con8_t (f : Nat → Int) (s : List UInt8) : List Bool := [parseB s == true] ++ tr 5 ++ [inB (D32 f), parseB (hexV (D32 f)) == true] ++ tr 3 ++ [inB (D32 f), true, inB (D32 f), (hexV (D32 f) == hexV (D32 f)) == true,
  E32 (pf s) (pf s) == true, (true == parseB s) == true, E32 (pf (hexV (D32 f))) f == true, true, inB (D32 (pf s)), (hexV (D32 (pf s)) == s) == true]
def con8_f (f : Nat → Int) (s : List UInt8) : List Bool := [parseB s == false] ++ tr 5 ++ [inB (D32 f), parseB (hexV (D32 f)) == true] ++ tr 3 ++ [inB (D32 f), true, inB (D32 f), (hexV (D32 f) == hexV (D32 f)) == true,
  E32 (pf s) (pf s) == true, (false == parseB s) == true, E32 (pf (hexV (D32 f))) f == true]
theorem law8_t (x : AObj) (A0 A1 A2 : AV) (f : Nat → Int) (s : List UInt8) : (evV Try.prog SX8 (fun _ => none) cv8 F8 60 (.inl (rest8 p8.body 3)) ([A0, .str s, .any, .any, .bool false, .ptr (some (1, 0)), .any, .any, .any, .any, .any, .any, .sl (some (1, 0)) 32 (.fix 32), A1, A2, .any, .any, .any, .any, .any, .any, .any, .any, .any, .any, .any, .any, .any, .any, .any, .any, .any, .any, .any, .any, .any, .any, .any, .any, .any, .any, .any, .any, .any, .any, .any, .any, .any, .any, .any, .any, .any, .any, .any, .any, .any, .any, .any, .any, .any, .any, .any, .any, .any, .any, .any, .any], [x, .row 30 32 (ints .u8 32 f)]) [Hint.is true, Hint.lit, Hint.is true, Hint.lit, Hint.is true, Hint.is true, Hint.is true, Hint.is true, Hint.is true]).map (fun r => (r.1.1, r.1.2.1[4]?, r.2.2)) = some (.ret, some (.bool true), con8_t f s) := by kernel_rfl
theorem law8_f (x : AObj) (A0 A1 A2 : AV) (f : Nat → Int) (s : List UInt8) : (evV Try.prog SX8 (fun _ => none) cv8 F8 60 (.inl (rest8 p8.body 3)) ([A0, .str s, .any, .any, .bool false, .ptr (some (1, 0)), .any, .any, .any, .any, .any, .any, .sl (some (1, 0)) 32 (.fix 32), A1, A2, .any, .any, .any, .any, .any, .any, .any, .any, .any, .any, .any, .any, .any, .any, .any, .any, .any, .any, .any, .any, .any, .any, .any, .any, .any, .any, .any, .any, .any, .any, .any, .any, .any, .any, .any, .any, .any, .any, .any, .any, .any, .any, .any, .any, .any, .any, .any, .any, .any, .any, .any, .any], [x, .row 30 32 (ints .u8 32 f)]) [Hint.is false, Hint.lit, Hint.is true, Hint.lit, Hint.is true, Hint.is true, Hint.is true, Hint.is true]).map (fun r => (r.1.1, r.1.2.1[4]?, r.2.2)) = some (.ret, some (.bool true), con8_f f s) := by kernel_rfl
theorem cv8_ok : cv8.OK SX8 := fun g vs h r c hg hc => by
  unfold cv8 at hg
  split at hg
  all_goals
    first
    | (unfold hexC at hg
       split at hg
       · rename_i cs
         cases hg
         simp only [List.all_cons, List.all_nil, id, Bool.and_true] at hc
         show (hexS [.agg cs]).map (·, h) = _
         simp only [hexS, hc, if_true, Option.map_some]
       · cases hg)
    | cases hg
theorem SX8_ok : SX8.OK Try.prog := mkS_ok quietText (fun g s _ h => by
  split at h
  · cases h; exact begun_okS
  · cases h; exact parse23_ok
  · cases h; exact parse24_ok
  · cases h; exact hex25_ok
  · cases h; exact hex26_ok
  · cases h) (fun _ _ h => by cases h)
theorem SX8_q : ∀ g, (SX8.q g).isSome = Q g := fun g => mkS_isSome g
end Go.Proofs.Ytiijphmpkmmpjaa
