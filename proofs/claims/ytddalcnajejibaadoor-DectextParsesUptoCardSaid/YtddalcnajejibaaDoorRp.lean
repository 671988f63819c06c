/- Numbers at a scale: times, round, Rescale, ParseAt: what they come to; shapes of their runs. -/
import Derived.Test.YtddalcnajejibaaDoorRn
namespace Go.Proofs.YtddalcnajejibaaDoor
open Go Go.Am
set_option maxRecDepth 100000
set_option linter.unusedVariables false
set_option linter.unusedSimpArgs false

def sTimesN : List AV → Option AV
  | [.agg [.int .u64 a0, .int .u64 a1, .int .u64 a2, .int .u64 a3], .int .i64 n] => if u64s a0 a1 a2 a3 = true ∧ 0 ≤ n ∧ n ≤ 77 then some (.agg (limbs (num4 a0 a1 a2 a3 * 10 ^ n.toNat / 115792089237316195423570985008687907853269984665640564039457584007913129639936) ++ limbs (num4 a0 a1 a2 a3 * 10 ^ n.toNat))) else none
  | _ => none
def zDec : AV := .agg [.bool false, .int .u64 0, .int .u64 0, .int .u64 0, .int .u64 0, .int .i64 0]
def scX (neg : Bool) (w sc : Int) : AV := if w ≥ 115792089237316195423570985008687907853269984665640564039457584007913129639936 then .tup [zDec, .int .i64 7] else .tup [decV (neg && decide (w ≠ 0)) w sc, .int .i64 0]
def sRound : List AV → Option AV
  | [.bool neg, .agg [.int .u64 h0, .int .u64 h1, .int .u64 h2, .int .u64 h3, .int .u64 l0, .int .u64 l1, .int .u64 l2, .int .u64 l3], .int .i64 fr, .int .i64 sc, .int .i64 p] =>
    if nz4 h0 h1 h2 h3 = false ∧ u64s l0 l1 l2 l3 = true ∧ 0 ≤ fr ∧ fr ≤ sc ∧ sc ≤ 18 then some (scX neg (num4 l0 l1 l2 l3 * 10 ^ (sc - fr).toNat) sc) else none
  | _ => none
def sRescale : List AV → Option AV
  | [.agg [.bool neg, .int .u64 l0, .int .u64 l1, .int .u64 l2, .int .u64 l3, .int .i64 fr], .int .i64 sc, .int .i64 p] =>
    if u64s l0 l1 l2 l3 = true ∧ 0 ≤ fr ∧ fr ≤ sc ∧ sc ≤ 18 ∧ 1 ≤ p ∧ p ≤ 5 ∧ (neg && !(nz4 l0 l1 l2 l3)) = false then some (scX neg (num4 l0 l1 l2 l3 * 10 ^ (sc - fr).toNat) sc) else none
  | _ => none
def parseAtX (s : List UInt8) (sc : Int) : AV :=
  if sc < 0 ∨ sc > 18 then .tup [zDec, .int .i64 1]
  else if ((parseD s).2.2.2 != 0) = true then .tup [zDec, .int .i64 (parseD s).2.2.2]
  else if (parseD s).2.2.1 > sc then .tup [zDec, .int .i64 31]
  else scX (parseD s).1 ((parseD s).2.1 * 10 ^ (sc - (parseD s).2.2.1).toNat) sc
def sParseAt : List AV → Option AV
  | [.str s, .int .i64 sc] => if s.length ≤ 1048577 then some (parseAtX s sc) else none
  | _ => none
def tb68 : List TbE := [⟨42, fun vs _ => sTimesN vs, .of ag8⟩, ⟨86, fun vs _ => sMade vs, .tup [ag6, .one (.int .i64)]⟩]
def tb35r : List TbE := [⟨21, fun vs _ => sCheck vs, .of (.one (.int .i64))⟩, ⟨67, fun vs _ => sMay vs, .of (.one (.int .i64))⟩, ⟨68, fun vs _ => sRound vs, .tup [ag6, .one (.int .i64)]⟩]
def tb15r : List TbE := [⟨13, fun vs _ => sParseD vs, .tup [ag6, .one (.int .i64)]⟩, ⟨35, fun vs _ => sRescale vs, .tup [ag6, .one (.int .i64)]⟩]
def tb16r : List TbE := [⟨14, fun vs _ => sParseD vs, .tup [ag6, .one (.int .i64)]⟩, ⟨36, fun vs _ => sTen vs, .tup [ag4, .one .bool]⟩, ⟨37, fun vs _ => sMul vs, .tup [ag4, ag4]⟩]
noncomputable def tb4r : List TbE := [⟨13, fun vs _ => sParseD vs, .tup [ag6, .one (.int .i64)]⟩, ⟨14, fun vs _ => sParseD vs, .tup [ag6, .one (.int .i64)]⟩, ⟨15, fun vs _ => sParseAt vs, .tup [ag6, .one (.int .i64)]⟩, ⟨16, fun vs _ => sParseAt vs, .tup [ag6, .one (.int .i64)]⟩, ⟨8, sLive, .of (.one .bool)⟩]
end Go.Proofs.YtddalcnajejibaaDoor
