/-
  NARROWER THAN 'FOR EVERY INPUT', by the rows' own cells (each row's printed sentence says how): DectextTexts: laid · DectextParses: laid · DectextPrefix: laid · DectextBack: laid · DectextApart: laid.
  DERIVED. THE GIVEN ROWS OF THIS SEAT. 5 by the template 'for every input the law returns true; each argument reads behind the call as it read before'; 0 by the template 'total and deterministic' (their statements: YtddalcnajejibaaDoorTotals.lean).
  GIVEN WITH THE SEED: the statements are not yours to turn. If you find one false, say at which input.
  Laid BY PROGRAM, IN A SANDBOX (cutbox-rows.mjs): the forced cells as the released guide's own fill.sh prints them over the translation c765193f7768b7b3… (all of the seat's roots in one cut). By AI agents, Wed Nov 11 2026. No macro, syntax, notation, axiom, sorry.
-/
import Derived.Test.YtddalcnajejibaaDoorChecked
import GoSem.PinnedTables
import GoSem.Claim
import GoSem.ClaimJoined
import GoSem.ClaimMapViews
import Derived.JoinedTies
import Derived.KernelRfl
namespace Go.Proofs.YtddalcnajejibaaDoor
/- THE CELL 'sum', in the pinned program and in every row, IS THE sha256 OF THE DUMP (.gsa) THAT YtddalcnajejibaaDoorProg.lean LOADS. Nothing in Lean hashes anything: it is a label: what it is worth is what the hold of that sum in a sandbox is worth. -/
noncomputable def Tryd.pinned : Pinned := { name := "ytddalcnajejibaadoor", sum := "c765193f7768b7b36fc7f1899c9f27a656a6edbb13d81f82508c22261be5e30a", checked := Tryd.checked }
namespace Rows
def none {H : Type} : Left H := { results := [], args := [] }

/- WHAT THE LISTED PACKAGE-LEVEL VARIABLES READ AS WHEN THE CALL BEGINS. Each datum BY PROGRAM (the guide's laid-datum.mjs) off the statement by which the dump's own 'gosem.cut.vars' lays the variable. In a bare row this is a premise. The card (YtddalcnajejibaaDoorCards.lean) ties it to the program's text. -/
def laid_unicode_utf8_acceptRanges {H : Type} : DataW H := .agg [.agg [.lit (.int .u8 128), .lit (.int .u8 191)], .agg [.lit (.int .u8 160), .lit (.int .u8 191)], .agg [.lit (.int .u8 128), .lit (.int .u8 159)], .agg [.lit (.int .u8 144), .lit (.int .u8 191)], .agg [.lit (.int .u8 128), .lit (.int .u8 143)], .agg [.lit (.int .u8 0), .lit (.int .u8 0)], .agg [.lit (.int .u8 0), .lit (.int .u8 0)], .agg [.lit (.int .u8 0), .lit (.int .u8 0)], .agg [.lit (.int .u8 0), .lit (.int .u8 0)], .agg [.lit (.int .u8 0), .lit (.int .u8 0)], .agg [.lit (.int .u8 0), .lit (.int .u8 0)], .agg [.lit (.int .u8 0), .lit (.int .u8 0)], .agg [.lit (.int .u8 0), .lit (.int .u8 0)], .agg [.lit (.int .u8 0), .lit (.int .u8 0)], .agg [.lit (.int .u8 0), .lit (.int .u8 0)], .agg [.lit (.int .u8 0), .lit (.int .u8 0)]]
/-- One of Go's own tables, pinned by name: the form's constant. -/
def laid_unicode_utf8_first : DataW Unit := Go.Pinned.utf8First

/-- 'exciselaw03.DectextTexts': WHATEVER THE INPUT: true; the input reads as it did. -/
def dectextTextsSpec : ChangeSpec := { name := "dectextTexts", fn := fun _ => fun
  | [d] => { results := [.lit (.bool true)], args := [d] }
  | _ => none }
def dectextTextsRow : OpenClaim := { program := "ytddalcnajejibaadoor", sum := "c765193f7768b7b36fc7f1899c9f27a656a6edbb13d81f82508c22261be5e30a", func := "excise/exciselaw03.DectextTexts", spec := "dectextTexts", inPlace := ["internal/bytealg.IndexByteString", "internal/bytealg.IndexString", "internal/abi.NoEscape", "internal/bytealg.MakeNoZero"], named := ["internal/bytealg.MaxLen", "unicode/utf8.first", "unicode/utf8.acceptRanges"], apart := false, laid := [("unicode/utf8.acceptRanges", laid_unicode_utf8_acceptRanges), ("unicode/utf8.first", laid_unicode_utf8_first)] }
def DectextTextsSaid : Prop := dectextTextsRow.holds Tryd.pinned (OpenSpec.ofChange dectextTextsSpec)

/-- ITS FALSE NEIGHBOUR: 'it returns false'. Refute it at one input. -/
def dectextTextsWrong : ChangeSpec := { name := "dectextTexts", fn := fun _ => fun
  | [d] => { results := [.lit (.bool false)], args := [d] }
  | _ => none }
def DectextTextsWrongFalsely : Prop := dectextTextsRow.holds Tryd.pinned (OpenSpec.ofChange dectextTextsWrong)

/-- 'exciselaw03.DectextParses': WHATEVER THE INPUT: true; the input reads as it did. -/
def dectextParsesSpec : ChangeSpec := { name := "dectextParses", fn := fun _ => fun
  | [d1, d2] => { results := [.lit (.bool true)], args := [d1, d2] }
  | _ => none }
def dectextParsesRow : OpenClaim := { program := "ytddalcnajejibaadoor", sum := "c765193f7768b7b36fc7f1899c9f27a656a6edbb13d81f82508c22261be5e30a", func := "excise/exciselaw03.DectextParses", spec := "dectextParses", inPlace := ["internal/bytealg.IndexByteString", "internal/bytealg.IndexString", "internal/abi.NoEscape", "internal/bytealg.MakeNoZero"], named := ["internal/bytealg.MaxLen", "unicode/utf8.first", "unicode/utf8.acceptRanges"], apart := false, laid := [("unicode/utf8.acceptRanges", laid_unicode_utf8_acceptRanges), ("unicode/utf8.first", laid_unicode_utf8_first)] }
def DectextParsesSaid : Prop := dectextParsesRow.holds Tryd.pinned (OpenSpec.ofChange dectextParsesSpec)

/-- ITS FALSE NEIGHBOUR: 'it returns false'. Refute it at one input. -/
def dectextParsesWrong : ChangeSpec := { name := "dectextParses", fn := fun _ => fun
  | [d1, d2] => { results := [.lit (.bool false)], args := [d1, d2] }
  | _ => none }
def DectextParsesWrongFalsely : Prop := dectextParsesRow.holds Tryd.pinned (OpenSpec.ofChange dectextParsesWrong)

/-- 'exciselaw03.DectextPrefix': WHATEVER THE INPUT: true; the input reads as it did. -/
def dectextPrefixSpec : ChangeSpec := { name := "dectextPrefix", fn := fun _ => fun
  | [d] => { results := [.lit (.bool true)], args := [d] }
  | _ => none }
def dectextPrefixRow : OpenClaim := { program := "ytddalcnajejibaadoor", sum := "c765193f7768b7b36fc7f1899c9f27a656a6edbb13d81f82508c22261be5e30a", func := "excise/exciselaw03.DectextPrefix", spec := "dectextPrefix", inPlace := ["internal/bytealg.IndexByteString", "internal/bytealg.IndexString", "internal/abi.NoEscape", "internal/bytealg.MakeNoZero"], named := ["internal/bytealg.MaxLen", "unicode/utf8.first", "unicode/utf8.acceptRanges"], apart := false, laid := [("unicode/utf8.acceptRanges", laid_unicode_utf8_acceptRanges), ("unicode/utf8.first", laid_unicode_utf8_first)] }
def DectextPrefixSaid : Prop := dectextPrefixRow.holds Tryd.pinned (OpenSpec.ofChange dectextPrefixSpec)

/-- ITS FALSE NEIGHBOUR: 'it returns false'. Refute it at one input. -/
def dectextPrefixWrong : ChangeSpec := { name := "dectextPrefix", fn := fun _ => fun
  | [d] => { results := [.lit (.bool false)], args := [d] }
  | _ => none }
def DectextPrefixWrongFalsely : Prop := dectextPrefixRow.holds Tryd.pinned (OpenSpec.ofChange dectextPrefixWrong)

/-- 'exciselaw03.DectextBack': WHATEVER THE INPUT: true; the input reads as it did. -/
def dectextBackSpec : ChangeSpec := { name := "dectextBack", fn := fun _ => fun
  | [d1, d2] => { results := [.lit (.bool true)], args := [d1, d2] }
  | _ => none }
def dectextBackRow : OpenClaim := { program := "ytddalcnajejibaadoor", sum := "c765193f7768b7b36fc7f1899c9f27a656a6edbb13d81f82508c22261be5e30a", func := "excise/exciselaw03.DectextBack", spec := "dectextBack", inPlace := ["internal/abi.NoEscape", "internal/bytealg.MakeNoZero", "internal/bytealg.IndexByteString", "internal/bytealg.IndexString"], named := ["internal/bytealg.MaxLen", "unicode/utf8.first", "unicode/utf8.acceptRanges"], apart := false, laid := [("unicode/utf8.acceptRanges", laid_unicode_utf8_acceptRanges), ("unicode/utf8.first", laid_unicode_utf8_first)] }
def DectextBackSaid : Prop := dectextBackRow.holds Tryd.pinned (OpenSpec.ofChange dectextBackSpec)

/-- ITS FALSE NEIGHBOUR: 'it returns false'. Refute it at one input. -/
def dectextBackWrong : ChangeSpec := { name := "dectextBack", fn := fun _ => fun
  | [d1, d2] => { results := [.lit (.bool false)], args := [d1, d2] }
  | _ => none }
def DectextBackWrongFalsely : Prop := dectextBackRow.holds Tryd.pinned (OpenSpec.ofChange dectextBackWrong)

/-- 'exciselaw03.DectextApart': WHATEVER THE INPUT: true; the input reads as it did. -/
def dectextApartSpec : ChangeSpec := { name := "dectextApart", fn := fun _ => fun
  | [d1, d2] => { results := [.lit (.bool true)], args := [d1, d2] }
  | _ => none }
def dectextApartRow : OpenClaim := { program := "ytddalcnajejibaadoor", sum := "c765193f7768b7b36fc7f1899c9f27a656a6edbb13d81f82508c22261be5e30a", func := "excise/exciselaw03.DectextApart", spec := "dectextApart", inPlace := ["internal/bytealg.IndexByteString", "internal/bytealg.IndexString", "internal/abi.NoEscape", "internal/bytealg.MakeNoZero"], named := ["internal/bytealg.MaxLen", "unicode/utf8.first", "unicode/utf8.acceptRanges"], apart := false, laid := [("unicode/utf8.acceptRanges", laid_unicode_utf8_acceptRanges), ("unicode/utf8.first", laid_unicode_utf8_first)] }
def DectextApartSaid : Prop := dectextApartRow.holds Tryd.pinned (OpenSpec.ofChange dectextApartSpec)

/-- ITS FALSE NEIGHBOUR: 'it returns false'. Refute it at one input. -/
def dectextApartWrong : ChangeSpec := { name := "dectextApart", fn := fun _ => fun
  | [d1, d2] => { results := [.lit (.bool false)], args := [d1, d2] }
  | _ => none }
def DectextApartWrongFalsely : Prop := dectextApartRow.holds Tryd.pinned (OpenSpec.ofChange dectextApartWrong)

/- THE SECOND FORM. 'bulk': how many values and letters a reading holds, each counted each time it is reached (what is shared counts as often as it is met; a slice's spare places count too). A statement '..UptoSaid' is the law's where the arguments, and the package variables that the reading takes, are together of bulk at most 1048576: NARROWER than '..Said'. Prove '..Said' where nothing that the law and all that it calls make is longer than what came in: it says more and counts as full. Else prove '..UptoSaid'. A law counts once. -/
mutual
def uptoBulk {H : Type} : DataW H → Nat
  | .lit (.string bytes) => bytes.length + 1
  | .lit _ => 1
  | .nil => 1
  | .ptr d => uptoBulk d + 1
  | .slice elems spare => uptoBulkAll elems + uptoBulkAll spare + 1
  | .agg parts => uptoBulkAll parts + 1
  | .iface _ d => uptoBulk d + 1
  | .map entries => uptoBulkEntries entries + 1
  | .held _ => 1
def uptoBulkAll {H : Type} : List (DataW H) → Nat
  | [] => 0
  | d :: r => uptoBulk d + uptoBulkAll r
def uptoBulkEntries {H : Type} : List (Lit × DataW H) → Nat
  | [] => 0
  | x :: r => uptoBulkEntry x + uptoBulkEntries r
def uptoBulkEntry {H : Type} : Lit × DataW H → Nat
  | (.string bytes, d) => bytes.length + uptoBulk d + 1
  | (_, d) => uptoBulk d + 1
 end
def uptoSmall : (H : Type) → List (DataW H) → Bool := fun _ ds => decide (uptoBulkAll ds ≤ 1048576)
def OpenSpec.upto (s : _root_.Go.ChangeSpec) : _root_.Go.OpenSpec := { _root_.Go.OpenSpec.ofChange s with cond := some uptoSmall }

/-- 'exciselaw03.DectextTexts', WHERE WHAT IT READS IS OF BULK AT MOST 1048576: true; the input reads as it did. -/
def dectextTextsUptoRow : OpenClaim := { program := "ytddalcnajejibaadoor", sum := "c765193f7768b7b36fc7f1899c9f27a656a6edbb13d81f82508c22261be5e30a", func := "excise/exciselaw03.DectextTexts", spec := "dectextTexts", inPlace := ["internal/bytealg.IndexByteString", "internal/bytealg.IndexString", "internal/abi.NoEscape", "internal/bytealg.MakeNoZero"], named := ["internal/bytealg.MaxLen", "unicode/utf8.first", "unicode/utf8.acceptRanges"], apart := false, laid := [("unicode/utf8.acceptRanges", laid_unicode_utf8_acceptRanges), ("unicode/utf8.first", laid_unicode_utf8_first)], narrowed := true }
def DectextTextsUptoSaid : Prop := dectextTextsUptoRow.holds Tryd.pinned (OpenSpec.upto dectextTextsSpec)

/-- 'exciselaw03.DectextParses', WHERE WHAT IT READS IS OF BULK AT MOST 1048576: true; the input reads as it did. -/
def dectextParsesUptoRow : OpenClaim := { program := "ytddalcnajejibaadoor", sum := "c765193f7768b7b36fc7f1899c9f27a656a6edbb13d81f82508c22261be5e30a", func := "excise/exciselaw03.DectextParses", spec := "dectextParses", inPlace := ["internal/bytealg.IndexByteString", "internal/bytealg.IndexString", "internal/abi.NoEscape", "internal/bytealg.MakeNoZero"], named := ["internal/bytealg.MaxLen", "unicode/utf8.first", "unicode/utf8.acceptRanges"], apart := false, laid := [("unicode/utf8.acceptRanges", laid_unicode_utf8_acceptRanges), ("unicode/utf8.first", laid_unicode_utf8_first)], narrowed := true }
def DectextParsesUptoSaid : Prop := dectextParsesUptoRow.holds Tryd.pinned (OpenSpec.upto dectextParsesSpec)

/-- 'exciselaw03.DectextPrefix', WHERE WHAT IT READS IS OF BULK AT MOST 1048576: true; the input reads as it did. -/
def dectextPrefixUptoRow : OpenClaim := { program := "ytddalcnajejibaadoor", sum := "c765193f7768b7b36fc7f1899c9f27a656a6edbb13d81f82508c22261be5e30a", func := "excise/exciselaw03.DectextPrefix", spec := "dectextPrefix", inPlace := ["internal/bytealg.IndexByteString", "internal/bytealg.IndexString", "internal/abi.NoEscape", "internal/bytealg.MakeNoZero"], named := ["internal/bytealg.MaxLen", "unicode/utf8.first", "unicode/utf8.acceptRanges"], apart := false, laid := [("unicode/utf8.acceptRanges", laid_unicode_utf8_acceptRanges), ("unicode/utf8.first", laid_unicode_utf8_first)], narrowed := true }
def DectextPrefixUptoSaid : Prop := dectextPrefixUptoRow.holds Tryd.pinned (OpenSpec.upto dectextPrefixSpec)

/-- 'exciselaw03.DectextBack', WHERE WHAT IT READS IS OF BULK AT MOST 1048576: true; the input reads as it did. -/
def dectextBackUptoRow : OpenClaim := { program := "ytddalcnajejibaadoor", sum := "c765193f7768b7b36fc7f1899c9f27a656a6edbb13d81f82508c22261be5e30a", func := "excise/exciselaw03.DectextBack", spec := "dectextBack", inPlace := ["internal/abi.NoEscape", "internal/bytealg.MakeNoZero", "internal/bytealg.IndexByteString", "internal/bytealg.IndexString"], named := ["internal/bytealg.MaxLen", "unicode/utf8.first", "unicode/utf8.acceptRanges"], apart := false, laid := [("unicode/utf8.acceptRanges", laid_unicode_utf8_acceptRanges), ("unicode/utf8.first", laid_unicode_utf8_first)], narrowed := true }
def DectextBackUptoSaid : Prop := dectextBackUptoRow.holds Tryd.pinned (OpenSpec.upto dectextBackSpec)

/-- 'exciselaw03.DectextApart', WHERE WHAT IT READS IS OF BULK AT MOST 1048576: true; the input reads as it did. -/
def dectextApartUptoRow : OpenClaim := { program := "ytddalcnajejibaadoor", sum := "c765193f7768b7b36fc7f1899c9f27a656a6edbb13d81f82508c22261be5e30a", func := "excise/exciselaw03.DectextApart", spec := "dectextApart", inPlace := ["internal/bytealg.IndexByteString", "internal/bytealg.IndexString", "internal/abi.NoEscape", "internal/bytealg.MakeNoZero"], named := ["internal/bytealg.MaxLen", "unicode/utf8.first", "unicode/utf8.acceptRanges"], apart := false, laid := [("unicode/utf8.acceptRanges", laid_unicode_utf8_acceptRanges), ("unicode/utf8.first", laid_unicode_utf8_first)], narrowed := true }
def DectextApartUptoSaid : Prop := dectextApartUptoRow.holds Tryd.pinned (OpenSpec.upto dectextApartSpec)

end Rows
end Go.Proofs.YtddalcnajejibaaDoor
