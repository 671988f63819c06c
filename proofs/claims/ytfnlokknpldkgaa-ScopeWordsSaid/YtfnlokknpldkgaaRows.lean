/-
  NARROWER THAN 'FOR EVERY INPUT', by the rows' own cells (each row's printed sentence says how): ScopeChecks: loops · ScopeOne: loops · ScopeStays: loops · ScopeWords: loops.
  DERIVED. THE GIVEN ROWS OF THIS SEAT. 4 by the template 'for every input the law returns true; each argument reads behind the call as it read before'; 0 by the template 'total and deterministic' (their statements: YtfnlokknpldkgaaTotals.lean).
  GIVEN WITH THE SEED: the statements are not yours to turn. If you find one false, say at which input.
  Laid BY PROGRAM, IN A SANDBOX (cutbox-rows.mjs): the forced cells as the released guide's own fill.sh prints them over the translation 5eaa653365ba5014… (all of the seat's roots in one cut). By AI agents, Wed Nov 11 2026. No macro, syntax, notation, axiom, sorry.
-/
import Derived.Test.YtfnlokknpldkgaaChecked
import GoSem.Claim
import GoSem.ClaimJoined
import GoSem.ClaimMapViews
import Derived.JoinedTies
import Derived.KernelRfl
namespace Go.Proofs.Ytfnlokknpldkgaa
/- THE CELL 'sum', in the pinned program and in every row, IS THE sha256 OF THE DUMP (.gsa) THAT YtfnlokknpldkgaaProg.lean LOADS. Nothing in Lean hashes anything: it is a label: what it is worth is what the hold of that sum in a sandbox is worth. -/
noncomputable def Try.pinned : Pinned := { name := "ytfnlokknpldkgaa", sum := "5eaa653365ba50149ac316e7cf2e7d78cd55af802c516b6a5b707e248684eb3d", checked := Try.checked }
namespace Rows
def none {H : Type} : Left H := { results := [], args := [] }

/-- 'exciselaw09.ScopeChecks': WHATEVER THE INPUT: true; the input reads as it did. -/
def scopeChecksSpec : ChangeSpec := { name := "scopeChecks", fn := fun _ => fun
  | [d] => { results := [.lit (.bool true)], args := [d] }
  | _ => none }
def scopeChecksRow : OpenClaim := { program := "ytfnlokknpldkgaa", sum := "5eaa653365ba50149ac316e7cf2e7d78cd55af802c516b6a5b707e248684eb3d", func := "excise/exciselaw09.ScopeChecks", spec := "scopeChecks", unfollowed := true, recurses := true, loops := true, apart := false }
def ScopeChecksSaid : Prop := scopeChecksRow.holds Try.pinned (OpenSpec.ofChange scopeChecksSpec)

/-- ITS FALSE NEIGHBOUR: 'it returns false'. Refute it at one input. -/
def scopeChecksWrong : ChangeSpec := { name := "scopeChecks", fn := fun _ => fun
  | [d] => { results := [.lit (.bool false)], args := [d] }
  | _ => none }
def ScopeChecksWrongFalsely : Prop := scopeChecksRow.holds Try.pinned (OpenSpec.ofChange scopeChecksWrong)

/-- 'exciselaw09.ScopeOne': WHATEVER THE INPUT: true; the input reads as it did. -/
def scopeOneSpec : ChangeSpec := { name := "scopeOne", fn := fun _ => fun
  | [d] => { results := [.lit (.bool true)], args := [d] }
  | _ => none }
def scopeOneRow : OpenClaim := { program := "ytfnlokknpldkgaa", sum := "5eaa653365ba50149ac316e7cf2e7d78cd55af802c516b6a5b707e248684eb3d", func := "excise/exciselaw09.ScopeOne", spec := "scopeOne", unfollowed := true, recurses := true, loops := true, apart := false }
def ScopeOneSaid : Prop := scopeOneRow.holds Try.pinned (OpenSpec.ofChange scopeOneSpec)

/-- ITS FALSE NEIGHBOUR: 'it returns false'. Refute it at one input. -/
def scopeOneWrong : ChangeSpec := { name := "scopeOne", fn := fun _ => fun
  | [d] => { results := [.lit (.bool false)], args := [d] }
  | _ => none }
def ScopeOneWrongFalsely : Prop := scopeOneRow.holds Try.pinned (OpenSpec.ofChange scopeOneWrong)

/-- 'exciselaw09.ScopeStays': WHATEVER THE INPUT: true; the input reads as it did. -/
def scopeStaysSpec : ChangeSpec := { name := "scopeStays", fn := fun _ => fun
  | [d1, d2] => { results := [.lit (.bool true)], args := [d1, d2] }
  | _ => none }
def scopeStaysRow : OpenClaim := { program := "ytfnlokknpldkgaa", sum := "5eaa653365ba50149ac316e7cf2e7d78cd55af802c516b6a5b707e248684eb3d", func := "excise/exciselaw09.ScopeStays", spec := "scopeStays", unfollowed := true, recurses := true, loops := true, apart := false }
def ScopeStaysSaid : Prop := scopeStaysRow.holds Try.pinned (OpenSpec.ofChange scopeStaysSpec)

/-- ITS FALSE NEIGHBOUR: 'it returns false'. Refute it at one input. -/
def scopeStaysWrong : ChangeSpec := { name := "scopeStays", fn := fun _ => fun
  | [d1, d2] => { results := [.lit (.bool false)], args := [d1, d2] }
  | _ => none }
def ScopeStaysWrongFalsely : Prop := scopeStaysRow.holds Try.pinned (OpenSpec.ofChange scopeStaysWrong)

/-- 'exciselaw09.ScopeWords': WHATEVER THE INPUT: true; the input reads as it did. -/
def scopeWordsSpec : ChangeSpec := { name := "scopeWords", fn := fun _ => fun
  | [d1, d2] => { results := [.lit (.bool true)], args := [d1, d2] }
  | _ => none }
def scopeWordsRow : OpenClaim := { program := "ytfnlokknpldkgaa", sum := "5eaa653365ba50149ac316e7cf2e7d78cd55af802c516b6a5b707e248684eb3d", func := "excise/exciselaw09.ScopeWords", spec := "scopeWords", unfollowed := true, recurses := true, loops := true, apart := false }
def ScopeWordsSaid : Prop := scopeWordsRow.holds Try.pinned (OpenSpec.ofChange scopeWordsSpec)

/-- ITS FALSE NEIGHBOUR: 'it returns false'. Refute it at one input. -/
def scopeWordsWrong : ChangeSpec := { name := "scopeWords", fn := fun _ => fun
  | [d1, d2] => { results := [.lit (.bool false)], args := [d1, d2] }
  | _ => none }
def ScopeWordsWrongFalsely : Prop := scopeWordsRow.holds Try.pinned (OpenSpec.ofChange scopeWordsWrong)

/- THE SECOND FORM. 'bulk': how many values and letters a reading holds, each counted each time it is reached (what is shared counts as often as it is met; a slice's spare places count too). A statement '..UptoSaid' is the law's where the arguments, and the package variables that the reading takes, are together of bulk at most 1048576: NARROWER than '..Said'. Prove '..Said' where nothing that the law and all that it calls make is longer than what came in: it says more and counts as full. Else prove '..UptoSaid'. A law counts once. -/
mutual
def uptoBulk {H : Type} : DataW H → Nat
  | .lit (.string bytes) => bytes.length + 1
  | .lit _ => 1
  | .nil => 1
  | .ptr d => uptoBulk d + 1
  | .slice elems spare => uptoBulkAll elems + uptoBulkAll spare + 1
  | .agg parts => uptoBulkAll parts + 1
  | .iface _ d => uptoBulk d + 1
  | .map entries => uptoBulkEntries entries + 1
  | .held _ => 1
def uptoBulkAll {H : Type} : List (DataW H) → Nat
  | [] => 0
  | d :: r => uptoBulk d + uptoBulkAll r
def uptoBulkEntries {H : Type} : List (Lit × DataW H) → Nat
  | [] => 0
  | x :: r => uptoBulkEntry x + uptoBulkEntries r
def uptoBulkEntry {H : Type} : Lit × DataW H → Nat
  | (.string bytes, d) => bytes.length + uptoBulk d + 1
  | (_, d) => uptoBulk d + 1
 end
def uptoSmall : (H : Type) → List (DataW H) → Bool := fun _ ds => decide (uptoBulkAll ds ≤ 1048576)
def OpenSpec.upto (s : _root_.Go.ChangeSpec) : _root_.Go.OpenSpec := { _root_.Go.OpenSpec.ofChange s with cond := some uptoSmall }

/-- 'exciselaw09.ScopeChecks', WHERE WHAT IT READS IS OF BULK AT MOST 1048576: true; the input reads as it did. -/
def scopeChecksUptoRow : OpenClaim := { program := "ytfnlokknpldkgaa", sum := "5eaa653365ba50149ac316e7cf2e7d78cd55af802c516b6a5b707e248684eb3d", func := "excise/exciselaw09.ScopeChecks", spec := "scopeChecks", unfollowed := true, recurses := true, loops := true, apart := false, narrowed := true }
def ScopeChecksUptoSaid : Prop := scopeChecksUptoRow.holds Try.pinned (OpenSpec.upto scopeChecksSpec)

/-- 'exciselaw09.ScopeOne', WHERE WHAT IT READS IS OF BULK AT MOST 1048576: true; the input reads as it did. -/
def scopeOneUptoRow : OpenClaim := { program := "ytfnlokknpldkgaa", sum := "5eaa653365ba50149ac316e7cf2e7d78cd55af802c516b6a5b707e248684eb3d", func := "excise/exciselaw09.ScopeOne", spec := "scopeOne", unfollowed := true, recurses := true, loops := true, apart := false, narrowed := true }
def ScopeOneUptoSaid : Prop := scopeOneUptoRow.holds Try.pinned (OpenSpec.upto scopeOneSpec)

/-- 'exciselaw09.ScopeStays', WHERE WHAT IT READS IS OF BULK AT MOST 1048576: true; the input reads as it did. -/
def scopeStaysUptoRow : OpenClaim := { program := "ytfnlokknpldkgaa", sum := "5eaa653365ba50149ac316e7cf2e7d78cd55af802c516b6a5b707e248684eb3d", func := "excise/exciselaw09.ScopeStays", spec := "scopeStays", unfollowed := true, recurses := true, loops := true, apart := false, narrowed := true }
def ScopeStaysUptoSaid : Prop := scopeStaysUptoRow.holds Try.pinned (OpenSpec.upto scopeStaysSpec)

/-- 'exciselaw09.ScopeWords', WHERE WHAT IT READS IS OF BULK AT MOST 1048576: true; the input reads as it did. -/
def scopeWordsUptoRow : OpenClaim := { program := "ytfnlokknpldkgaa", sum := "5eaa653365ba50149ac316e7cf2e7d78cd55af802c516b6a5b707e248684eb3d", func := "excise/exciselaw09.ScopeWords", spec := "scopeWords", unfollowed := true, recurses := true, loops := true, apart := false, narrowed := true }
def ScopeWordsUptoSaid : Prop := scopeWordsUptoRow.holds Try.pinned (OpenSpec.upto scopeWordsSpec)

end Rows
end Go.Proofs.Ytfnlokknpldkgaa
