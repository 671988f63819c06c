/-
  DERIVED. GIVEN WITH THE SEED: THE CARDS: each row of YtddalcnajejibaaDoorRows.lean that lists a variable, with what it lists TIED to the program's text (the seventh form; the later family's looks); each row that meets fmt, with fmt's text TOLD by the authors' own Lean function (tested against real Go, not proved from fmt's source: count such statements apart). THE CARD IS WHAT COUNTS. Prove the row's statement (the work); the ties are given (YtddalcnajejibaaDoorTie.lean); close each card by the builder's one call (the guide's Derived/Test/ToyasCard.lean, 'card_holds'). Laid BY PROGRAM, IN A SANDBOX (cutbox-door.mjs). By AI agents, Wed Nov 11 2026. No macro, syntax, notation, axiom, sorry.
-/
import Derived.Test.YtddalcnajejibaaDoorRows
import GoSem.ClaimSeven
namespace Go.Proofs.YtddalcnajejibaaDoor
namespace Rows

/-- THE TIED CARD OF 'exciselaw03.DectextTexts'. -/
def dectextTextsCard : Claim7 := { stood := { row := dectextTextsRow, standIns := [], harness := (true, "ad9bf9484b846ad32c643a4ddb69c760fddb7cd4ef7f69a1332e2087753a176c"), looks := false }, kinds := [], alts := [], laidByText := true, laidKinds := [.data, .pinned], laidTests := true, laidLooks := .later }
def DectextTextsCardSaid : Prop := Claim7.holds Tryd.pinned (.plain (OpenSpec.ofChange dectextTextsSpec)) dectextTextsCard

/-- THE TIED CARD OF 'exciselaw03.DectextParses'. -/
def dectextParsesCard : Claim7 := { stood := { row := dectextParsesRow, standIns := [], harness := (true, "ad9bf9484b846ad32c643a4ddb69c760fddb7cd4ef7f69a1332e2087753a176c"), looks := false }, kinds := [], alts := [], laidByText := true, laidKinds := [.data, .pinned], laidTests := true, laidLooks := .later }
def DectextParsesCardSaid : Prop := Claim7.holds Tryd.pinned (.plain (OpenSpec.ofChange dectextParsesSpec)) dectextParsesCard

/-- THE TIED CARD OF 'exciselaw03.DectextPrefix'. -/
def dectextPrefixCard : Claim7 := { stood := { row := dectextPrefixRow, standIns := [], harness := (true, "ad9bf9484b846ad32c643a4ddb69c760fddb7cd4ef7f69a1332e2087753a176c"), looks := false }, kinds := [], alts := [], laidByText := true, laidKinds := [.data, .pinned], laidTests := true, laidLooks := .later }
def DectextPrefixCardSaid : Prop := Claim7.holds Tryd.pinned (.plain (OpenSpec.ofChange dectextPrefixSpec)) dectextPrefixCard

/-- THE TIED CARD OF 'exciselaw03.DectextBack'. -/
def dectextBackCard : Claim7 := { stood := { row := dectextBackRow, standIns := [], harness := (true, "ad9bf9484b846ad32c643a4ddb69c760fddb7cd4ef7f69a1332e2087753a176c"), looks := false }, kinds := [], alts := [], laidByText := true, laidKinds := [.data, .pinned], laidTests := true, laidLooks := .later }
def DectextBackCardSaid : Prop := Claim7.holds Tryd.pinned (.plain (OpenSpec.ofChange dectextBackSpec)) dectextBackCard

/-- THE TIED CARD OF 'exciselaw03.DectextApart'. -/
def dectextApartCard : Claim7 := { stood := { row := dectextApartRow, standIns := [], harness := (true, "ad9bf9484b846ad32c643a4ddb69c760fddb7cd4ef7f69a1332e2087753a176c"), looks := false }, kinds := [], alts := [], laidByText := true, laidKinds := [.data, .pinned], laidTests := true, laidLooks := .later }
def DectextApartCardSaid : Prop := Claim7.holds Tryd.pinned (.plain (OpenSpec.ofChange dectextApartSpec)) dectextApartCard

/-- THE SECOND FORM's CARD OF 'exciselaw03.DectextTexts'. -/
def dectextTextsUptoCard : Claim7 := { stood := { row := dectextTextsUptoRow, standIns := [], harness := (true, "ad9bf9484b846ad32c643a4ddb69c760fddb7cd4ef7f69a1332e2087753a176c"), looks := false }, kinds := [], alts := [], laidByText := true, laidKinds := [.data, .pinned], laidTests := true, laidLooks := .later }
def DectextTextsUptoCardSaid : Prop := Claim7.holds Tryd.pinned (.plain (OpenSpec.upto dectextTextsSpec)) dectextTextsUptoCard

/-- THE SECOND FORM's CARD OF 'exciselaw03.DectextParses'. -/
def dectextParsesUptoCard : Claim7 := { stood := { row := dectextParsesUptoRow, standIns := [], harness := (true, "ad9bf9484b846ad32c643a4ddb69c760fddb7cd4ef7f69a1332e2087753a176c"), looks := false }, kinds := [], alts := [], laidByText := true, laidKinds := [.data, .pinned], laidTests := true, laidLooks := .later }
def DectextParsesUptoCardSaid : Prop := Claim7.holds Tryd.pinned (.plain (OpenSpec.upto dectextParsesSpec)) dectextParsesUptoCard

/-- THE SECOND FORM's CARD OF 'exciselaw03.DectextPrefix'. -/
def dectextPrefixUptoCard : Claim7 := { stood := { row := dectextPrefixUptoRow, standIns := [], harness := (true, "ad9bf9484b846ad32c643a4ddb69c760fddb7cd4ef7f69a1332e2087753a176c"), looks := false }, kinds := [], alts := [], laidByText := true, laidKinds := [.data, .pinned], laidTests := true, laidLooks := .later }
def DectextPrefixUptoCardSaid : Prop := Claim7.holds Tryd.pinned (.plain (OpenSpec.upto dectextPrefixSpec)) dectextPrefixUptoCard

/-- THE SECOND FORM's CARD OF 'exciselaw03.DectextBack'. -/
def dectextBackUptoCard : Claim7 := { stood := { row := dectextBackUptoRow, standIns := [], harness := (true, "ad9bf9484b846ad32c643a4ddb69c760fddb7cd4ef7f69a1332e2087753a176c"), looks := false }, kinds := [], alts := [], laidByText := true, laidKinds := [.data, .pinned], laidTests := true, laidLooks := .later }
def DectextBackUptoCardSaid : Prop := Claim7.holds Tryd.pinned (.plain (OpenSpec.upto dectextBackSpec)) dectextBackUptoCard

/-- THE SECOND FORM's CARD OF 'exciselaw03.DectextApart'. -/
def dectextApartUptoCard : Claim7 := { stood := { row := dectextApartUptoRow, standIns := [], harness := (true, "ad9bf9484b846ad32c643a4ddb69c760fddb7cd4ef7f69a1332e2087753a176c"), looks := false }, kinds := [], alts := [], laidByText := true, laidKinds := [.data, .pinned], laidTests := true, laidLooks := .later }
def DectextApartUptoCardSaid : Prop := Claim7.holds Tryd.pinned (.plain (OpenSpec.upto dectextApartSpec)) dectextApartUptoCard
end Rows
end Go.Proofs.YtddalcnajejibaaDoor
