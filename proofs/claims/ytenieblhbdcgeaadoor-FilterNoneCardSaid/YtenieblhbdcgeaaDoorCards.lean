/-
  DERIVED. GIVEN WITH THE SEED: THE CARDS: each row of YtenieblhbdcgeaaDoorRows.lean that lists a variable, with what it lists TIED to the program's text (the seventh form; the later family's looks); each row that meets fmt, with fmt's text TOLD by the authors' own Lean function (tested against real Go, not proved from fmt's source: count such statements apart). THE CARD IS WHAT COUNTS. Prove the row's statement (the work); the ties are given (YtenieblhbdcgeaaDoorTie.lean); close each card by the builder's one call (the guide's Derived/Test/ToyasCard.lean, 'card_holds'). Laid BY PROGRAM, IN A SANDBOX (cutbox-door.mjs). By AI agents, Wed Nov 11 2026. No macro, syntax, notation, axiom, sorry.
-/
import Derived.Test.YtenieblhbdcgeaaDoorRows
import GoSem.ClaimSeven
namespace Go.Proofs.YtenieblhbdcgeaaDoor
namespace Rows

/-- THE TIED CARD OF 'isthmuslaw21.FilterAnswers'. -/
def filterAnswersCard : Claim7 := { stood := { row := filterAnswersRow, standIns := [], harness := (true, "5d5cedaf31b7f15e8968fc45f0b491451d2b2b52680e81a259575416036c6cf7"), looks := false }, kinds := [], alts := [], laidByText := true, laidKinds := [.data, .data, .data], laidTests := true, laidLooks := .later }
def FilterAnswersCardSaid : Prop := Claim7.holds Tryd.pinned (.plain (OpenSpec.ofChange filterAnswersSpec)) filterAnswersCard

/-- THE TIED CARD OF 'isthmuslaw21.FilterApart'. -/
def filterApartCard : Claim7 := { stood := { row := filterApartRow, standIns := [], harness := (true, "5d5cedaf31b7f15e8968fc45f0b491451d2b2b52680e81a259575416036c6cf7"), looks := false }, kinds := [], alts := [], laidByText := true, laidKinds := [.data, .data, .data], laidTests := true, laidLooks := .later }
def FilterApartCardSaid : Prop := Claim7.holds Tryd.pinned (.plain (OpenSpec.ofChange filterApartSpec)) filterApartCard

/-- THE TIED CARD OF 'isthmuslaw21.FilterPlays'. -/
def filterPlaysCard : Claim7 := { stood := { row := filterPlaysRow, standIns := [], harness := (true, "5d5cedaf31b7f15e8968fc45f0b491451d2b2b52680e81a259575416036c6cf7"), looks := false }, kinds := [], alts := [], laidByText := true, laidKinds := [.data, .data, .data], laidTests := true, laidLooks := .later }
def FilterPlaysCardSaid : Prop := Claim7.holds Tryd.pinned (.plain (OpenSpec.ofChange filterPlaysSpec)) filterPlaysCard

/-- THE TIED CARD OF 'isthmuslaw21.FilterNone'. -/
def filterNoneCard : Claim7 := { stood := { row := filterNoneRow, standIns := [], harness := (true, "5d5cedaf31b7f15e8968fc45f0b491451d2b2b52680e81a259575416036c6cf7"), looks := false }, kinds := [], alts := [], laidByText := true, laidKinds := [.data, .data, .data], laidTests := true, laidLooks := .later }
def FilterNoneCardSaid : Prop := Claim7.holds Tryd.pinned (.plain (OpenSpec.ofChange filterNoneSpec)) filterNoneCard

/-- THE SECOND FORM's CARD OF 'isthmuslaw21.FilterAnswers'. -/
def filterAnswersUptoCard : Claim7 := { stood := { row := filterAnswersUptoRow, standIns := [], harness := (true, "5d5cedaf31b7f15e8968fc45f0b491451d2b2b52680e81a259575416036c6cf7"), looks := false }, kinds := [], alts := [], laidByText := true, laidKinds := [.data, .data, .data], laidTests := true, laidLooks := .later }
def FilterAnswersUptoCardSaid : Prop := Claim7.holds Tryd.pinned (.plain (OpenSpec.upto filterAnswersSpec)) filterAnswersUptoCard

/-- THE SECOND FORM's CARD OF 'isthmuslaw21.FilterApart'. -/
def filterApartUptoCard : Claim7 := { stood := { row := filterApartUptoRow, standIns := [], harness := (true, "5d5cedaf31b7f15e8968fc45f0b491451d2b2b52680e81a259575416036c6cf7"), looks := false }, kinds := [], alts := [], laidByText := true, laidKinds := [.data, .data, .data], laidTests := true, laidLooks := .later }
def FilterApartUptoCardSaid : Prop := Claim7.holds Tryd.pinned (.plain (OpenSpec.upto filterApartSpec)) filterApartUptoCard

/-- THE SECOND FORM's CARD OF 'isthmuslaw21.FilterPlays'. -/
def filterPlaysUptoCard : Claim7 := { stood := { row := filterPlaysUptoRow, standIns := [], harness := (true, "5d5cedaf31b7f15e8968fc45f0b491451d2b2b52680e81a259575416036c6cf7"), looks := false }, kinds := [], alts := [], laidByText := true, laidKinds := [.data, .data, .data], laidTests := true, laidLooks := .later }
def FilterPlaysUptoCardSaid : Prop := Claim7.holds Tryd.pinned (.plain (OpenSpec.upto filterPlaysSpec)) filterPlaysUptoCard

/-- THE SECOND FORM's CARD OF 'isthmuslaw21.FilterNone'. -/
def filterNoneUptoCard : Claim7 := { stood := { row := filterNoneUptoRow, standIns := [], harness := (true, "5d5cedaf31b7f15e8968fc45f0b491451d2b2b52680e81a259575416036c6cf7"), looks := false }, kinds := [], alts := [], laidByText := true, laidKinds := [.data, .data, .data], laidTests := true, laidLooks := .later }
def FilterNoneUptoCardSaid : Prop := Claim7.holds Tryd.pinned (.plain (OpenSpec.upto filterNoneSpec)) filterNoneUptoCard
end Rows
end Go.Proofs.YtenieblhbdcgeaaDoor
