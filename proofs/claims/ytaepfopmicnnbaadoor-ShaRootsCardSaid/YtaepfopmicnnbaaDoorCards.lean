/-
  DERIVED. GIVEN WITH THE SEED: THE CARDS: each row of YtaepfopmicnnbaaDoorRows.lean that lists a variable, with what it lists TIED to the program's text (the seventh form; the later family's looks); each row that meets fmt, with fmt's text TOLD by the authors' own Lean function (tested against real Go, not proved from fmt's source: count such statements apart). THE CARD IS WHAT COUNTS. Prove the row's statement (the work); the ties are given (YtaepfopmicnnbaaDoorTie.lean); close each card by the builder's one call (the guide's Derived/Test/ToyasCard.lean, 'card_holds'). Laid BY PROGRAM, IN A SANDBOX (cutbox-door.mjs). By AI agents, Wed Nov 11 2026. No macro, syntax, notation, axiom, sorry.
-/
import Derived.Test.YtaepfopmicnnbaaDoorRows
import GoSem.ClaimSeven
namespace Go.Proofs.YtaepfopmicnnbaaDoor
namespace Rows

/-- THE TIED CARD OF 'isthmuslaw05.ShaOfs'. -/
def shaOfsCard : Claim7 := { stood := { row := shaOfsRow, standIns := [], harness := (true, "8c798833173f447679ade0fccaca0a6a07cc107e9bb4ed6444605c8f8ebfe428"), looks := false }, kinds := [], alts := [], laidByText := true, laidKinds := [.data], laidTests := true, laidLooks := .later }
def ShaOfsCardSaid : Prop := Claim7.holds Tryd.pinned (.plain (OpenSpec.ofChange shaOfsSpec)) shaOfsCard

/-- THE TIED CARD OF 'isthmuslaw05.ShaRoots'. -/
def shaRootsCard : Claim7 := { stood := { row := shaRootsRow, standIns := [], harness := (true, "8c798833173f447679ade0fccaca0a6a07cc107e9bb4ed6444605c8f8ebfe428"), looks := false }, kinds := [], alts := [], laidByText := true, laidKinds := [.data], laidTests := true, laidLooks := .later }
def ShaRootsCardSaid : Prop := Claim7.holds Tryd.pinned (.plain (OpenSpec.ofChange shaRootsSpec)) shaRootsCard

/-- THE TIED CARD OF 'isthmuslaw05.ShaPieces'. -/
def shaPiecesCard : Claim7 := { stood := { row := shaPiecesRow, standIns := [], harness := (true, "8c798833173f447679ade0fccaca0a6a07cc107e9bb4ed6444605c8f8ebfe428"), looks := false }, kinds := [], alts := [], laidByText := true, laidKinds := [.data], laidTests := true, laidLooks := .later }
def ShaPiecesCardSaid : Prop := Claim7.holds Tryd.pinned (.plain (OpenSpec.ofChange shaPiecesSpec)) shaPiecesCard

/-- THE TIED CARD OF 'isthmuslaw05.ShaNil'. -/
def shaNilCard : Claim7 := { stood := { row := shaNilRow, standIns := [], harness := (true, "8c798833173f447679ade0fccaca0a6a07cc107e9bb4ed6444605c8f8ebfe428"), looks := false }, kinds := [], alts := [], laidByText := true, laidKinds := [.data], laidTests := true, laidLooks := .later }
def ShaNilCardSaid : Prop := Claim7.holds Tryd.pinned (.plain (OpenSpec.ofChange shaNilSpec)) shaNilCard

/-- THE SECOND FORM's CARD OF 'isthmuslaw05.ShaOfs'. -/
def shaOfsUptoCard : Claim7 := { stood := { row := shaOfsUptoRow, standIns := [], harness := (true, "8c798833173f447679ade0fccaca0a6a07cc107e9bb4ed6444605c8f8ebfe428"), looks := false }, kinds := [], alts := [], laidByText := true, laidKinds := [.data], laidTests := true, laidLooks := .later }
def ShaOfsUptoCardSaid : Prop := Claim7.holds Tryd.pinned (.plain (OpenSpec.upto shaOfsSpec)) shaOfsUptoCard

/-- THE SECOND FORM's CARD OF 'isthmuslaw05.ShaRoots'. -/
def shaRootsUptoCard : Claim7 := { stood := { row := shaRootsUptoRow, standIns := [], harness := (true, "8c798833173f447679ade0fccaca0a6a07cc107e9bb4ed6444605c8f8ebfe428"), looks := false }, kinds := [], alts := [], laidByText := true, laidKinds := [.data], laidTests := true, laidLooks := .later }
def ShaRootsUptoCardSaid : Prop := Claim7.holds Tryd.pinned (.plain (OpenSpec.upto shaRootsSpec)) shaRootsUptoCard

/-- THE SECOND FORM's CARD OF 'isthmuslaw05.ShaPieces'. -/
def shaPiecesUptoCard : Claim7 := { stood := { row := shaPiecesUptoRow, standIns := [], harness := (true, "8c798833173f447679ade0fccaca0a6a07cc107e9bb4ed6444605c8f8ebfe428"), looks := false }, kinds := [], alts := [], laidByText := true, laidKinds := [.data], laidTests := true, laidLooks := .later }
def ShaPiecesUptoCardSaid : Prop := Claim7.holds Tryd.pinned (.plain (OpenSpec.upto shaPiecesSpec)) shaPiecesUptoCard

/-- THE SECOND FORM's CARD OF 'isthmuslaw05.ShaNil'. -/
def shaNilUptoCard : Claim7 := { stood := { row := shaNilUptoRow, standIns := [], harness := (true, "8c798833173f447679ade0fccaca0a6a07cc107e9bb4ed6444605c8f8ebfe428"), looks := false }, kinds := [], alts := [], laidByText := true, laidKinds := [.data], laidTests := true, laidLooks := .later }
def ShaNilUptoCardSaid : Prop := Claim7.holds Tryd.pinned (.plain (OpenSpec.upto shaNilSpec)) shaNilUptoCard
end Rows
end Go.Proofs.YtaepfopmicnnbaaDoor
