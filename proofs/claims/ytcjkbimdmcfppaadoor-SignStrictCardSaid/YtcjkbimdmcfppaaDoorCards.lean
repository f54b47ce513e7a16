/-
  DERIVED. GIVEN WITH THE SEED: THE CARDS: each row of YtcjkbimdmcfppaaDoorRows.lean that lists a variable, with what it lists TIED to the program's text (the seventh form; the later family's looks); each row that meets fmt, with fmt's text TOLD by the authors' own Lean function (tested against real Go, not proved from fmt's source: count such statements apart). THE CARD IS WHAT COUNTS. Prove the row's statement (the work); the ties are given (YtcjkbimdmcfppaaDoorTie.lean); close each card by the builder's one call (the guide's Derived/Test/ToyasCard.lean, 'card_holds'). Laid BY PROGRAM, IN A SANDBOX (cutbox-door.mjs). By AI agents, Wed Nov 11 2026. No macro, syntax, notation, axiom, sorry.
-/
import Derived.Test.YtcjkbimdmcfppaaDoorRows
import GoSem.ClaimSeven
namespace Go.Proofs.YtcjkbimdmcfppaaDoor
namespace Rows

/-- THE TIED CARD OF 'isthmuslaw11.SignStrict'. -/
def signStrictCard : Claim7 := { stood := { row := signStrictRow, standIns := [], harness := (true, "290405bd9fdd99ef01ba955b0040ed91f898a26ef843a1196c509f472bc90c8f"), looks := false }, kinds := [], alts := [], laidByText := true, laidKinds := [.data], laidTests := true, laidLooks := .later }
def SignStrictCardSaid : Prop := Claim7.holds Tryd.pinned (.plain (OpenSpec.ofChange signStrictSpec)) signStrictCard

/-- THE SECOND FORM's CARD OF 'isthmuslaw11.SignStrict'. -/
def signStrictUptoCard : Claim7 := { stood := { row := signStrictUptoRow, standIns := [], harness := (true, "290405bd9fdd99ef01ba955b0040ed91f898a26ef843a1196c509f472bc90c8f"), looks := false }, kinds := [], alts := [], laidByText := true, laidKinds := [.data], laidTests := true, laidLooks := .later }
def SignStrictUptoCardSaid : Prop := Claim7.holds Tryd.pinned (.plain (OpenSpec.upto signStrictSpec)) signStrictUptoCard
end Rows
end Go.Proofs.YtcjkbimdmcfppaaDoor
