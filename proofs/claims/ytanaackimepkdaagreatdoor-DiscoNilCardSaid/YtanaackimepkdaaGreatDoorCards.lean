/-
  DERIVED. GIVEN WITH THE SEED: THE CARDS: each row of YtanaackimepkdaaGreatDoorRows.lean that lists a variable, with what it lists TIED to the program's text (the seventh form; the later family's looks); each row that meets fmt, with fmt's text TOLD by the authors' own Lean function (tested against real Go, not proved from fmt's source: count such statements apart). THE CARD IS WHAT COUNTS. Prove the row's statement (the work); the ties are given (YtanaackimepkdaaGreatDoorTie.lean); close each card by the builder's one call (the guide's Derived/Test/ToyasCard.lean, 'card_holds'). Laid BY PROGRAM, IN A SANDBOX (cutbox-door.mjs). By AI agents, Wed Nov 11 2026. No macro, syntax, notation, axiom, sorry.
-/
import Derived.Test.YtanaackimepkdaaGreatDoorRows
import GoSem.ClaimSeven
namespace Go.Proofs.YtanaackimepkdaaGreatDoor
namespace Rows

/-- THE TIED CARD OF 'isthmuslaw26.DiscoOpens'. -/
def discoOpensCard : Claim7 := { stood := { row := discoOpensRow, standIns := [], harness := (true, "81b97fb8a79c1c4fb819f90ef32f7fd2bfe7303c87891029b7bac0a68b3048a3"), looks := false }, kinds := [], alts := [], laidByText := true, laidKinds := [.data, .data, .data, .data], laidTests := true, laidLooks := .later }
def DiscoOpensCardSaid : Prop := Claim7.holds Tryz.pinned (.plain (OpenSpec.ofChange discoOpensSpec)) discoOpensCard

/-- THE TIED CARD OF 'isthmuslaw26.DiscoSeals'. -/
def discoSealsCard : Claim7 := { stood := { row := discoSealsRow, standIns := [], harness := (true, "81b97fb8a79c1c4fb819f90ef32f7fd2bfe7303c87891029b7bac0a68b3048a3"), looks := false }, kinds := [], alts := [], laidByText := true, laidKinds := [.data, .data, .data, .data], laidTests := true, laidLooks := .later }
def DiscoSealsCardSaid : Prop := Claim7.holds Tryz.pinned (.plain (OpenSpec.ofChange discoSealsSpec)) discoSealsCard

/-- THE TIED CARD OF 'isthmuslaw26.DiscoBoth'. -/
def discoBothCard : Claim7 := { stood := { row := discoBothRow, standIns := [], harness := (true, "81b97fb8a79c1c4fb819f90ef32f7fd2bfe7303c87891029b7bac0a68b3048a3"), looks := false }, kinds := [], alts := [], laidByText := true, laidKinds := [.data, .data, .data, .data], laidTests := true, laidLooks := .later }
def DiscoBothCardSaid : Prop := Claim7.holds Tryz.pinned (.plain (OpenSpec.ofChange discoBothSpec)) discoBothCard

/-- THE TIED CARD OF 'isthmuslaw26.DiscoFinds'. -/
def discoFindsCard : Claim7 := { stood := { row := discoFindsRow, standIns := [], harness := (true, "81b97fb8a79c1c4fb819f90ef32f7fd2bfe7303c87891029b7bac0a68b3048a3"), looks := false }, kinds := [], alts := [], laidByText := true, laidKinds := [.data, .data, .data, .data], laidTests := true, laidLooks := .later }
def DiscoFindsCardSaid : Prop := Claim7.holds Tryz.pinned (.plain (OpenSpec.ofChange discoFindsSpec)) discoFindsCard

/-- THE TIED CARD OF 'isthmuslaw26.DiscoNil'. -/
def discoNilCard : Claim7 := { stood := { row := discoNilRow, standIns := [], harness := (true, "81b97fb8a79c1c4fb819f90ef32f7fd2bfe7303c87891029b7bac0a68b3048a3"), looks := false }, kinds := [], alts := [], laidByText := true, laidKinds := [.data, .data, .data, .data], laidTests := true, laidLooks := .later }
def DiscoNilCardSaid : Prop := Claim7.holds Tryz.pinned (.plain (OpenSpec.ofChange discoNilSpec)) discoNilCard

/-- THE SECOND FORM's CARD OF 'isthmuslaw26.DiscoOpens'. -/
def discoOpensUptoCard : Claim7 := { stood := { row := discoOpensUptoRow, standIns := [], harness := (true, "81b97fb8a79c1c4fb819f90ef32f7fd2bfe7303c87891029b7bac0a68b3048a3"), looks := false }, kinds := [], alts := [], laidByText := true, laidKinds := [.data, .data, .data, .data], laidTests := true, laidLooks := .later }
def DiscoOpensUptoCardSaid : Prop := Claim7.holds Tryz.pinned (.plain (OpenSpec.upto discoOpensSpec)) discoOpensUptoCard

/-- THE SECOND FORM's CARD OF 'isthmuslaw26.DiscoSeals'. -/
def discoSealsUptoCard : Claim7 := { stood := { row := discoSealsUptoRow, standIns := [], harness := (true, "81b97fb8a79c1c4fb819f90ef32f7fd2bfe7303c87891029b7bac0a68b3048a3"), looks := false }, kinds := [], alts := [], laidByText := true, laidKinds := [.data, .data, .data, .data], laidTests := true, laidLooks := .later }
def DiscoSealsUptoCardSaid : Prop := Claim7.holds Tryz.pinned (.plain (OpenSpec.upto discoSealsSpec)) discoSealsUptoCard

/-- THE SECOND FORM's CARD OF 'isthmuslaw26.DiscoBoth'. -/
def discoBothUptoCard : Claim7 := { stood := { row := discoBothUptoRow, standIns := [], harness := (true, "81b97fb8a79c1c4fb819f90ef32f7fd2bfe7303c87891029b7bac0a68b3048a3"), looks := false }, kinds := [], alts := [], laidByText := true, laidKinds := [.data, .data, .data, .data], laidTests := true, laidLooks := .later }
def DiscoBothUptoCardSaid : Prop := Claim7.holds Tryz.pinned (.plain (OpenSpec.upto discoBothSpec)) discoBothUptoCard

/-- THE SECOND FORM's CARD OF 'isthmuslaw26.DiscoFinds'. -/
def discoFindsUptoCard : Claim7 := { stood := { row := discoFindsUptoRow, standIns := [], harness := (true, "81b97fb8a79c1c4fb819f90ef32f7fd2bfe7303c87891029b7bac0a68b3048a3"), looks := false }, kinds := [], alts := [], laidByText := true, laidKinds := [.data, .data, .data, .data], laidTests := true, laidLooks := .later }
def DiscoFindsUptoCardSaid : Prop := Claim7.holds Tryz.pinned (.plain (OpenSpec.upto discoFindsSpec)) discoFindsUptoCard

/-- THE SECOND FORM's CARD OF 'isthmuslaw26.DiscoNil'. -/
def discoNilUptoCard : Claim7 := { stood := { row := discoNilUptoRow, standIns := [], harness := (true, "81b97fb8a79c1c4fb819f90ef32f7fd2bfe7303c87891029b7bac0a68b3048a3"), looks := false }, kinds := [], alts := [], laidByText := true, laidKinds := [.data, .data, .data, .data], laidTests := true, laidLooks := .later }
def DiscoNilUptoCardSaid : Prop := Claim7.holds Tryz.pinned (.plain (OpenSpec.upto discoNilSpec)) discoNilUptoCard
end Rows
end Go.Proofs.YtanaackimepkdaaGreatDoor
