/-
  DERIVED. GIVEN WITH THE SEED: THE CARDS: each row of YtlchjbidkdokmaaGreatDoorRows.lean that lists a variable, with what it lists TIED to the program's text (the seventh form; the later family's looks); each row that meets fmt, with fmt's text TOLD by the authors' own Lean function (tested against real Go, not proved from fmt's source: count such statements apart). THE CARD IS WHAT COUNTS. Prove the row's statement (the work); the ties are given (YtlchjbidkdokmaaGreatDoorTie.lean); close each card by the builder's one call (the guide's Derived/Test/ToyasCard.lean, 'card_holds'). Laid BY PROGRAM, IN A SANDBOX (cutbox-door.mjs). By AI agents, Wed Nov 11 2026. No macro, syntax, notation, axiom, sorry.
-/
import Derived.Test.YtlchjbidkdokmaaGreatDoorRows
import GoSem.ClaimSeven
namespace Go.Proofs.YtlchjbidkdokmaaGreatDoor
namespace Rows

/-- THE TIED CARD OF 'isthmuslaw27.RelayProofs'. -/
def relayProofsCard : Claim7 := { stood := { row := relayProofsRow, standIns := [], harness := (true, "ee6ea5ef4f3079dc6de83d76de945803f55bd1ec2f7c22a7006d5310a8957b53"), looks := false }, kinds := [], alts := [], laidByText := true, laidKinds := [.data, .data, .data, .data], laidTests := true, laidLooks := .later }
def RelayProofsCardSaid : Prop := Claim7.holds Tryz.pinned (.plain (OpenSpec.ofChange relayProofsSpec)) relayProofsCard

/-- THE TIED CARD OF 'isthmuslaw27.RelayBrings'. -/
def relayBringsCard : Claim7 := { stood := { row := relayBringsRow, standIns := [], harness := (true, "ee6ea5ef4f3079dc6de83d76de945803f55bd1ec2f7c22a7006d5310a8957b53"), looks := false }, kinds := [], alts := [], laidByText := true, laidKinds := [.data, .data, .data, .data], laidTests := true, laidLooks := .later }
def RelayBringsCardSaid : Prop := Claim7.holds Tryz.pinned (.plain (OpenSpec.ofChange relayBringsSpec)) relayBringsCard

/-- THE TIED CARD OF 'isthmuslaw27.RelayPlays'. -/
def relayPlaysCard : Claim7 := { stood := { row := relayPlaysRow, standIns := [], harness := (true, "ee6ea5ef4f3079dc6de83d76de945803f55bd1ec2f7c22a7006d5310a8957b53"), looks := false }, kinds := [], alts := [], laidByText := true, laidKinds := [.data, .data, .data, .data], laidTests := true, laidLooks := .later }
def RelayPlaysCardSaid : Prop := Claim7.holds Tryz.pinned (.plain (OpenSpec.ofChange relayPlaysSpec)) relayPlaysCard

/-- THE TIED CARD OF 'isthmuslaw27.RelayNil'. -/
def relayNilCard : Claim7 := { stood := { row := relayNilRow, standIns := [], harness := (true, "ee6ea5ef4f3079dc6de83d76de945803f55bd1ec2f7c22a7006d5310a8957b53"), looks := false }, kinds := [], alts := [], laidByText := true, laidKinds := [.data, .data, .data, .data], laidTests := true, laidLooks := .later }
def RelayNilCardSaid : Prop := Claim7.holds Tryz.pinned (.plain (OpenSpec.ofChange relayNilSpec)) relayNilCard

/-- THE SECOND FORM's CARD OF 'isthmuslaw27.RelayProofs'. -/
def relayProofsUptoCard : Claim7 := { stood := { row := relayProofsUptoRow, standIns := [], harness := (true, "ee6ea5ef4f3079dc6de83d76de945803f55bd1ec2f7c22a7006d5310a8957b53"), looks := false }, kinds := [], alts := [], laidByText := true, laidKinds := [.data, .data, .data, .data], laidTests := true, laidLooks := .later }
def RelayProofsUptoCardSaid : Prop := Claim7.holds Tryz.pinned (.plain (OpenSpec.upto relayProofsSpec)) relayProofsUptoCard

/-- THE SECOND FORM's CARD OF 'isthmuslaw27.RelayBrings'. -/
def relayBringsUptoCard : Claim7 := { stood := { row := relayBringsUptoRow, standIns := [], harness := (true, "ee6ea5ef4f3079dc6de83d76de945803f55bd1ec2f7c22a7006d5310a8957b53"), looks := false }, kinds := [], alts := [], laidByText := true, laidKinds := [.data, .data, .data, .data], laidTests := true, laidLooks := .later }
def RelayBringsUptoCardSaid : Prop := Claim7.holds Tryz.pinned (.plain (OpenSpec.upto relayBringsSpec)) relayBringsUptoCard

/-- THE SECOND FORM's CARD OF 'isthmuslaw27.RelayPlays'. -/
def relayPlaysUptoCard : Claim7 := { stood := { row := relayPlaysUptoRow, standIns := [], harness := (true, "ee6ea5ef4f3079dc6de83d76de945803f55bd1ec2f7c22a7006d5310a8957b53"), looks := false }, kinds := [], alts := [], laidByText := true, laidKinds := [.data, .data, .data, .data], laidTests := true, laidLooks := .later }
def RelayPlaysUptoCardSaid : Prop := Claim7.holds Tryz.pinned (.plain (OpenSpec.upto relayPlaysSpec)) relayPlaysUptoCard

/-- THE SECOND FORM's CARD OF 'isthmuslaw27.RelayNil'. -/
def relayNilUptoCard : Claim7 := { stood := { row := relayNilUptoRow, standIns := [], harness := (true, "ee6ea5ef4f3079dc6de83d76de945803f55bd1ec2f7c22a7006d5310a8957b53"), looks := false }, kinds := [], alts := [], laidByText := true, laidKinds := [.data, .data, .data, .data], laidTests := true, laidLooks := .later }
def RelayNilUptoCardSaid : Prop := Claim7.holds Tryz.pinned (.plain (OpenSpec.upto relayNilSpec)) relayNilUptoCard
end Rows
end Go.Proofs.YtlchjbidkdokmaaGreatDoor
