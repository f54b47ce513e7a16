/-
  DERIVED. GIVEN WITH THE SEED: THE CARDS: each row of YthlemfnkmpikjaaDoorRows.lean that lists a variable, with what it lists TIED to the program's text (the seventh form; the later family's looks); each row that meets fmt, with fmt's text TOLD by the authors' own Lean function (tested against real Go, not proved from fmt's source: count such statements apart). THE CARD IS WHAT COUNTS. Prove the row's statement (the work); the ties are given (YthlemfnkmpikjaaDoorTie.lean); close each card by the builder's one call (the guide's Derived/Test/ToyasCard.lean, 'card_holds'). Laid BY PROGRAM, IN A SANDBOX (cutbox-door.mjs). By AI agents, Wed Nov 11 2026. No macro, syntax, notation, axiom, sorry.
-/
import Derived.Test.YthlemfnkmpikjaaDoorRows
import GoSem.ClaimSeven
namespace Go.Proofs.YthlemfnkmpikjaaDoor
namespace Rows

/-- THE TIED CARD OF 'isthmuslaw15.MsgWrites'. -/
def msgWritesCard : Claim7 := { stood := { row := msgWritesRow, standIns := [], harness := (true, "c09cfb0fb5c37f601f38cfd7cabc8f420b8801e3fb8142c14d7d38fe687a7b05"), looks := false }, kinds := [], alts := [], laidByText := true, laidKinds := [.data, .data, .data], laidTests := true, laidLooks := .later }
def MsgWritesCardSaid : Prop := Claim7.holds Tryd.pinned (.plain (OpenSpec.ofChange msgWritesSpec)) msgWritesCard

/-- THE TIED CARD OF 'isthmuslaw15.MsgBack'. -/
def msgBackCard : Claim7 := { stood := { row := msgBackRow, standIns := [], harness := (true, "c09cfb0fb5c37f601f38cfd7cabc8f420b8801e3fb8142c14d7d38fe687a7b05"), looks := false }, kinds := [], alts := [], laidByText := true, laidKinds := [.data, .data, .data], laidTests := true, laidLooks := .later }
def MsgBackCardSaid : Prop := Claim7.holds Tryd.pinned (.plain (OpenSpec.ofChange msgBackSpec)) msgBackCard

/-- THE TIED CARD OF 'isthmuslaw15.MsgSizes'. -/
def msgSizesCard : Claim7 := { stood := { row := msgSizesRow, standIns := [], harness := (true, "c09cfb0fb5c37f601f38cfd7cabc8f420b8801e3fb8142c14d7d38fe687a7b05"), looks := false }, kinds := [], alts := [], laidByText := true, laidKinds := [.data, .data, .data], laidTests := true, laidLooks := .later }
def MsgSizesCardSaid : Prop := Claim7.holds Tryd.pinned (.plain (OpenSpec.ofChange msgSizesSpec)) msgSizesCard

/-- THE TIED CARD OF 'isthmuslaw15.MsgCuts'. -/
def msgCutsCard : Claim7 := { stood := { row := msgCutsRow, standIns := [], harness := (true, "c09cfb0fb5c37f601f38cfd7cabc8f420b8801e3fb8142c14d7d38fe687a7b05"), looks := false }, kinds := [], alts := [], laidByText := true, laidKinds := [.data, .data, .data], laidTests := true, laidLooks := .later }
def MsgCutsCardSaid : Prop := Claim7.holds Tryd.pinned (.plain (OpenSpec.ofChange msgCutsSpec)) msgCutsCard

/-- THE SECOND FORM's CARD OF 'isthmuslaw15.MsgWrites'. -/
def msgWritesUptoCard : Claim7 := { stood := { row := msgWritesUptoRow, standIns := [], harness := (true, "c09cfb0fb5c37f601f38cfd7cabc8f420b8801e3fb8142c14d7d38fe687a7b05"), looks := false }, kinds := [], alts := [], laidByText := true, laidKinds := [.data, .data, .data], laidTests := true, laidLooks := .later }
def MsgWritesUptoCardSaid : Prop := Claim7.holds Tryd.pinned (.plain (OpenSpec.upto msgWritesSpec)) msgWritesUptoCard

/-- THE SECOND FORM's CARD OF 'isthmuslaw15.MsgBack'. -/
def msgBackUptoCard : Claim7 := { stood := { row := msgBackUptoRow, standIns := [], harness := (true, "c09cfb0fb5c37f601f38cfd7cabc8f420b8801e3fb8142c14d7d38fe687a7b05"), looks := false }, kinds := [], alts := [], laidByText := true, laidKinds := [.data, .data, .data], laidTests := true, laidLooks := .later }
def MsgBackUptoCardSaid : Prop := Claim7.holds Tryd.pinned (.plain (OpenSpec.upto msgBackSpec)) msgBackUptoCard

/-- THE SECOND FORM's CARD OF 'isthmuslaw15.MsgSizes'. -/
def msgSizesUptoCard : Claim7 := { stood := { row := msgSizesUptoRow, standIns := [], harness := (true, "c09cfb0fb5c37f601f38cfd7cabc8f420b8801e3fb8142c14d7d38fe687a7b05"), looks := false }, kinds := [], alts := [], laidByText := true, laidKinds := [.data, .data, .data], laidTests := true, laidLooks := .later }
def MsgSizesUptoCardSaid : Prop := Claim7.holds Tryd.pinned (.plain (OpenSpec.upto msgSizesSpec)) msgSizesUptoCard

/-- THE SECOND FORM's CARD OF 'isthmuslaw15.MsgCuts'. -/
def msgCutsUptoCard : Claim7 := { stood := { row := msgCutsUptoRow, standIns := [], harness := (true, "c09cfb0fb5c37f601f38cfd7cabc8f420b8801e3fb8142c14d7d38fe687a7b05"), looks := false }, kinds := [], alts := [], laidByText := true, laidKinds := [.data, .data, .data], laidTests := true, laidLooks := .later }
def MsgCutsUptoCardSaid : Prop := Claim7.holds Tryd.pinned (.plain (OpenSpec.upto msgCutsSpec)) msgCutsUptoCard
end Rows
end Go.Proofs.YthlemfnkmpikjaaDoor
