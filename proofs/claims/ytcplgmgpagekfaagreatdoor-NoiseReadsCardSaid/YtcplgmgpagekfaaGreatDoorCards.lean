/-
  DERIVED. GIVEN WITH THE SEED: THE CARDS: each row of YtcplgmgpagekfaaGreatDoorRows.lean that lists a variable, with what it lists TIED to the program's text (the seventh form; the later family's looks); each row that meets fmt, with fmt's text TOLD by the authors' own Lean function (tested against real Go, not proved from fmt's source: count such statements apart). THE CARD IS WHAT COUNTS. Prove the row's statement (the work); the ties are given (YtcplgmgpagekfaaGreatDoorTie.lean); close each card by the builder's one call (the guide's Derived/Test/ToyasCard.lean, 'card_holds'). Laid BY PROGRAM, IN A SANDBOX (cutbox-door.mjs). By AI agents, Wed Nov 11 2026. No macro, syntax, notation, axiom, sorry.
-/
import Derived.Test.YtcplgmgpagekfaaGreatDoorRows
import GoSem.ClaimSeven
namespace Go.Proofs.YtcplgmgpagekfaaGreatDoor
namespace Rows

/-- THE TIED CARD OF 'isthmuslaw16.NoisePlays'. -/
def noisePlaysCard : Claim7 := { stood := { row := noisePlaysRow, standIns := [], harness := (true, "0fade54797b29e6354d7b110750a1d70f46bc673d1285cf207bb8ad8ffac4362"), looks := false }, kinds := [], alts := [], laidByText := true, laidKinds := [.data], laidTests := true, laidLooks := .later }
def NoisePlaysCardSaid : Prop := Claim7.holds Tryz.pinned (.plain (OpenSpec.ofChange noisePlaysSpec)) noisePlaysCard

/-- THE TIED CARD OF 'isthmuslaw16.NoiseReads'. -/
def noiseReadsCard : Claim7 := { stood := { row := noiseReadsRow, standIns := [], harness := (true, "0fade54797b29e6354d7b110750a1d70f46bc673d1285cf207bb8ad8ffac4362"), looks := false }, kinds := [], alts := [], laidByText := true, laidKinds := [.data], laidTests := true, laidLooks := .later }
def NoiseReadsCardSaid : Prop := Claim7.holds Tryz.pinned (.plain (OpenSpec.ofChange noiseReadsSpec)) noiseReadsCard

/-- THE SECOND FORM's CARD OF 'isthmuslaw16.NoisePlays'. -/
def noisePlaysUptoCard : Claim7 := { stood := { row := noisePlaysUptoRow, standIns := [], harness := (true, "0fade54797b29e6354d7b110750a1d70f46bc673d1285cf207bb8ad8ffac4362"), looks := false }, kinds := [], alts := [], laidByText := true, laidKinds := [.data], laidTests := true, laidLooks := .later }
def NoisePlaysUptoCardSaid : Prop := Claim7.holds Tryz.pinned (.plain (OpenSpec.upto noisePlaysSpec)) noisePlaysUptoCard

/-- THE SECOND FORM's CARD OF 'isthmuslaw16.NoiseReads'. -/
def noiseReadsUptoCard : Claim7 := { stood := { row := noiseReadsUptoRow, standIns := [], harness := (true, "0fade54797b29e6354d7b110750a1d70f46bc673d1285cf207bb8ad8ffac4362"), looks := false }, kinds := [], alts := [], laidByText := true, laidKinds := [.data], laidTests := true, laidLooks := .later }
def NoiseReadsUptoCardSaid : Prop := Claim7.holds Tryz.pinned (.plain (OpenSpec.upto noiseReadsSpec)) noiseReadsUptoCard
end Rows
end Go.Proofs.YtcplgmgpagekfaaGreatDoor
