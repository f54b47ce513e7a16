/-
  DERIVED. GIVEN WITH THE SEED: THE CARDS: each row of YtcplgmgpagekfaaDoorRows.lean that lists a variable, with what it lists TIED to the program's text (the seventh form; the later family's looks); each row that meets fmt, with fmt's text TOLD by the authors' own Lean function (tested against real Go, not proved from fmt's source: count such statements apart). THE CARD IS WHAT COUNTS. Prove the row's statement (the work); the ties are given (YtcplgmgpagekfaaDoorTie.lean); close each card by the builder's one call (the guide's Derived/Test/ToyasCard.lean, 'card_holds'). Laid BY PROGRAM, IN A SANDBOX (cutbox-door.mjs). By AI agents, Wed Nov 11 2026. No macro, syntax, notation, axiom, sorry.
-/
import Derived.Test.YtcplgmgpagekfaaDoorRows
import GoSem.ClaimSeven
namespace Go.Proofs.YtcplgmgpagekfaaDoor
namespace Rows

/-- THE TIED CARD OF 'isthmuslaw16.NoiseBoth'. -/
def noiseBothCard : Claim7 := { stood := { row := noiseBothRow, standIns := [], harness := (true, "84c4165d2e4c2d0e60ad726254719bbbfe67444b43fa2ecfb4a4257c5e246355"), looks := false }, kinds := [], alts := [], laidByText := true, laidKinds := [.data], laidTests := true, laidLooks := .later }
def NoiseBothCardSaid : Prop := Claim7.holds Tryd.pinned (.plain (OpenSpec.ofChange noiseBothSpec)) noiseBothCard

/-- THE TIED CARD OF 'isthmuslaw16.NoiseNil'. -/
def noiseNilCard : Claim7 := { stood := { row := noiseNilRow, standIns := [], harness := (true, "84c4165d2e4c2d0e60ad726254719bbbfe67444b43fa2ecfb4a4257c5e246355"), looks := false }, kinds := [], alts := [], laidByText := true, laidKinds := [.data], laidTests := true, laidLooks := .later }
def NoiseNilCardSaid : Prop := Claim7.holds Tryd.pinned (.plain (OpenSpec.ofChange noiseNilSpec)) noiseNilCard

/-- THE SECOND FORM's CARD OF 'isthmuslaw16.NoiseBoth'. -/
def noiseBothUptoCard : Claim7 := { stood := { row := noiseBothUptoRow, standIns := [], harness := (true, "84c4165d2e4c2d0e60ad726254719bbbfe67444b43fa2ecfb4a4257c5e246355"), looks := false }, kinds := [], alts := [], laidByText := true, laidKinds := [.data], laidTests := true, laidLooks := .later }
def NoiseBothUptoCardSaid : Prop := Claim7.holds Tryd.pinned (.plain (OpenSpec.upto noiseBothSpec)) noiseBothUptoCard

/-- THE SECOND FORM's CARD OF 'isthmuslaw16.NoiseNil'. -/
def noiseNilUptoCard : Claim7 := { stood := { row := noiseNilUptoRow, standIns := [], harness := (true, "84c4165d2e4c2d0e60ad726254719bbbfe67444b43fa2ecfb4a4257c5e246355"), looks := false }, kinds := [], alts := [], laidByText := true, laidKinds := [.data], laidTests := true, laidLooks := .later }
def NoiseNilUptoCardSaid : Prop := Claim7.holds Tryd.pinned (.plain (OpenSpec.upto noiseNilSpec)) noiseNilUptoCard
end Rows
end Go.Proofs.YtcplgmgpagekfaaDoor
