/-
  No cell of these rows narrows 'for every input' (looked for: loops, veiled, ifaces, maps, wideKeys, modest, calm, conditions, laid).
  DERIVED. THE GIVEN ROWS OF THIS SEAT. 4 by the template 'for every input the law returns true; each argument reads behind the call as it read before'; 0 by the template 'total and deterministic' (their statements: YtjdhndicgifnbaaTotals.lean).
  GIVEN WITH THE SEED: the statements are not yours to turn. If you find one false, say at which input.
  Laid BY PROGRAM, IN A SANDBOX (cutbox-rows.mjs): the forced cells as the released guide's own fill.sh prints them over the translation b615eb737df8aef8… (all of the seat's roots in one cut). By AI agents, Wed Nov 11 2026. No macro, syntax, notation, axiom, sorry.
-/
import Derived.Test.YtjdhndicgifnbaaChecked
import GoSem.Claim
import GoSem.ClaimJoined
import GoSem.ClaimMapViews
import Derived.JoinedTies
import Derived.KernelRfl
namespace Go.Proofs.Ytjdhndicgifnbaa
/- THE CELL 'sum', in the pinned program and in every row, IS THE sha256 OF THE DUMP (.gsa) THAT YtjdhndicgifnbaaProg.lean LOADS. Nothing in Lean hashes anything: it is a label: what it is worth is what the hold of that sum in a sandbox is worth. -/
noncomputable def Try.pinned : Pinned := { name := "ytjdhndicgifnbaa", sum := "b615eb737df8aef8952057d7e071e9e9ac4c9c07f4d1305d1478ded2c670eabe", checked := Try.checked }
namespace Rows
def none {H : Type} : Left H := { results := [], args := [] }

/-- 'isthmuslaw18.TunnelPlays': WHATEVER THE INPUT: true; the input reads as it did. -/
def tunnelPlaysSpec : ChangeSpec := { name := "tunnelPlays", fn := fun _ => fun
  | [d1, d2, d3, d4] => { results := [.lit (.bool true)], args := [d1, d2, d3, d4] }
  | _ => none }
def tunnelPlaysRow : OpenClaim := { program := "ytjdhndicgifnbaa", sum := "b615eb737df8aef8952057d7e071e9e9ac4c9c07f4d1305d1478ded2c670eabe", func := "isthmus/isthmuslaw18.TunnelPlays", spec := "tunnelPlays", inPlace := ["internal/abi.NoEscape"], unfollowed := true, recurses := true, apart := false }
def TunnelPlaysSaid : Prop := tunnelPlaysRow.holds Try.pinned (OpenSpec.ofChange tunnelPlaysSpec)

/-- ITS FALSE NEIGHBOUR: 'it returns false'. Refute it at one input. -/
def tunnelPlaysWrong : ChangeSpec := { name := "tunnelPlays", fn := fun _ => fun
  | [d1, d2, d3, d4] => { results := [.lit (.bool false)], args := [d1, d2, d3, d4] }
  | _ => none }
def TunnelPlaysWrongFalsely : Prop := tunnelPlaysRow.holds Try.pinned (OpenSpec.ofChange tunnelPlaysWrong)

/-- 'isthmuslaw18.TunnelOnce': WHATEVER THE INPUT: true; the input reads as it did. -/
def tunnelOnceSpec : ChangeSpec := { name := "tunnelOnce", fn := fun _ => fun
  | [d1, d2, d3, d4] => { results := [.lit (.bool true)], args := [d1, d2, d3, d4] }
  | _ => none }
def tunnelOnceRow : OpenClaim := { program := "ytjdhndicgifnbaa", sum := "b615eb737df8aef8952057d7e071e9e9ac4c9c07f4d1305d1478ded2c670eabe", func := "isthmus/isthmuslaw18.TunnelOnce", spec := "tunnelOnce", inPlace := ["internal/abi.NoEscape"], unfollowed := true, recurses := true, apart := false }
def TunnelOnceSaid : Prop := tunnelOnceRow.holds Try.pinned (OpenSpec.ofChange tunnelOnceSpec)

/-- ITS FALSE NEIGHBOUR: 'it returns false'. Refute it at one input. -/
def tunnelOnceWrong : ChangeSpec := { name := "tunnelOnce", fn := fun _ => fun
  | [d1, d2, d3, d4] => { results := [.lit (.bool false)], args := [d1, d2, d3, d4] }
  | _ => none }
def TunnelOnceWrongFalsely : Prop := tunnelOnceRow.holds Try.pinned (OpenSpec.ofChange tunnelOnceWrong)

/-- 'isthmuslaw18.TunnelNil': WHATEVER THE INPUT: true; the input reads as it did. -/
def tunnelNilSpec : ChangeSpec := { name := "tunnelNil", fn := fun _ => fun
  | [d1, d2] => { results := [.lit (.bool true)], args := [d1, d2] }
  | _ => none }
def tunnelNilRow : OpenClaim := { program := "ytjdhndicgifnbaa", sum := "b615eb737df8aef8952057d7e071e9e9ac4c9c07f4d1305d1478ded2c670eabe", func := "isthmus/isthmuslaw18.TunnelNil", spec := "tunnelNil", inPlace := ["internal/abi.NoEscape"], unfollowed := true, recurses := true, apart := false }
def TunnelNilSaid : Prop := tunnelNilRow.holds Try.pinned (OpenSpec.ofChange tunnelNilSpec)

/-- ITS FALSE NEIGHBOUR: 'it returns false'. Refute it at one input. -/
def tunnelNilWrong : ChangeSpec := { name := "tunnelNil", fn := fun _ => fun
  | [d1, d2] => { results := [.lit (.bool false)], args := [d1, d2] }
  | _ => none }
def TunnelNilWrongFalsely : Prop := tunnelNilRow.holds Try.pinned (OpenSpec.ofChange tunnelNilWrong)

/-- 'isthmuslaw18.TunnelSlots': WHATEVER THE INPUT: true; the input reads as it did. -/
def tunnelSlotsSpec : ChangeSpec := { name := "tunnelSlots", fn := fun _ => fun
  | [d1, d2] => { results := [.lit (.bool true)], args := [d1, d2] }
  | _ => none }
def tunnelSlotsRow : OpenClaim := { program := "ytjdhndicgifnbaa", sum := "b615eb737df8aef8952057d7e071e9e9ac4c9c07f4d1305d1478ded2c670eabe", func := "isthmus/isthmuslaw18.TunnelSlots", spec := "tunnelSlots", inPlace := ["internal/abi.NoEscape"], unfollowed := true, recurses := true, apart := false }
def TunnelSlotsSaid : Prop := tunnelSlotsRow.holds Try.pinned (OpenSpec.ofChange tunnelSlotsSpec)

/-- ITS FALSE NEIGHBOUR: 'it returns false'. Refute it at one input. -/
def tunnelSlotsWrong : ChangeSpec := { name := "tunnelSlots", fn := fun _ => fun
  | [d1, d2] => { results := [.lit (.bool false)], args := [d1, d2] }
  | _ => none }
def TunnelSlotsWrongFalsely : Prop := tunnelSlotsRow.holds Try.pinned (OpenSpec.ofChange tunnelSlotsWrong)

/- THE SECOND FORM. 'bulk': how many values and letters a reading holds, each counted each time it is reached (what is shared counts as often as it is met; a slice's spare places count too). A statement '..UptoSaid' is the law's where the arguments, and the package variables that the reading takes, are together of bulk at most 1048576: NARROWER than '..Said'. Prove '..Said' where nothing that the law and all that it calls make is longer than what came in: it says more and counts as full. Else prove '..UptoSaid'. A law counts once. -/
mutual
def uptoBulk {H : Type} : DataW H → Nat
  | .lit (.string bytes) => bytes.length + 1
  | .lit _ => 1
  | .nil => 1
  | .ptr d => uptoBulk d + 1
  | .slice elems spare => uptoBulkAll elems + uptoBulkAll spare + 1
  | .agg parts => uptoBulkAll parts + 1
  | .iface _ d => uptoBulk d + 1
  | .map entries => uptoBulkEntries entries + 1
  | .held _ => 1
def uptoBulkAll {H : Type} : List (DataW H) → Nat
  | [] => 0
  | d :: r => uptoBulk d + uptoBulkAll r
def uptoBulkEntries {H : Type} : List (Lit × DataW H) → Nat
  | [] => 0
  | x :: r => uptoBulkEntry x + uptoBulkEntries r
def uptoBulkEntry {H : Type} : Lit × DataW H → Nat
  | (.string bytes, d) => bytes.length + uptoBulk d + 1
  | (_, d) => uptoBulk d + 1
 end
def uptoSmall : (H : Type) → List (DataW H) → Bool := fun _ ds => decide (uptoBulkAll ds ≤ 1048576)
def OpenSpec.upto (s : _root_.Go.ChangeSpec) : _root_.Go.OpenSpec := { _root_.Go.OpenSpec.ofChange s with cond := some uptoSmall }

/-- 'isthmuslaw18.TunnelPlays', WHERE WHAT IT READS IS OF BULK AT MOST 1048576: true; the input reads as it did. -/
def tunnelPlaysUptoRow : OpenClaim := { program := "ytjdhndicgifnbaa", sum := "b615eb737df8aef8952057d7e071e9e9ac4c9c07f4d1305d1478ded2c670eabe", func := "isthmus/isthmuslaw18.TunnelPlays", spec := "tunnelPlays", inPlace := ["internal/abi.NoEscape"], unfollowed := true, recurses := true, apart := false, narrowed := true }
def TunnelPlaysUptoSaid : Prop := tunnelPlaysUptoRow.holds Try.pinned (OpenSpec.upto tunnelPlaysSpec)

/-- 'isthmuslaw18.TunnelOnce', WHERE WHAT IT READS IS OF BULK AT MOST 1048576: true; the input reads as it did. -/
def tunnelOnceUptoRow : OpenClaim := { program := "ytjdhndicgifnbaa", sum := "b615eb737df8aef8952057d7e071e9e9ac4c9c07f4d1305d1478ded2c670eabe", func := "isthmus/isthmuslaw18.TunnelOnce", spec := "tunnelOnce", inPlace := ["internal/abi.NoEscape"], unfollowed := true, recurses := true, apart := false, narrowed := true }
def TunnelOnceUptoSaid : Prop := tunnelOnceUptoRow.holds Try.pinned (OpenSpec.upto tunnelOnceSpec)

/-- 'isthmuslaw18.TunnelNil', WHERE WHAT IT READS IS OF BULK AT MOST 1048576: true; the input reads as it did. -/
def tunnelNilUptoRow : OpenClaim := { program := "ytjdhndicgifnbaa", sum := "b615eb737df8aef8952057d7e071e9e9ac4c9c07f4d1305d1478ded2c670eabe", func := "isthmus/isthmuslaw18.TunnelNil", spec := "tunnelNil", inPlace := ["internal/abi.NoEscape"], unfollowed := true, recurses := true, apart := false, narrowed := true }
def TunnelNilUptoSaid : Prop := tunnelNilUptoRow.holds Try.pinned (OpenSpec.upto tunnelNilSpec)

/-- 'isthmuslaw18.TunnelSlots', WHERE WHAT IT READS IS OF BULK AT MOST 1048576: true; the input reads as it did. -/
def tunnelSlotsUptoRow : OpenClaim := { program := "ytjdhndicgifnbaa", sum := "b615eb737df8aef8952057d7e071e9e9ac4c9c07f4d1305d1478ded2c670eabe", func := "isthmus/isthmuslaw18.TunnelSlots", spec := "tunnelSlots", inPlace := ["internal/abi.NoEscape"], unfollowed := true, recurses := true, apart := false, narrowed := true }
def TunnelSlotsUptoSaid : Prop := tunnelSlotsUptoRow.holds Try.pinned (OpenSpec.upto tunnelSlotsSpec)

end Rows
end Go.Proofs.Ytjdhndicgifnbaa
