/-
  No cell of these rows narrows 'for every input' (looked for: loops, veiled, ifaces, maps, wideKeys, modest, calm, conditions, laid).
  DERIVED. THE GIVEN ROWS OF THIS SEAT. 4 by the template 'for every input the law returns true; each argument reads behind the call as it read before'; 0 by the template 'total and deterministic' (their statements: YthpknhpbnpaghaaTotals.lean).
  GIVEN WITH THE SEED: the statements are not yours to turn. If you find one false, say at which input.
  Laid BY PROGRAM, IN A SANDBOX (cutbox-rows.mjs): the forced cells as the released guide's own fill.sh prints them over the translation aecc6e49dbaaa611… (all of the seat's roots in one cut). By AI agents, Wed Nov 11 2026. No macro, syntax, notation, axiom, sorry.
-/
import Derived.Test.YthpknhpbnpaghaaChecked
import GoSem.Claim
import GoSem.ClaimJoined
import GoSem.ClaimMapViews
import Derived.JoinedTies
import Derived.KernelRfl
namespace Go.Proofs.Ythpknhpbnpaghaa
/- THE CELL 'sum', in the pinned program and in every row, IS THE sha256 OF THE DUMP (.gsa) THAT YthpknhpbnpaghaaProg.lean LOADS. Nothing in Lean hashes anything: it is a label: what it is worth is what the hold of that sum in a sandbox is worth. -/
noncomputable def Try.pinned : Pinned := { name := "ythpknhpbnpaghaa", sum := "aecc6e49dbaaa611fb7934c7a2935e12c2585f5f2c3678c8e0ef958e94409395", checked := Try.checked }
namespace Rows
def none {H : Type} : Left H := { results := [], args := [] }

/-- 'isthmuslaw03.MontShared': WHATEVER THE INPUT: true; the input reads as it did. -/
def montSharedSpec : ChangeSpec := { name := "montShared", fn := fun _ => fun
  | [d1, d2] => { results := [.lit (.bool true)], args := [d1, d2] }
  | _ => none }
def montSharedRow : OpenClaim := { program := "ythpknhpbnpaghaa", sum := "aecc6e49dbaaa611fb7934c7a2935e12c2585f5f2c3678c8e0ef958e94409395", func := "isthmus/isthmuslaw03.MontShared", spec := "montShared", inPlace := ["math/bits.Add64"], recurses := true, apart := false }
def MontSharedSaid : Prop := montSharedRow.holds Try.pinned (OpenSpec.ofChange montSharedSpec)

/-- ITS FALSE NEIGHBOUR: 'it returns false'. Refute it at one input. -/
def montSharedWrong : ChangeSpec := { name := "montShared", fn := fun _ => fun
  | [d1, d2] => { results := [.lit (.bool false)], args := [d1, d2] }
  | _ => none }
def MontSharedWrongFalsely : Prop := montSharedRow.holds Try.pinned (OpenSpec.ofChange montSharedWrong)

/-- 'isthmuslaw03.MontBoth': WHATEVER THE INPUT: true; the input reads as it did. -/
def montBothSpec : ChangeSpec := { name := "montBoth", fn := fun _ => fun
  | [d1, d2] => { results := [.lit (.bool true)], args := [d1, d2] }
  | _ => none }
def montBothRow : OpenClaim := { program := "ythpknhpbnpaghaa", sum := "aecc6e49dbaaa611fb7934c7a2935e12c2585f5f2c3678c8e0ef958e94409395", func := "isthmus/isthmuslaw03.MontBoth", spec := "montBoth", inPlace := ["math/bits.Add64"], recurses := true, apart := false }
def MontBothSaid : Prop := montBothRow.holds Try.pinned (OpenSpec.ofChange montBothSpec)

/-- ITS FALSE NEIGHBOUR: 'it returns false'. Refute it at one input. -/
def montBothWrong : ChangeSpec := { name := "montBoth", fn := fun _ => fun
  | [d1, d2] => { results := [.lit (.bool false)], args := [d1, d2] }
  | _ => none }
def MontBothWrongFalsely : Prop := montBothRow.holds Try.pinned (OpenSpec.ofChange montBothWrong)

/-- 'isthmuslaw03.MontRow': WHATEVER THE INPUT: true; the input reads as it did. -/
def montRowSpec : ChangeSpec := { name := "montRow", fn := fun _ => fun
  | [d1, d2, d3] => { results := [.lit (.bool true)], args := [d1, d2, d3] }
  | _ => none }
def montRowRow : OpenClaim := { program := "ythpknhpbnpaghaa", sum := "aecc6e49dbaaa611fb7934c7a2935e12c2585f5f2c3678c8e0ef958e94409395", func := "isthmus/isthmuslaw03.MontRow", spec := "montRow", inPlace := ["math/bits.Add64"], recurses := true, apart := false }
def MontRowSaid : Prop := montRowRow.holds Try.pinned (OpenSpec.ofChange montRowSpec)

/-- ITS FALSE NEIGHBOUR: 'it returns false'. Refute it at one input. -/
def montRowWrong : ChangeSpec := { name := "montRow", fn := fun _ => fun
  | [d1, d2, d3] => { results := [.lit (.bool false)], args := [d1, d2, d3] }
  | _ => none }
def MontRowWrongFalsely : Prop := montRowRow.holds Try.pinned (OpenSpec.ofChange montRowWrong)

/-- 'isthmuslaw03.MontKeys': WHATEVER THE INPUT: true; the input reads as it did. -/
def montKeysSpec : ChangeSpec := { name := "montKeys", fn := fun _ => fun
  | [d1, d2, d3] => { results := [.lit (.bool true)], args := [d1, d2, d3] }
  | _ => none }
def montKeysRow : OpenClaim := { program := "ythpknhpbnpaghaa", sum := "aecc6e49dbaaa611fb7934c7a2935e12c2585f5f2c3678c8e0ef958e94409395", func := "isthmus/isthmuslaw03.MontKeys", spec := "montKeys", inPlace := ["math/bits.Add64"], recurses := true, apart := false }
def MontKeysSaid : Prop := montKeysRow.holds Try.pinned (OpenSpec.ofChange montKeysSpec)

/-- ITS FALSE NEIGHBOUR: 'it returns false'. Refute it at one input. -/
def montKeysWrong : ChangeSpec := { name := "montKeys", fn := fun _ => fun
  | [d1, d2, d3] => { results := [.lit (.bool false)], args := [d1, d2, d3] }
  | _ => none }
def MontKeysWrongFalsely : Prop := montKeysRow.holds Try.pinned (OpenSpec.ofChange montKeysWrong)

/- THE SECOND FORM. 'bulk': how many values and letters a reading holds, each counted each time it is reached (what is shared counts as often as it is met; a slice's spare places count too). A statement '..UptoSaid' is the law's where the arguments, and the package variables that the reading takes, are together of bulk at most 1048576: NARROWER than '..Said'. Prove '..Said' where nothing that the law and all that it calls make is longer than what came in: it says more and counts as full. Else prove '..UptoSaid'. A law counts once. -/
mutual
def uptoBulk {H : Type} : DataW H → Nat
  | .lit (.string bytes) => bytes.length + 1
  | .lit _ => 1
  | .nil => 1
  | .ptr d => uptoBulk d + 1
  | .slice elems spare => uptoBulkAll elems + uptoBulkAll spare + 1
  | .agg parts => uptoBulkAll parts + 1
  | .iface _ d => uptoBulk d + 1
  | .map entries => uptoBulkEntries entries + 1
  | .held _ => 1
def uptoBulkAll {H : Type} : List (DataW H) → Nat
  | [] => 0
  | d :: r => uptoBulk d + uptoBulkAll r
def uptoBulkEntries {H : Type} : List (Lit × DataW H) → Nat
  | [] => 0
  | x :: r => uptoBulkEntry x + uptoBulkEntries r
def uptoBulkEntry {H : Type} : Lit × DataW H → Nat
  | (.string bytes, d) => bytes.length + uptoBulk d + 1
  | (_, d) => uptoBulk d + 1
 end
def uptoSmall : (H : Type) → List (DataW H) → Bool := fun _ ds => decide (uptoBulkAll ds ≤ 1048576)
def OpenSpec.upto (s : _root_.Go.ChangeSpec) : _root_.Go.OpenSpec := { _root_.Go.OpenSpec.ofChange s with cond := some uptoSmall }

/-- 'isthmuslaw03.MontShared', WHERE WHAT IT READS IS OF BULK AT MOST 1048576: true; the input reads as it did. -/
def montSharedUptoRow : OpenClaim := { program := "ythpknhpbnpaghaa", sum := "aecc6e49dbaaa611fb7934c7a2935e12c2585f5f2c3678c8e0ef958e94409395", func := "isthmus/isthmuslaw03.MontShared", spec := "montShared", inPlace := ["math/bits.Add64"], recurses := true, apart := false, narrowed := true }
def MontSharedUptoSaid : Prop := montSharedUptoRow.holds Try.pinned (OpenSpec.upto montSharedSpec)

/-- 'isthmuslaw03.MontBoth', WHERE WHAT IT READS IS OF BULK AT MOST 1048576: true; the input reads as it did. -/
def montBothUptoRow : OpenClaim := { program := "ythpknhpbnpaghaa", sum := "aecc6e49dbaaa611fb7934c7a2935e12c2585f5f2c3678c8e0ef958e94409395", func := "isthmus/isthmuslaw03.MontBoth", spec := "montBoth", inPlace := ["math/bits.Add64"], recurses := true, apart := false, narrowed := true }
def MontBothUptoSaid : Prop := montBothUptoRow.holds Try.pinned (OpenSpec.upto montBothSpec)

/-- 'isthmuslaw03.MontRow', WHERE WHAT IT READS IS OF BULK AT MOST 1048576: true; the input reads as it did. -/
def montRowUptoRow : OpenClaim := { program := "ythpknhpbnpaghaa", sum := "aecc6e49dbaaa611fb7934c7a2935e12c2585f5f2c3678c8e0ef958e94409395", func := "isthmus/isthmuslaw03.MontRow", spec := "montRow", inPlace := ["math/bits.Add64"], recurses := true, apart := false, narrowed := true }
def MontRowUptoSaid : Prop := montRowUptoRow.holds Try.pinned (OpenSpec.upto montRowSpec)

/-- 'isthmuslaw03.MontKeys', WHERE WHAT IT READS IS OF BULK AT MOST 1048576: true; the input reads as it did. -/
def montKeysUptoRow : OpenClaim := { program := "ythpknhpbnpaghaa", sum := "aecc6e49dbaaa611fb7934c7a2935e12c2585f5f2c3678c8e0ef958e94409395", func := "isthmus/isthmuslaw03.MontKeys", spec := "montKeys", inPlace := ["math/bits.Add64"], recurses := true, apart := false, narrowed := true }
def MontKeysUptoSaid : Prop := montKeysUptoRow.holds Try.pinned (OpenSpec.upto montKeysSpec)

end Rows
end Go.Proofs.Ythpknhpbnpaghaa
