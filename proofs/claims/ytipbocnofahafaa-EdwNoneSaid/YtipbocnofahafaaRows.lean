/-
  No cell of these rows narrows 'for every input' (looked for: loops, veiled, ifaces, maps, wideKeys, modest, calm, conditions, laid).
  DERIVED. THE GIVEN ROWS OF THIS SEAT. 5 by the template 'for every input the law returns true; each argument reads behind the call as it read before'; 0 by the template 'total and deterministic' (their statements: YtipbocnofahafaaTotals.lean).
  GIVEN WITH THE SEED: the statements are not yours to turn. If you find one false, say at which input.
  Laid BY PROGRAM, IN A SANDBOX (cutbox-rows.mjs): the forced cells as the released guide's own fill.sh prints them over the translation 0c2e139486ac73b6… (all of the seat's roots in one cut). By AI agents, Wed Nov 11 2026. No macro, syntax, notation, axiom, sorry.
-/
import Derived.Test.YtipbocnofahafaaChecked
import GoSem.Claim
import GoSem.ClaimJoined
import GoSem.ClaimMapViews
import Derived.JoinedTies
import Derived.KernelRfl
namespace Go.Proofs.Ytipbocnofahafaa
/- THE CELL 'sum', in the pinned program and in every row, IS THE sha256 OF THE DUMP (.gsa) THAT YtipbocnofahafaaProg.lean LOADS. Nothing in Lean hashes anything: it is a label: what it is worth is what the hold of that sum in a sandbox is worth. -/
noncomputable def Try.pinned : Pinned := { name := "ytipbocnofahafaa", sum := "0c2e139486ac73b6e766500148db8f062581b4c4ba24108fbfad6e79001eef6e", checked := Try.checked }
namespace Rows
def none {H : Type} : Left H := { results := [], args := [] }

/-- 'isthmuslaw04.EdwReads': WHATEVER THE INPUT: true; the input reads as it did. -/
def edwReadsSpec : ChangeSpec := { name := "edwReads", fn := fun _ => fun
  | [d] => { results := [.lit (.bool true)], args := [d] }
  | _ => none }
def edwReadsRow : OpenClaim := { program := "ytipbocnofahafaa", sum := "0c2e139486ac73b6e766500148db8f062581b4c4ba24108fbfad6e79001eef6e", func := "isthmus/isthmuslaw04.EdwReads", spec := "edwReads", inPlace := ["internal/abi.NoEscape", "internal/bytealg.MakeNoZero", "math/bits.Add64"], recurses := true, apart := false }
def EdwReadsSaid : Prop := edwReadsRow.holds Try.pinned (OpenSpec.ofChange edwReadsSpec)

/-- ITS FALSE NEIGHBOUR: 'it returns false'. Refute it at one input. -/
def edwReadsWrong : ChangeSpec := { name := "edwReads", fn := fun _ => fun
  | [d] => { results := [.lit (.bool false)], args := [d] }
  | _ => none }
def EdwReadsWrongFalsely : Prop := edwReadsRow.holds Try.pinned (OpenSpec.ofChange edwReadsWrong)

/-- 'isthmuslaw04.EdwRows': WHATEVER THE INPUT: true; the input reads as it did. -/
def edwRowsSpec : ChangeSpec := { name := "edwRows", fn := fun _ => fun
  | [d1, d2] => { results := [.lit (.bool true)], args := [d1, d2] }
  | _ => none }
def edwRowsRow : OpenClaim := { program := "ytipbocnofahafaa", sum := "0c2e139486ac73b6e766500148db8f062581b4c4ba24108fbfad6e79001eef6e", func := "isthmus/isthmuslaw04.EdwRows", spec := "edwRows", inPlace := ["math/bits.Add64", "internal/abi.NoEscape", "internal/bytealg.MakeNoZero"], recurses := true, apart := false }
def EdwRowsSaid : Prop := edwRowsRow.holds Try.pinned (OpenSpec.ofChange edwRowsSpec)

/-- ITS FALSE NEIGHBOUR: 'it returns false'. Refute it at one input. -/
def edwRowsWrong : ChangeSpec := { name := "edwRows", fn := fun _ => fun
  | [d1, d2] => { results := [.lit (.bool false)], args := [d1, d2] }
  | _ => none }
def EdwRowsWrongFalsely : Prop := edwRowsRow.holds Try.pinned (OpenSpec.ofChange edwRowsWrong)

/-- 'isthmuslaw04.EdwReckons': WHATEVER THE INPUT: true; the input reads as it did. -/
def edwReckonsSpec : ChangeSpec := { name := "edwReckons", fn := fun _ => fun
  | [d1, d2, d3] => { results := [.lit (.bool true)], args := [d1, d2, d3] }
  | _ => none }
def edwReckonsRow : OpenClaim := { program := "ytipbocnofahafaa", sum := "0c2e139486ac73b6e766500148db8f062581b4c4ba24108fbfad6e79001eef6e", func := "isthmus/isthmuslaw04.EdwReckons", spec := "edwReckons", inPlace := ["math/bits.Add64", "math/bits.Sub64", "internal/abi.NoEscape", "internal/bytealg.MakeNoZero"], recurses := true, apart := false }
def EdwReckonsSaid : Prop := edwReckonsRow.holds Try.pinned (OpenSpec.ofChange edwReckonsSpec)

/-- ITS FALSE NEIGHBOUR: 'it returns false'. Refute it at one input. -/
def edwReckonsWrong : ChangeSpec := { name := "edwReckons", fn := fun _ => fun
  | [d1, d2, d3] => { results := [.lit (.bool false)], args := [d1, d2, d3] }
  | _ => none }
def EdwReckonsWrongFalsely : Prop := edwReckonsRow.holds Try.pinned (OpenSpec.ofChange edwReckonsWrong)

/-- 'isthmuslaw04.EdwNone': WHATEVER THE INPUT: true; the input reads as it did. -/
def edwNoneSpec : ChangeSpec := { name := "edwNone", fn := fun _ => fun
  | [d] => { results := [.lit (.bool true)], args := [d] }
  | _ => none }
def edwNoneRow : OpenClaim := { program := "ytipbocnofahafaa", sum := "0c2e139486ac73b6e766500148db8f062581b4c4ba24108fbfad6e79001eef6e", func := "isthmus/isthmuslaw04.EdwNone", spec := "edwNone", inPlace := ["math/bits.Sub64", "internal/abi.NoEscape", "internal/bytealg.MakeNoZero", "math/bits.Add64"], recurses := true, apart := false }
def EdwNoneSaid : Prop := edwNoneRow.holds Try.pinned (OpenSpec.ofChange edwNoneSpec)

/-- ITS FALSE NEIGHBOUR: 'it returns false'. Refute it at one input. -/
def edwNoneWrong : ChangeSpec := { name := "edwNone", fn := fun _ => fun
  | [d] => { results := [.lit (.bool false)], args := [d] }
  | _ => none }
def EdwNoneWrongFalsely : Prop := edwNoneRow.holds Try.pinned (OpenSpec.ofChange edwNoneWrong)

/-- 'isthmuslaw04.EdwLaws': WHATEVER THE INPUT: true; the input reads as it did. -/
def edwLawsSpec : ChangeSpec := { name := "edwLaws", fn := fun _ => fun
  | [d1, d2, d3, d4, d5] => { results := [.lit (.bool true)], args := [d1, d2, d3, d4, d5] }
  | _ => none }
def edwLawsRow : OpenClaim := { program := "ytipbocnofahafaa", sum := "0c2e139486ac73b6e766500148db8f062581b4c4ba24108fbfad6e79001eef6e", func := "isthmus/isthmuslaw04.EdwLaws", spec := "edwLaws", inPlace := ["math/bits.Add64", "math/bits.Sub64", "internal/abi.NoEscape", "internal/bytealg.MakeNoZero"], recurses := true, apart := false }
def EdwLawsSaid : Prop := edwLawsRow.holds Try.pinned (OpenSpec.ofChange edwLawsSpec)

/-- ITS FALSE NEIGHBOUR: 'it returns false'. Refute it at one input. -/
def edwLawsWrong : ChangeSpec := { name := "edwLaws", fn := fun _ => fun
  | [d1, d2, d3, d4, d5] => { results := [.lit (.bool false)], args := [d1, d2, d3, d4, d5] }
  | _ => none }
def EdwLawsWrongFalsely : Prop := edwLawsRow.holds Try.pinned (OpenSpec.ofChange edwLawsWrong)

/- THE SECOND FORM. 'bulk': how many values and letters a reading holds, each counted each time it is reached (what is shared counts as often as it is met; a slice's spare places count too). A statement '..UptoSaid' is the law's where the arguments, and the package variables that the reading takes, are together of bulk at most 1048576: NARROWER than '..Said'. Prove '..Said' where nothing that the law and all that it calls make is longer than what came in: it says more and counts as full. Else prove '..UptoSaid'. A law counts once. -/
mutual
def uptoBulk {H : Type} : DataW H → Nat
  | .lit (.string bytes) => bytes.length + 1
  | .lit _ => 1
  | .nil => 1
  | .ptr d => uptoBulk d + 1
  | .slice elems spare => uptoBulkAll elems + uptoBulkAll spare + 1
  | .agg parts => uptoBulkAll parts + 1
  | .iface _ d => uptoBulk d + 1
  | .map entries => uptoBulkEntries entries + 1
  | .held _ => 1
def uptoBulkAll {H : Type} : List (DataW H) → Nat
  | [] => 0
  | d :: r => uptoBulk d + uptoBulkAll r
def uptoBulkEntries {H : Type} : List (Lit × DataW H) → Nat
  | [] => 0
  | x :: r => uptoBulkEntry x + uptoBulkEntries r
def uptoBulkEntry {H : Type} : Lit × DataW H → Nat
  | (.string bytes, d) => bytes.length + uptoBulk d + 1
  | (_, d) => uptoBulk d + 1
 end
def uptoSmall : (H : Type) → List (DataW H) → Bool := fun _ ds => decide (uptoBulkAll ds ≤ 1048576)
def OpenSpec.upto (s : _root_.Go.ChangeSpec) : _root_.Go.OpenSpec := { _root_.Go.OpenSpec.ofChange s with cond := some uptoSmall }

/-- 'isthmuslaw04.EdwReads', WHERE WHAT IT READS IS OF BULK AT MOST 1048576: true; the input reads as it did. -/
def edwReadsUptoRow : OpenClaim := { program := "ytipbocnofahafaa", sum := "0c2e139486ac73b6e766500148db8f062581b4c4ba24108fbfad6e79001eef6e", func := "isthmus/isthmuslaw04.EdwReads", spec := "edwReads", inPlace := ["internal/abi.NoEscape", "internal/bytealg.MakeNoZero", "math/bits.Add64"], recurses := true, apart := false, narrowed := true }
def EdwReadsUptoSaid : Prop := edwReadsUptoRow.holds Try.pinned (OpenSpec.upto edwReadsSpec)

/-- 'isthmuslaw04.EdwRows', WHERE WHAT IT READS IS OF BULK AT MOST 1048576: true; the input reads as it did. -/
def edwRowsUptoRow : OpenClaim := { program := "ytipbocnofahafaa", sum := "0c2e139486ac73b6e766500148db8f062581b4c4ba24108fbfad6e79001eef6e", func := "isthmus/isthmuslaw04.EdwRows", spec := "edwRows", inPlace := ["math/bits.Add64", "internal/abi.NoEscape", "internal/bytealg.MakeNoZero"], recurses := true, apart := false, narrowed := true }
def EdwRowsUptoSaid : Prop := edwRowsUptoRow.holds Try.pinned (OpenSpec.upto edwRowsSpec)

/-- 'isthmuslaw04.EdwReckons', WHERE WHAT IT READS IS OF BULK AT MOST 1048576: true; the input reads as it did. -/
def edwReckonsUptoRow : OpenClaim := { program := "ytipbocnofahafaa", sum := "0c2e139486ac73b6e766500148db8f062581b4c4ba24108fbfad6e79001eef6e", func := "isthmus/isthmuslaw04.EdwReckons", spec := "edwReckons", inPlace := ["math/bits.Add64", "math/bits.Sub64", "internal/abi.NoEscape", "internal/bytealg.MakeNoZero"], recurses := true, apart := false, narrowed := true }
def EdwReckonsUptoSaid : Prop := edwReckonsUptoRow.holds Try.pinned (OpenSpec.upto edwReckonsSpec)

/-- 'isthmuslaw04.EdwNone', WHERE WHAT IT READS IS OF BULK AT MOST 1048576: true; the input reads as it did. -/
def edwNoneUptoRow : OpenClaim := { program := "ytipbocnofahafaa", sum := "0c2e139486ac73b6e766500148db8f062581b4c4ba24108fbfad6e79001eef6e", func := "isthmus/isthmuslaw04.EdwNone", spec := "edwNone", inPlace := ["math/bits.Sub64", "internal/abi.NoEscape", "internal/bytealg.MakeNoZero", "math/bits.Add64"], recurses := true, apart := false, narrowed := true }
def EdwNoneUptoSaid : Prop := edwNoneUptoRow.holds Try.pinned (OpenSpec.upto edwNoneSpec)

/-- 'isthmuslaw04.EdwLaws', WHERE WHAT IT READS IS OF BULK AT MOST 1048576: true; the input reads as it did. -/
def edwLawsUptoRow : OpenClaim := { program := "ytipbocnofahafaa", sum := "0c2e139486ac73b6e766500148db8f062581b4c4ba24108fbfad6e79001eef6e", func := "isthmus/isthmuslaw04.EdwLaws", spec := "edwLaws", inPlace := ["math/bits.Add64", "math/bits.Sub64", "internal/abi.NoEscape", "internal/bytealg.MakeNoZero"], recurses := true, apart := false, narrowed := true }
def EdwLawsUptoSaid : Prop := edwLawsUptoRow.holds Try.pinned (OpenSpec.upto edwLawsSpec)

end Rows
end Go.Proofs.Ytipbocnofahafaa
