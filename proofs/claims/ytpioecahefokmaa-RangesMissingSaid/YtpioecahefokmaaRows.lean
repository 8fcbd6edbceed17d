/-
  NARROWER THAN 'FOR EVERY INPUT', by the rows' own cells (each row's printed sentence says how): ReachNext: loops · ReachClosed: loops · TreeKinds: loops · TreeWay: loops.
  DERIVED. THE GIVEN ROWS OF THIS SEAT. 8 by the template 'for every input the law returns true; each argument reads behind the call as it read before'; 0 by the template 'total and deterministic' (their statements: YtpioecahefokmaaTotals.lean).
  GIVEN WITH THE SEED: the statements are not yours to turn. If you find one false, say at which input.
  Laid BY PROGRAM, IN A SANDBOX (cutbox-rows.mjs): the forced cells as the released guide's own fill.sh prints them over the translation 7e1a050199e3521d… (all of the seat's roots in one cut). By AI agents, Wed Nov 11 2026. No macro, syntax, notation, axiom, sorry.
-/
import Derived.Test.YtpioecahefokmaaChecked
import GoSem.Claim
import GoSem.ClaimJoined
import GoSem.ClaimMapViews
import Derived.JoinedTies
import Derived.KernelRfl
namespace Go.Proofs.Ytpioecahefokmaa
/- THE CELL 'sum', in the pinned program and in every row, IS THE sha256 OF THE DUMP (.gsa) THAT YtpioecahefokmaaProg.lean LOADS. Nothing in Lean hashes anything: it is a label: what it is worth is what the hold of that sum in a sandbox is worth. -/
noncomputable def Try.pinned : Pinned := { name := "ytpioecahefokmaa", sum := "7e1a050199e3521d827d33040c65caf5c21f72e502115cf7689de824c45500fb", checked := Try.checked }
namespace Rows
def none {H : Type} : Left H := { results := [], args := [] }

/-- 'catchwordlaw21.ReachNext': WHATEVER THE INPUT: true; the input reads as it did. -/
def reachNextSpec : ChangeSpec := { name := "reachNext", fn := fun _ => fun
  | [d1, d2] => { results := [.lit (.bool true)], args := [d1, d2] }
  | _ => none }
def reachNextRow : OpenClaim := { program := "ytpioecahefokmaa", sum := "7e1a050199e3521d827d33040c65caf5c21f72e502115cf7689de824c45500fb", func := "catchword/catchwordlaw21.ReachNext", spec := "reachNext", inPlace := ["slices.overlaps[catchword/api.Value]"], unfollowed := true, recurses := true, loops := true, apart := false }
def ReachNextSaid : Prop := reachNextRow.holds Try.pinned (OpenSpec.ofChange reachNextSpec)

/-- ITS FALSE NEIGHBOUR: 'it returns false'. Refute it at one input. -/
def reachNextWrong : ChangeSpec := { name := "reachNext", fn := fun _ => fun
  | [d1, d2] => { results := [.lit (.bool false)], args := [d1, d2] }
  | _ => none }
def ReachNextWrongFalsely : Prop := reachNextRow.holds Try.pinned (OpenSpec.ofChange reachNextWrong)

/-- 'catchwordlaw21.ReachClosed': WHATEVER THE INPUT: true; the input reads as it did. -/
def reachClosedSpec : ChangeSpec := { name := "reachClosed", fn := fun _ => fun
  | [d1, d2] => { results := [.lit (.bool true)], args := [d1, d2] }
  | _ => none }
def reachClosedRow : OpenClaim := { program := "ytpioecahefokmaa", sum := "7e1a050199e3521d827d33040c65caf5c21f72e502115cf7689de824c45500fb", func := "catchword/catchwordlaw21.ReachClosed", spec := "reachClosed", inPlace := ["slices.overlaps[catchword/api.Value]"], unfollowed := true, recurses := true, loops := true, apart := false }
def ReachClosedSaid : Prop := reachClosedRow.holds Try.pinned (OpenSpec.ofChange reachClosedSpec)

/-- ITS FALSE NEIGHBOUR: 'it returns false'. Refute it at one input. -/
def reachClosedWrong : ChangeSpec := { name := "reachClosed", fn := fun _ => fun
  | [d1, d2] => { results := [.lit (.bool false)], args := [d1, d2] }
  | _ => none }
def ReachClosedWrongFalsely : Prop := reachClosedRow.holds Try.pinned (OpenSpec.ofChange reachClosedWrong)

/-- 'catchwordlaw20.TreeKinds': WHATEVER THE INPUT: true; the input reads as it did. -/
def treeKindsSpec : ChangeSpec := { name := "treeKinds", fn := fun _ => fun
  | [d] => { results := [.lit (.bool true)], args := [d] }
  | _ => none }
def treeKindsRow : OpenClaim := { program := "ytpioecahefokmaa", sum := "7e1a050199e3521d827d33040c65caf5c21f72e502115cf7689de824c45500fb", func := "catchword/catchwordlaw20.TreeKinds", spec := "treeKinds", inPlace := ["slices.overlaps[catchword/api.Value]"], unfollowed := true, recurses := true, loops := true, apart := false }
def TreeKindsSaid : Prop := treeKindsRow.holds Try.pinned (OpenSpec.ofChange treeKindsSpec)

/-- ITS FALSE NEIGHBOUR: 'it returns false'. Refute it at one input. -/
def treeKindsWrong : ChangeSpec := { name := "treeKinds", fn := fun _ => fun
  | [d] => { results := [.lit (.bool false)], args := [d] }
  | _ => none }
def TreeKindsWrongFalsely : Prop := treeKindsRow.holds Try.pinned (OpenSpec.ofChange treeKindsWrong)

/-- 'catchwordlaw20.TreeWay': WHATEVER THE INPUT: true; the input reads as it did. -/
def treeWaySpec : ChangeSpec := { name := "treeWay", fn := fun _ => fun
  | [d1, d2] => { results := [.lit (.bool true)], args := [d1, d2] }
  | _ => none }
def treeWayRow : OpenClaim := { program := "ytpioecahefokmaa", sum := "7e1a050199e3521d827d33040c65caf5c21f72e502115cf7689de824c45500fb", func := "catchword/catchwordlaw20.TreeWay", spec := "treeWay", inPlace := ["slices.overlaps[catchword/api.Value]", "internal/bytealg.abigen_runtime_cmpstring"], unfollowed := true, recurses := true, loops := true, apart := false }
def TreeWaySaid : Prop := treeWayRow.holds Try.pinned (OpenSpec.ofChange treeWaySpec)

/-- ITS FALSE NEIGHBOUR: 'it returns false'. Refute it at one input. -/
def treeWayWrong : ChangeSpec := { name := "treeWay", fn := fun _ => fun
  | [d1, d2] => { results := [.lit (.bool false)], args := [d1, d2] }
  | _ => none }
def TreeWayWrongFalsely : Prop := treeWayRow.holds Try.pinned (OpenSpec.ofChange treeWayWrong)

/-- 'catchwordlaw35.RangesAhead': WHATEVER THE INPUT: true; the input reads as it did. -/
def rangesAheadSpec : ChangeSpec := { name := "rangesAhead", fn := fun _ => fun
  | [d] => { results := [.lit (.bool true)], args := [d] }
  | _ => none }
def rangesAheadRow : OpenClaim := { program := "ytpioecahefokmaa", sum := "7e1a050199e3521d827d33040c65caf5c21f72e502115cf7689de824c45500fb", func := "catchword/catchwordlaw35.RangesAhead", spec := "rangesAhead", unfollowed := true, recurses := true, apart := false }
def RangesAheadSaid : Prop := rangesAheadRow.holds Try.pinned (OpenSpec.ofChange rangesAheadSpec)

/-- ITS FALSE NEIGHBOUR: 'it returns false'. Refute it at one input. -/
def rangesAheadWrong : ChangeSpec := { name := "rangesAhead", fn := fun _ => fun
  | [d] => { results := [.lit (.bool false)], args := [d] }
  | _ => none }
def RangesAheadWrongFalsely : Prop := rangesAheadRow.holds Try.pinned (OpenSpec.ofChange rangesAheadWrong)

/-- 'catchwordlaw35.RangesPages': WHATEVER THE INPUT: true; the input reads as it did. -/
def rangesPagesSpec : ChangeSpec := { name := "rangesPages", fn := fun _ => fun
  | [d1, d2, d3] => { results := [.lit (.bool true)], args := [d1, d2, d3] }
  | _ => none }
def rangesPagesRow : OpenClaim := { program := "ytpioecahefokmaa", sum := "7e1a050199e3521d827d33040c65caf5c21f72e502115cf7689de824c45500fb", func := "catchword/catchwordlaw35.RangesPages", spec := "rangesPages", unfollowed := true, recurses := true, apart := false }
def RangesPagesSaid : Prop := rangesPagesRow.holds Try.pinned (OpenSpec.ofChange rangesPagesSpec)

/-- ITS FALSE NEIGHBOUR: 'it returns false'. Refute it at one input. -/
def rangesPagesWrong : ChangeSpec := { name := "rangesPages", fn := fun _ => fun
  | [d1, d2, d3] => { results := [.lit (.bool false)], args := [d1, d2, d3] }
  | _ => none }
def RangesPagesWrongFalsely : Prop := rangesPagesRow.holds Try.pinned (OpenSpec.ofChange rangesPagesWrong)

/-- 'catchwordlaw35.RangesChunks': WHATEVER THE INPUT: true; the input reads as it did. -/
def rangesChunksSpec : ChangeSpec := { name := "rangesChunks", fn := fun _ => fun
  | [d1, d2, d3] => { results := [.lit (.bool true)], args := [d1, d2, d3] }
  | _ => none }
def rangesChunksRow : OpenClaim := { program := "ytpioecahefokmaa", sum := "7e1a050199e3521d827d33040c65caf5c21f72e502115cf7689de824c45500fb", func := "catchword/catchwordlaw35.RangesChunks", spec := "rangesChunks", unfollowed := true, recurses := true, apart := false }
def RangesChunksSaid : Prop := rangesChunksRow.holds Try.pinned (OpenSpec.ofChange rangesChunksSpec)

/-- ITS FALSE NEIGHBOUR: 'it returns false'. Refute it at one input. -/
def rangesChunksWrong : ChangeSpec := { name := "rangesChunks", fn := fun _ => fun
  | [d1, d2, d3] => { results := [.lit (.bool false)], args := [d1, d2, d3] }
  | _ => none }
def RangesChunksWrongFalsely : Prop := rangesChunksRow.holds Try.pinned (OpenSpec.ofChange rangesChunksWrong)

/-- 'catchwordlaw35.RangesMissing': WHATEVER THE INPUT: true; the input reads as it did. -/
def rangesMissingSpec : ChangeSpec := { name := "rangesMissing", fn := fun _ => fun
  | [d1, d2, d3] => { results := [.lit (.bool true)], args := [d1, d2, d3] }
  | _ => none }
def rangesMissingRow : OpenClaim := { program := "ytpioecahefokmaa", sum := "7e1a050199e3521d827d33040c65caf5c21f72e502115cf7689de824c45500fb", func := "catchword/catchwordlaw35.RangesMissing", spec := "rangesMissing", unfollowed := true, recurses := true, apart := false }
def RangesMissingSaid : Prop := rangesMissingRow.holds Try.pinned (OpenSpec.ofChange rangesMissingSpec)

/-- ITS FALSE NEIGHBOUR: 'it returns false'. Refute it at one input. -/
def rangesMissingWrong : ChangeSpec := { name := "rangesMissing", fn := fun _ => fun
  | [d1, d2, d3] => { results := [.lit (.bool false)], args := [d1, d2, d3] }
  | _ => none }
def RangesMissingWrongFalsely : Prop := rangesMissingRow.holds Try.pinned (OpenSpec.ofChange rangesMissingWrong)

/- THE SECOND FORM. 'bulk': how many values and letters a reading holds, each counted each time it is reached (what is shared counts as often as it is met; a slice's spare places count too). A statement '..UptoSaid' is the law's where the arguments, and the package variables that the reading takes, are together of bulk at most 1048576: NARROWER than '..Said'. Prove '..Said' where nothing that the law and all that it calls make is longer than what came in: it says more and counts as full. Else prove '..UptoSaid'. A law counts once. -/
mutual
def uptoBulk {H : Type} : DataW H → Nat
  | .lit (.string bytes) => bytes.length + 1
  | .lit _ => 1
  | .nil => 1
  | .ptr d => uptoBulk d + 1
  | .slice elems spare => uptoBulkAll elems + uptoBulkAll spare + 1
  | .agg parts => uptoBulkAll parts + 1
  | .iface _ d => uptoBulk d + 1
  | .map entries => uptoBulkEntries entries + 1
  | .held _ => 1
def uptoBulkAll {H : Type} : List (DataW H) → Nat
  | [] => 0
  | d :: r => uptoBulk d + uptoBulkAll r
def uptoBulkEntries {H : Type} : List (Lit × DataW H) → Nat
  | [] => 0
  | x :: r => uptoBulkEntry x + uptoBulkEntries r
def uptoBulkEntry {H : Type} : Lit × DataW H → Nat
  | (.string bytes, d) => bytes.length + uptoBulk d + 1
  | (_, d) => uptoBulk d + 1
 end
def uptoSmall : (H : Type) → List (DataW H) → Bool := fun _ ds => decide (uptoBulkAll ds ≤ 1048576)
def OpenSpec.upto (s : _root_.Go.ChangeSpec) : _root_.Go.OpenSpec := { _root_.Go.OpenSpec.ofChange s with cond := some uptoSmall }

/-- 'catchwordlaw21.ReachNext', WHERE WHAT IT READS IS OF BULK AT MOST 1048576: true; the input reads as it did. -/
def reachNextUptoRow : OpenClaim := { program := "ytpioecahefokmaa", sum := "7e1a050199e3521d827d33040c65caf5c21f72e502115cf7689de824c45500fb", func := "catchword/catchwordlaw21.ReachNext", spec := "reachNext", inPlace := ["slices.overlaps[catchword/api.Value]"], unfollowed := true, recurses := true, loops := true, apart := false, narrowed := true }
def ReachNextUptoSaid : Prop := reachNextUptoRow.holds Try.pinned (OpenSpec.upto reachNextSpec)

/-- 'catchwordlaw21.ReachClosed', WHERE WHAT IT READS IS OF BULK AT MOST 1048576: true; the input reads as it did. -/
def reachClosedUptoRow : OpenClaim := { program := "ytpioecahefokmaa", sum := "7e1a050199e3521d827d33040c65caf5c21f72e502115cf7689de824c45500fb", func := "catchword/catchwordlaw21.ReachClosed", spec := "reachClosed", inPlace := ["slices.overlaps[catchword/api.Value]"], unfollowed := true, recurses := true, loops := true, apart := false, narrowed := true }
def ReachClosedUptoSaid : Prop := reachClosedUptoRow.holds Try.pinned (OpenSpec.upto reachClosedSpec)

/-- 'catchwordlaw20.TreeKinds', WHERE WHAT IT READS IS OF BULK AT MOST 1048576: true; the input reads as it did. -/
def treeKindsUptoRow : OpenClaim := { program := "ytpioecahefokmaa", sum := "7e1a050199e3521d827d33040c65caf5c21f72e502115cf7689de824c45500fb", func := "catchword/catchwordlaw20.TreeKinds", spec := "treeKinds", inPlace := ["slices.overlaps[catchword/api.Value]"], unfollowed := true, recurses := true, loops := true, apart := false, narrowed := true }
def TreeKindsUptoSaid : Prop := treeKindsUptoRow.holds Try.pinned (OpenSpec.upto treeKindsSpec)

/-- 'catchwordlaw20.TreeWay', WHERE WHAT IT READS IS OF BULK AT MOST 1048576: true; the input reads as it did. -/
def treeWayUptoRow : OpenClaim := { program := "ytpioecahefokmaa", sum := "7e1a050199e3521d827d33040c65caf5c21f72e502115cf7689de824c45500fb", func := "catchword/catchwordlaw20.TreeWay", spec := "treeWay", inPlace := ["slices.overlaps[catchword/api.Value]", "internal/bytealg.abigen_runtime_cmpstring"], unfollowed := true, recurses := true, loops := true, apart := false, narrowed := true }
def TreeWayUptoSaid : Prop := treeWayUptoRow.holds Try.pinned (OpenSpec.upto treeWaySpec)

/-- 'catchwordlaw35.RangesAhead', WHERE WHAT IT READS IS OF BULK AT MOST 1048576: true; the input reads as it did. -/
def rangesAheadUptoRow : OpenClaim := { program := "ytpioecahefokmaa", sum := "7e1a050199e3521d827d33040c65caf5c21f72e502115cf7689de824c45500fb", func := "catchword/catchwordlaw35.RangesAhead", spec := "rangesAhead", unfollowed := true, recurses := true, apart := false, narrowed := true }
def RangesAheadUptoSaid : Prop := rangesAheadUptoRow.holds Try.pinned (OpenSpec.upto rangesAheadSpec)

/-- 'catchwordlaw35.RangesPages', WHERE WHAT IT READS IS OF BULK AT MOST 1048576: true; the input reads as it did. -/
def rangesPagesUptoRow : OpenClaim := { program := "ytpioecahefokmaa", sum := "7e1a050199e3521d827d33040c65caf5c21f72e502115cf7689de824c45500fb", func := "catchword/catchwordlaw35.RangesPages", spec := "rangesPages", unfollowed := true, recurses := true, apart := false, narrowed := true }
def RangesPagesUptoSaid : Prop := rangesPagesUptoRow.holds Try.pinned (OpenSpec.upto rangesPagesSpec)

/-- 'catchwordlaw35.RangesChunks', WHERE WHAT IT READS IS OF BULK AT MOST 1048576: true; the input reads as it did. -/
def rangesChunksUptoRow : OpenClaim := { program := "ytpioecahefokmaa", sum := "7e1a050199e3521d827d33040c65caf5c21f72e502115cf7689de824c45500fb", func := "catchword/catchwordlaw35.RangesChunks", spec := "rangesChunks", unfollowed := true, recurses := true, apart := false, narrowed := true }
def RangesChunksUptoSaid : Prop := rangesChunksUptoRow.holds Try.pinned (OpenSpec.upto rangesChunksSpec)

/-- 'catchwordlaw35.RangesMissing', WHERE WHAT IT READS IS OF BULK AT MOST 1048576: true; the input reads as it did. -/
def rangesMissingUptoRow : OpenClaim := { program := "ytpioecahefokmaa", sum := "7e1a050199e3521d827d33040c65caf5c21f72e502115cf7689de824c45500fb", func := "catchword/catchwordlaw35.RangesMissing", spec := "rangesMissing", unfollowed := true, recurses := true, apart := false, narrowed := true }
def RangesMissingUptoSaid : Prop := rangesMissingUptoRow.holds Try.pinned (OpenSpec.upto rangesMissingSpec)

end Rows
end Go.Proofs.Ytpioecahefokmaa
