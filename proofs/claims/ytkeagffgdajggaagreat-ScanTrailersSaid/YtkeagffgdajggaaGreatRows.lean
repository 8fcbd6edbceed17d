/-
  NARROWER THAN 'FOR EVERY INPUT', by the rows' own cells (each row's printed sentence says how): ViewDocs: loops · ViewTurns: loops · ViewNumbers: loops.
  DERIVED. THE GIVEN ROWS OF THIS SEAT. 5 by the template 'for every input the law returns true; each argument reads behind the call as it read before'; 0 by the template 'total and deterministic' (their statements: YtkeagffgdajggaaGreatTotals.lean).
  GIVEN WITH THE SEED: the statements are not yours to turn. If you find one false, say at which input.
  Laid BY PROGRAM, IN A SANDBOX (cutbox-rows.mjs): the forced cells as the released guide's own fill.sh prints them over the translation 68d9d8901efc5e6e… (all of the seat's roots in one cut). By AI agents, Wed Nov 11 2026. No macro, syntax, notation, axiom, sorry.
-/
import Derived.Test.YtkeagffgdajggaaGreatChecked
import GoSem.Claim
import GoSem.ClaimJoined
import GoSem.ClaimMapViews
import Derived.JoinedTies
import Derived.KernelRfl
namespace Go.Proofs.YtkeagffgdajggaaGreat
/- THE CELL 'sum', in the pinned program and in every row, IS THE sha256 OF THE DUMP (.gsa) THAT YtkeagffgdajggaaGreatProg.lean LOADS. Nothing in Lean hashes anything: it is a label: what it is worth is what the hold of that sum in a sandbox is worth. -/
noncomputable def Tryz.pinned : Pinned := { name := "ytkeagffgdajggaagreat", sum := "68d9d8901efc5e6ec54e21fac3c3938aa250d8203f3f96f35bc073ad943ae2e1", checked := Tryz.checked }
namespace Rows
def none {H : Type} : Left H := { results := [], args := [] }

/-- 'catchwordlaw18.ScanObjects': WHATEVER THE INPUT: true; the input reads as it did. -/
def scanObjectsSpec : ChangeSpec := { name := "scanObjects", fn := fun _ => fun
  | [d] => { results := [.lit (.bool true)], args := [d] }
  | _ => none }
def scanObjectsRow : OpenClaim := { program := "ytkeagffgdajggaagreat", sum := "68d9d8901efc5e6ec54e21fac3c3938aa250d8203f3f96f35bc073ad943ae2e1", func := "catchword/catchwordlaw18.ScanObjects", spec := "scanObjects", inPlace := ["internal/bytealg.IndexByteString", "internal/bytealg.IndexString", "internal/abi.NoEscape", "internal/bytealg.IndexByte"], unfollowed := true, recurses := true, named := ["internal/bytealg.MaxLen"], apart := false }
def ScanObjectsSaid : Prop := scanObjectsRow.holds Tryz.pinned (OpenSpec.ofChange scanObjectsSpec)

/-- ITS FALSE NEIGHBOUR: 'it returns false'. Refute it at one input. -/
def scanObjectsWrong : ChangeSpec := { name := "scanObjects", fn := fun _ => fun
  | [d] => { results := [.lit (.bool false)], args := [d] }
  | _ => none }
def ScanObjectsWrongFalsely : Prop := scanObjectsRow.holds Tryz.pinned (OpenSpec.ofChange scanObjectsWrong)

/-- 'catchwordlaw18.ScanTrailers': WHATEVER THE INPUT: true; the input reads as it did. -/
def scanTrailersSpec : ChangeSpec := { name := "scanTrailers", fn := fun _ => fun
  | [d] => { results := [.lit (.bool true)], args := [d] }
  | _ => none }
def scanTrailersRow : OpenClaim := { program := "ytkeagffgdajggaagreat", sum := "68d9d8901efc5e6ec54e21fac3c3938aa250d8203f3f96f35bc073ad943ae2e1", func := "catchword/catchwordlaw18.ScanTrailers", spec := "scanTrailers", inPlace := ["internal/bytealg.IndexByteString", "internal/bytealg.IndexString", "internal/abi.NoEscape", "internal/bytealg.IndexByte"], unfollowed := true, recurses := true, named := ["internal/bytealg.MaxLen"], apart := false }
def ScanTrailersSaid : Prop := scanTrailersRow.holds Tryz.pinned (OpenSpec.ofChange scanTrailersSpec)

/-- ITS FALSE NEIGHBOUR: 'it returns false'. Refute it at one input. -/
def scanTrailersWrong : ChangeSpec := { name := "scanTrailers", fn := fun _ => fun
  | [d] => { results := [.lit (.bool false)], args := [d] }
  | _ => none }
def ScanTrailersWrongFalsely : Prop := scanTrailersRow.holds Tryz.pinned (OpenSpec.ofChange scanTrailersWrong)

/-- 'catchwordlaw22.ViewDocs': WHATEVER THE INPUT: true; the input reads as it did. -/
def viewDocsSpec : ChangeSpec := { name := "viewDocs", fn := fun _ => fun
  | [d1, d2] => { results := [.lit (.bool true)], args := [d1, d2] }
  | _ => none }
def viewDocsRow : OpenClaim := { program := "ytkeagffgdajggaagreat", sum := "68d9d8901efc5e6ec54e21fac3c3938aa250d8203f3f96f35bc073ad943ae2e1", func := "catchword/catchwordlaw22.ViewDocs", spec := "viewDocs", inPlace := ["slices.overlaps[catchword/api.Value]", "internal/bytealg.IndexByteString", "internal/bytealg.IndexString", "internal/abi.NoEscape", "internal/bytealg.IndexByte", "internal/bytealg.abigen_runtime_cmpstring"], unfollowed := true, recurses := true, named := ["internal/bytealg.MaxLen"], loops := true, apart := false }
def ViewDocsSaid : Prop := viewDocsRow.holds Tryz.pinned (OpenSpec.ofChange viewDocsSpec)

/-- ITS FALSE NEIGHBOUR: 'it returns false'. Refute it at one input. -/
def viewDocsWrong : ChangeSpec := { name := "viewDocs", fn := fun _ => fun
  | [d1, d2] => { results := [.lit (.bool false)], args := [d1, d2] }
  | _ => none }
def ViewDocsWrongFalsely : Prop := viewDocsRow.holds Tryz.pinned (OpenSpec.ofChange viewDocsWrong)

/-- 'catchwordlaw22.ViewTurns': WHATEVER THE INPUT: true; the input reads as it did. -/
def viewTurnsSpec : ChangeSpec := { name := "viewTurns", fn := fun _ => fun
  | [d1, d2, d3] => { results := [.lit (.bool true)], args := [d1, d2, d3] }
  | _ => none }
def viewTurnsRow : OpenClaim := { program := "ytkeagffgdajggaagreat", sum := "68d9d8901efc5e6ec54e21fac3c3938aa250d8203f3f96f35bc073ad943ae2e1", func := "catchword/catchwordlaw22.ViewTurns", spec := "viewTurns", inPlace := ["slices.overlaps[catchword/api.Value]", "internal/bytealg.IndexByteString", "internal/bytealg.IndexString", "internal/abi.NoEscape", "internal/bytealg.IndexByte", "internal/bytealg.abigen_runtime_cmpstring"], unfollowed := true, recurses := true, named := ["internal/bytealg.MaxLen"], loops := true, apart := false }
def ViewTurnsSaid : Prop := viewTurnsRow.holds Tryz.pinned (OpenSpec.ofChange viewTurnsSpec)

/-- ITS FALSE NEIGHBOUR: 'it returns false'. Refute it at one input. -/
def viewTurnsWrong : ChangeSpec := { name := "viewTurns", fn := fun _ => fun
  | [d1, d2, d3] => { results := [.lit (.bool false)], args := [d1, d2, d3] }
  | _ => none }
def ViewTurnsWrongFalsely : Prop := viewTurnsRow.holds Tryz.pinned (OpenSpec.ofChange viewTurnsWrong)

/-- 'catchwordlaw22.ViewNumbers': WHATEVER THE INPUT: true; the input reads as it did. -/
def viewNumbersSpec : ChangeSpec := { name := "viewNumbers", fn := fun _ => fun
  | [d1, d2, d3] => { results := [.lit (.bool true)], args := [d1, d2, d3] }
  | _ => none }
def viewNumbersRow : OpenClaim := { program := "ytkeagffgdajggaagreat", sum := "68d9d8901efc5e6ec54e21fac3c3938aa250d8203f3f96f35bc073ad943ae2e1", func := "catchword/catchwordlaw22.ViewNumbers", spec := "viewNumbers", inPlace := ["slices.overlaps[catchword/api.Value]", "internal/bytealg.IndexByteString", "internal/bytealg.IndexString", "internal/abi.NoEscape", "internal/bytealg.IndexByte", "internal/bytealg.abigen_runtime_cmpstring"], unfollowed := true, recurses := true, named := ["internal/bytealg.MaxLen"], loops := true, apart := false }
def ViewNumbersSaid : Prop := viewNumbersRow.holds Tryz.pinned (OpenSpec.ofChange viewNumbersSpec)

/-- ITS FALSE NEIGHBOUR: 'it returns false'. Refute it at one input. -/
def viewNumbersWrong : ChangeSpec := { name := "viewNumbers", fn := fun _ => fun
  | [d1, d2, d3] => { results := [.lit (.bool false)], args := [d1, d2, d3] }
  | _ => none }
def ViewNumbersWrongFalsely : Prop := viewNumbersRow.holds Tryz.pinned (OpenSpec.ofChange viewNumbersWrong)

/- THE SECOND FORM. 'bulk': how many values and letters a reading holds, each counted each time it is reached (what is shared counts as often as it is met; a slice's spare places count too). A statement '..UptoSaid' is the law's where the arguments, and the package variables that the reading takes, are together of bulk at most 1048576: NARROWER than '..Said'. Prove '..Said' where nothing that the law and all that it calls make is longer than what came in: it says more and counts as full. Else prove '..UptoSaid'. A law counts once. -/
mutual
def uptoBulk {H : Type} : DataW H → Nat
  | .lit (.string bytes) => bytes.length + 1
  | .lit _ => 1
  | .nil => 1
  | .ptr d => uptoBulk d + 1
  | .slice elems spare => uptoBulkAll elems + uptoBulkAll spare + 1
  | .agg parts => uptoBulkAll parts + 1
  | .iface _ d => uptoBulk d + 1
  | .map entries => uptoBulkEntries entries + 1
  | .held _ => 1
def uptoBulkAll {H : Type} : List (DataW H) → Nat
  | [] => 0
  | d :: r => uptoBulk d + uptoBulkAll r
def uptoBulkEntries {H : Type} : List (Lit × DataW H) → Nat
  | [] => 0
  | x :: r => uptoBulkEntry x + uptoBulkEntries r
def uptoBulkEntry {H : Type} : Lit × DataW H → Nat
  | (.string bytes, d) => bytes.length + uptoBulk d + 1
  | (_, d) => uptoBulk d + 1
 end
def uptoSmall : (H : Type) → List (DataW H) → Bool := fun _ ds => decide (uptoBulkAll ds ≤ 1048576)
def OpenSpec.upto (s : _root_.Go.ChangeSpec) : _root_.Go.OpenSpec := { _root_.Go.OpenSpec.ofChange s with cond := some uptoSmall }

/-- 'catchwordlaw18.ScanObjects', WHERE WHAT IT READS IS OF BULK AT MOST 1048576: true; the input reads as it did. -/
def scanObjectsUptoRow : OpenClaim := { program := "ytkeagffgdajggaagreat", sum := "68d9d8901efc5e6ec54e21fac3c3938aa250d8203f3f96f35bc073ad943ae2e1", func := "catchword/catchwordlaw18.ScanObjects", spec := "scanObjects", inPlace := ["internal/bytealg.IndexByteString", "internal/bytealg.IndexString", "internal/abi.NoEscape", "internal/bytealg.IndexByte"], unfollowed := true, recurses := true, named := ["internal/bytealg.MaxLen"], apart := false, narrowed := true }
def ScanObjectsUptoSaid : Prop := scanObjectsUptoRow.holds Tryz.pinned (OpenSpec.upto scanObjectsSpec)

/-- 'catchwordlaw18.ScanTrailers', WHERE WHAT IT READS IS OF BULK AT MOST 1048576: true; the input reads as it did. -/
def scanTrailersUptoRow : OpenClaim := { program := "ytkeagffgdajggaagreat", sum := "68d9d8901efc5e6ec54e21fac3c3938aa250d8203f3f96f35bc073ad943ae2e1", func := "catchword/catchwordlaw18.ScanTrailers", spec := "scanTrailers", inPlace := ["internal/bytealg.IndexByteString", "internal/bytealg.IndexString", "internal/abi.NoEscape", "internal/bytealg.IndexByte"], unfollowed := true, recurses := true, named := ["internal/bytealg.MaxLen"], apart := false, narrowed := true }
def ScanTrailersUptoSaid : Prop := scanTrailersUptoRow.holds Tryz.pinned (OpenSpec.upto scanTrailersSpec)

/-- 'catchwordlaw22.ViewDocs', WHERE WHAT IT READS IS OF BULK AT MOST 1048576: true; the input reads as it did. -/
def viewDocsUptoRow : OpenClaim := { program := "ytkeagffgdajggaagreat", sum := "68d9d8901efc5e6ec54e21fac3c3938aa250d8203f3f96f35bc073ad943ae2e1", func := "catchword/catchwordlaw22.ViewDocs", spec := "viewDocs", inPlace := ["slices.overlaps[catchword/api.Value]", "internal/bytealg.IndexByteString", "internal/bytealg.IndexString", "internal/abi.NoEscape", "internal/bytealg.IndexByte", "internal/bytealg.abigen_runtime_cmpstring"], unfollowed := true, recurses := true, named := ["internal/bytealg.MaxLen"], loops := true, apart := false, narrowed := true }
def ViewDocsUptoSaid : Prop := viewDocsUptoRow.holds Tryz.pinned (OpenSpec.upto viewDocsSpec)

/-- 'catchwordlaw22.ViewTurns', WHERE WHAT IT READS IS OF BULK AT MOST 1048576: true; the input reads as it did. -/
def viewTurnsUptoRow : OpenClaim := { program := "ytkeagffgdajggaagreat", sum := "68d9d8901efc5e6ec54e21fac3c3938aa250d8203f3f96f35bc073ad943ae2e1", func := "catchword/catchwordlaw22.ViewTurns", spec := "viewTurns", inPlace := ["slices.overlaps[catchword/api.Value]", "internal/bytealg.IndexByteString", "internal/bytealg.IndexString", "internal/abi.NoEscape", "internal/bytealg.IndexByte", "internal/bytealg.abigen_runtime_cmpstring"], unfollowed := true, recurses := true, named := ["internal/bytealg.MaxLen"], loops := true, apart := false, narrowed := true }
def ViewTurnsUptoSaid : Prop := viewTurnsUptoRow.holds Tryz.pinned (OpenSpec.upto viewTurnsSpec)

/-- 'catchwordlaw22.ViewNumbers', WHERE WHAT IT READS IS OF BULK AT MOST 1048576: true; the input reads as it did. -/
def viewNumbersUptoRow : OpenClaim := { program := "ytkeagffgdajggaagreat", sum := "68d9d8901efc5e6ec54e21fac3c3938aa250d8203f3f96f35bc073ad943ae2e1", func := "catchword/catchwordlaw22.ViewNumbers", spec := "viewNumbers", inPlace := ["slices.overlaps[catchword/api.Value]", "internal/bytealg.IndexByteString", "internal/bytealg.IndexString", "internal/abi.NoEscape", "internal/bytealg.IndexByte", "internal/bytealg.abigen_runtime_cmpstring"], unfollowed := true, recurses := true, named := ["internal/bytealg.MaxLen"], loops := true, apart := false, narrowed := true }
def ViewNumbersUptoSaid : Prop := viewNumbersUptoRow.holds Tryz.pinned (OpenSpec.upto viewNumbersSpec)

end Rows
end Go.Proofs.YtkeagffgdajggaaGreat
