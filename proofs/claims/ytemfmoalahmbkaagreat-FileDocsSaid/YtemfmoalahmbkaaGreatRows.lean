/-
  NARROWER THAN 'FOR EVERY INPUT', by the rows' own cells (each row's printed sentence says how): FileDocs: loops · ScanPrinted: loops · ReachFiles: loops · ReachStays: loops.
  DERIVED. THE GIVEN ROWS OF THIS SEAT. 12 by the template 'for every input the law returns true; each argument reads behind the call as it read before'; 0 by the template 'total and deterministic' (their statements: YtemfmoalahmbkaaGreatTotals.lean).
  GIVEN WITH THE SEED: the statements are not yours to turn. If you find one false, say at which input.
  Laid BY PROGRAM, IN A SANDBOX (cutbox-rows.mjs): the forced cells as the released guide's own fill.sh prints them over the translation d5ee7be4b4f18113… (all of the seat's roots in one cut). By AI agents, Wed Nov 11 2026. No macro, syntax, notation, axiom, sorry.
-/
import Derived.Test.YtemfmoalahmbkaaGreatChecked
import GoSem.Claim
import GoSem.ClaimJoined
import GoSem.ClaimMapViews
import Derived.JoinedTies
import Derived.KernelRfl
namespace Go.Proofs.YtemfmoalahmbkaaGreat
/- THE CELL 'sum', in the pinned program and in every row, IS THE sha256 OF THE DUMP (.gsa) THAT YtemfmoalahmbkaaGreatProg.lean LOADS. Nothing in Lean hashes anything: it is a label: what it is worth is what the hold of that sum in a sandbox is worth. -/
noncomputable def Tryz.pinned : Pinned := { name := "ytemfmoalahmbkaagreat", sum := "d5ee7be4b4f18113a246bf0a73dc7c585059d6d1772fbd85b0aefc96cbfe99ca", checked := Tryz.checked }
namespace Rows
def none {H : Type} : Left H := { results := [], args := [] }

/-- 'catchwordlaw19.FileGets': WHATEVER THE INPUT: true; the input reads as it did. -/
def fileGetsSpec : ChangeSpec := { name := "fileGets", fn := fun _ => fun
  | [d1, d2, d3, d4] => { results := [.lit (.bool true)], args := [d1, d2, d3, d4] }
  | _ => none }
def fileGetsRow : OpenClaim := { program := "ytemfmoalahmbkaagreat", sum := "d5ee7be4b4f18113a246bf0a73dc7c585059d6d1772fbd85b0aefc96cbfe99ca", func := "catchword/catchwordlaw19.FileGets", spec := "fileGets", inPlace := ["internal/bytealg.IndexByteString", "internal/bytealg.IndexString", "internal/abi.NoEscape", "internal/bytealg.IndexByte"], unfollowed := true, recurses := true, named := ["internal/bytealg.MaxLen"], apart := false }
def FileGetsSaid : Prop := fileGetsRow.holds Tryz.pinned (OpenSpec.ofChange fileGetsSpec)

/-- ITS FALSE NEIGHBOUR: 'it returns false'. Refute it at one input. -/
def fileGetsWrong : ChangeSpec := { name := "fileGets", fn := fun _ => fun
  | [d1, d2, d3, d4] => { results := [.lit (.bool false)], args := [d1, d2, d3, d4] }
  | _ => none }
def FileGetsWrongFalsely : Prop := fileGetsRow.holds Tryz.pinned (OpenSpec.ofChange fileGetsWrong)

/-- 'catchwordlaw19.FileStays': WHATEVER THE INPUT: true; the input reads as it did. -/
def fileStaysSpec : ChangeSpec := { name := "fileStays", fn := fun _ => fun
  | [d1, d2, d3, d4] => { results := [.lit (.bool true)], args := [d1, d2, d3, d4] }
  | _ => none }
def fileStaysRow : OpenClaim := { program := "ytemfmoalahmbkaagreat", sum := "d5ee7be4b4f18113a246bf0a73dc7c585059d6d1772fbd85b0aefc96cbfe99ca", func := "catchword/catchwordlaw19.FileStays", spec := "fileStays", inPlace := ["internal/bytealg.IndexByteString", "internal/bytealg.IndexString", "internal/abi.NoEscape", "internal/bytealg.IndexByte"], unfollowed := true, recurses := true, named := ["internal/bytealg.MaxLen"], apart := false }
def FileStaysSaid : Prop := fileStaysRow.holds Tryz.pinned (OpenSpec.ofChange fileStaysSpec)

/-- ITS FALSE NEIGHBOUR: 'it returns false'. Refute it at one input. -/
def fileStaysWrong : ChangeSpec := { name := "fileStays", fn := fun _ => fun
  | [d1, d2, d3, d4] => { results := [.lit (.bool false)], args := [d1, d2, d3, d4] }
  | _ => none }
def FileStaysWrongFalsely : Prop := fileStaysRow.holds Tryz.pinned (OpenSpec.ofChange fileStaysWrong)

/-- 'catchwordlaw19.FileAll': WHATEVER THE INPUT: true; the input reads as it did. -/
def fileAllSpec : ChangeSpec := { name := "fileAll", fn := fun _ => fun
  | [d1, d2, d3] => { results := [.lit (.bool true)], args := [d1, d2, d3] }
  | _ => none }
def fileAllRow : OpenClaim := { program := "ytemfmoalahmbkaagreat", sum := "d5ee7be4b4f18113a246bf0a73dc7c585059d6d1772fbd85b0aefc96cbfe99ca", func := "catchword/catchwordlaw19.FileAll", spec := "fileAll", inPlace := ["internal/bytealg.IndexByteString", "internal/bytealg.IndexString", "internal/abi.NoEscape", "internal/bytealg.IndexByte"], unfollowed := true, recurses := true, named := ["internal/bytealg.MaxLen"], apart := false }
def FileAllSaid : Prop := fileAllRow.holds Tryz.pinned (OpenSpec.ofChange fileAllSpec)

/-- ITS FALSE NEIGHBOUR: 'it returns false'. Refute it at one input. -/
def fileAllWrong : ChangeSpec := { name := "fileAll", fn := fun _ => fun
  | [d1, d2, d3] => { results := [.lit (.bool false)], args := [d1, d2, d3] }
  | _ => none }
def FileAllWrongFalsely : Prop := fileAllRow.holds Tryz.pinned (OpenSpec.ofChange fileAllWrong)

/-- 'catchwordlaw19.FileDocs': WHATEVER THE INPUT: true; the input reads as it did. -/
def fileDocsSpec : ChangeSpec := { name := "fileDocs", fn := fun _ => fun
  | [d1, d2] => { results := [.lit (.bool true)], args := [d1, d2] }
  | _ => none }
def fileDocsRow : OpenClaim := { program := "ytemfmoalahmbkaagreat", sum := "d5ee7be4b4f18113a246bf0a73dc7c585059d6d1772fbd85b0aefc96cbfe99ca", func := "catchword/catchwordlaw19.FileDocs", spec := "fileDocs", inPlace := ["internal/bytealg.IndexByteString", "internal/bytealg.IndexString", "internal/abi.NoEscape", "internal/bytealg.IndexByte"], unfollowed := true, recurses := true, named := ["internal/bytealg.MaxLen"], loops := true, apart := false }
def FileDocsSaid : Prop := fileDocsRow.holds Tryz.pinned (OpenSpec.ofChange fileDocsSpec)

/-- ITS FALSE NEIGHBOUR: 'it returns false'. Refute it at one input. -/
def fileDocsWrong : ChangeSpec := { name := "fileDocs", fn := fun _ => fun
  | [d1, d2] => { results := [.lit (.bool false)], args := [d1, d2] }
  | _ => none }
def FileDocsWrongFalsely : Prop := fileDocsRow.holds Tryz.pinned (OpenSpec.ofChange fileDocsWrong)

/-- 'catchwordlaw19.FileNone': WHATEVER THE INPUT: true; the input reads as it did. -/
def fileNoneSpec : ChangeSpec := { name := "fileNone", fn := fun _ => fun
  | [d] => { results := [.lit (.bool true)], args := [d] }
  | _ => none }
def fileNoneRow : OpenClaim := { program := "ytemfmoalahmbkaagreat", sum := "d5ee7be4b4f18113a246bf0a73dc7c585059d6d1772fbd85b0aefc96cbfe99ca", func := "catchword/catchwordlaw19.FileNone", spec := "fileNone", inPlace := ["internal/bytealg.IndexByteString", "internal/bytealg.IndexString", "internal/abi.NoEscape", "internal/bytealg.IndexByte"], unfollowed := true, recurses := true, named := ["internal/bytealg.MaxLen"], apart := false }
def FileNoneSaid : Prop := fileNoneRow.holds Tryz.pinned (OpenSpec.ofChange fileNoneSpec)

/-- ITS FALSE NEIGHBOUR: 'it returns false'. Refute it at one input. -/
def fileNoneWrong : ChangeSpec := { name := "fileNone", fn := fun _ => fun
  | [d] => { results := [.lit (.bool false)], args := [d] }
  | _ => none }
def FileNoneWrongFalsely : Prop := fileNoneRow.holds Tryz.pinned (OpenSpec.ofChange fileNoneWrong)

/-- 'catchwordlaw18.ScanObjects': WHATEVER THE INPUT: true; the input reads as it did. -/
def scanObjectsSpec : ChangeSpec := { name := "scanObjects", fn := fun _ => fun
  | [d] => { results := [.lit (.bool true)], args := [d] }
  | _ => none }
def scanObjectsRow : OpenClaim := { program := "ytemfmoalahmbkaagreat", sum := "d5ee7be4b4f18113a246bf0a73dc7c585059d6d1772fbd85b0aefc96cbfe99ca", func := "catchword/catchwordlaw18.ScanObjects", spec := "scanObjects", inPlace := ["internal/bytealg.IndexByteString", "internal/bytealg.IndexString", "internal/abi.NoEscape", "internal/bytealg.IndexByte"], unfollowed := true, recurses := true, named := ["internal/bytealg.MaxLen"], apart := false }
def ScanObjectsSaid : Prop := scanObjectsRow.holds Tryz.pinned (OpenSpec.ofChange scanObjectsSpec)

/-- ITS FALSE NEIGHBOUR: 'it returns false'. Refute it at one input. -/
def scanObjectsWrong : ChangeSpec := { name := "scanObjects", fn := fun _ => fun
  | [d] => { results := [.lit (.bool false)], args := [d] }
  | _ => none }
def ScanObjectsWrongFalsely : Prop := scanObjectsRow.holds Tryz.pinned (OpenSpec.ofChange scanObjectsWrong)

/-- 'catchwordlaw18.ScanTrailers': WHATEVER THE INPUT: true; the input reads as it did. -/
def scanTrailersSpec : ChangeSpec := { name := "scanTrailers", fn := fun _ => fun
  | [d] => { results := [.lit (.bool true)], args := [d] }
  | _ => none }
def scanTrailersRow : OpenClaim := { program := "ytemfmoalahmbkaagreat", sum := "d5ee7be4b4f18113a246bf0a73dc7c585059d6d1772fbd85b0aefc96cbfe99ca", func := "catchword/catchwordlaw18.ScanTrailers", spec := "scanTrailers", inPlace := ["internal/bytealg.IndexByteString", "internal/bytealg.IndexString", "internal/abi.NoEscape", "internal/bytealg.IndexByte"], unfollowed := true, recurses := true, named := ["internal/bytealg.MaxLen"], apart := false }
def ScanTrailersSaid : Prop := scanTrailersRow.holds Tryz.pinned (OpenSpec.ofChange scanTrailersSpec)

/-- ITS FALSE NEIGHBOUR: 'it returns false'. Refute it at one input. -/
def scanTrailersWrong : ChangeSpec := { name := "scanTrailers", fn := fun _ => fun
  | [d] => { results := [.lit (.bool false)], args := [d] }
  | _ => none }
def ScanTrailersWrongFalsely : Prop := scanTrailersRow.holds Tryz.pinned (OpenSpec.ofChange scanTrailersWrong)

/-- 'catchwordlaw18.ScanLoads': WHATEVER THE INPUT: true; the input reads as it did. -/
def scanLoadsSpec : ChangeSpec := { name := "scanLoads", fn := fun _ => fun
  | [d1, d2] => { results := [.lit (.bool true)], args := [d1, d2] }
  | _ => none }
def scanLoadsRow : OpenClaim := { program := "ytemfmoalahmbkaagreat", sum := "d5ee7be4b4f18113a246bf0a73dc7c585059d6d1772fbd85b0aefc96cbfe99ca", func := "catchword/catchwordlaw18.ScanLoads", spec := "scanLoads", inPlace := ["internal/bytealg.IndexByteString", "internal/bytealg.IndexString", "internal/abi.NoEscape", "internal/bytealg.IndexByte"], unfollowed := true, recurses := true, named := ["internal/bytealg.MaxLen"], apart := false }
def ScanLoadsSaid : Prop := scanLoadsRow.holds Tryz.pinned (OpenSpec.ofChange scanLoadsSpec)

/-- ITS FALSE NEIGHBOUR: 'it returns false'. Refute it at one input. -/
def scanLoadsWrong : ChangeSpec := { name := "scanLoads", fn := fun _ => fun
  | [d1, d2] => { results := [.lit (.bool false)], args := [d1, d2] }
  | _ => none }
def ScanLoadsWrongFalsely : Prop := scanLoadsRow.holds Tryz.pinned (OpenSpec.ofChange scanLoadsWrong)

/-- 'catchwordlaw18.ScanPrinted': WHATEVER THE INPUT: true; the input reads as it did. -/
def scanPrintedSpec : ChangeSpec := { name := "scanPrinted", fn := fun _ => fun
  | [d1, d2] => { results := [.lit (.bool true)], args := [d1, d2] }
  | _ => none }
def scanPrintedRow : OpenClaim := { program := "ytemfmoalahmbkaagreat", sum := "d5ee7be4b4f18113a246bf0a73dc7c585059d6d1772fbd85b0aefc96cbfe99ca", func := "catchword/catchwordlaw18.ScanPrinted", spec := "scanPrinted", inPlace := ["internal/bytealg.IndexByteString", "internal/bytealg.IndexString", "internal/abi.NoEscape", "internal/bytealg.IndexByte"], unfollowed := true, recurses := true, named := ["internal/bytealg.MaxLen"], loops := true, apart := false }
def ScanPrintedSaid : Prop := scanPrintedRow.holds Tryz.pinned (OpenSpec.ofChange scanPrintedSpec)

/-- ITS FALSE NEIGHBOUR: 'it returns false'. Refute it at one input. -/
def scanPrintedWrong : ChangeSpec := { name := "scanPrinted", fn := fun _ => fun
  | [d1, d2] => { results := [.lit (.bool false)], args := [d1, d2] }
  | _ => none }
def ScanPrintedWrongFalsely : Prop := scanPrintedRow.holds Tryz.pinned (OpenSpec.ofChange scanPrintedWrong)

/-- 'catchwordlaw21.ReachFiles': WHATEVER THE INPUT: true; the input reads as it did. -/
def reachFilesSpec : ChangeSpec := { name := "reachFiles", fn := fun _ => fun
  | [d1, d2, d3, d4] => { results := [.lit (.bool true)], args := [d1, d2, d3, d4] }
  | _ => none }
def reachFilesRow : OpenClaim := { program := "ytemfmoalahmbkaagreat", sum := "d5ee7be4b4f18113a246bf0a73dc7c585059d6d1772fbd85b0aefc96cbfe99ca", func := "catchword/catchwordlaw21.ReachFiles", spec := "reachFiles", inPlace := ["slices.overlaps[catchword/api.Value]", "internal/bytealg.IndexByteString", "internal/bytealg.IndexString", "internal/abi.NoEscape", "internal/bytealg.IndexByte"], unfollowed := true, recurses := true, named := ["internal/bytealg.MaxLen"], loops := true, apart := false }
def ReachFilesSaid : Prop := reachFilesRow.holds Tryz.pinned (OpenSpec.ofChange reachFilesSpec)

/-- ITS FALSE NEIGHBOUR: 'it returns false'. Refute it at one input. -/
def reachFilesWrong : ChangeSpec := { name := "reachFiles", fn := fun _ => fun
  | [d1, d2, d3, d4] => { results := [.lit (.bool false)], args := [d1, d2, d3, d4] }
  | _ => none }
def ReachFilesWrongFalsely : Prop := reachFilesRow.holds Tryz.pinned (OpenSpec.ofChange reachFilesWrong)

/-- 'catchwordlaw21.ReachStays': WHATEVER THE INPUT: true; the input reads as it did. -/
def reachStaysSpec : ChangeSpec := { name := "reachStays", fn := fun _ => fun
  | [d1, d2, d3, d4] => { results := [.lit (.bool true)], args := [d1, d2, d3, d4] }
  | _ => none }
def reachStaysRow : OpenClaim := { program := "ytemfmoalahmbkaagreat", sum := "d5ee7be4b4f18113a246bf0a73dc7c585059d6d1772fbd85b0aefc96cbfe99ca", func := "catchword/catchwordlaw21.ReachStays", spec := "reachStays", inPlace := ["slices.overlaps[catchword/api.Value]", "internal/bytealg.IndexByteString", "internal/bytealg.IndexString", "internal/abi.NoEscape", "internal/bytealg.IndexByte"], unfollowed := true, recurses := true, named := ["internal/bytealg.MaxLen"], loops := true, apart := false }
def ReachStaysSaid : Prop := reachStaysRow.holds Tryz.pinned (OpenSpec.ofChange reachStaysSpec)

/-- ITS FALSE NEIGHBOUR: 'it returns false'. Refute it at one input. -/
def reachStaysWrong : ChangeSpec := { name := "reachStays", fn := fun _ => fun
  | [d1, d2, d3, d4] => { results := [.lit (.bool false)], args := [d1, d2, d3, d4] }
  | _ => none }
def ReachStaysWrongFalsely : Prop := reachStaysRow.holds Tryz.pinned (OpenSpec.ofChange reachStaysWrong)

/-- 'catchwordlaw20.TreeFiles': WHATEVER THE INPUT: true; the input reads as it did. -/
def treeFilesSpec : ChangeSpec := { name := "treeFiles", fn := fun _ => fun
  | [d1, d2, d3, d4] => { results := [.lit (.bool true)], args := [d1, d2, d3, d4] }
  | _ => none }
def treeFilesRow : OpenClaim := { program := "ytemfmoalahmbkaagreat", sum := "d5ee7be4b4f18113a246bf0a73dc7c585059d6d1772fbd85b0aefc96cbfe99ca", func := "catchword/catchwordlaw20.TreeFiles", spec := "treeFiles", inPlace := ["slices.overlaps[catchword/api.Value]", "internal/bytealg.IndexByteString", "internal/bytealg.IndexString", "internal/abi.NoEscape", "internal/bytealg.IndexByte"], unfollowed := true, recurses := true, named := ["internal/bytealg.MaxLen"], apart := false }
def TreeFilesSaid : Prop := treeFilesRow.holds Tryz.pinned (OpenSpec.ofChange treeFilesSpec)

/-- ITS FALSE NEIGHBOUR: 'it returns false'. Refute it at one input. -/
def treeFilesWrong : ChangeSpec := { name := "treeFiles", fn := fun _ => fun
  | [d1, d2, d3, d4] => { results := [.lit (.bool false)], args := [d1, d2, d3, d4] }
  | _ => none }
def TreeFilesWrongFalsely : Prop := treeFilesRow.holds Tryz.pinned (OpenSpec.ofChange treeFilesWrong)

/- THE SECOND FORM. 'bulk': how many values and letters a reading holds, each counted each time it is reached (what is shared counts as often as it is met; a slice's spare places count too). A statement '..UptoSaid' is the law's where the arguments, and the package variables that the reading takes, are together of bulk at most 1048576: NARROWER than '..Said'. Prove '..Said' where nothing that the law and all that it calls make is longer than what came in: it says more and counts as full. Else prove '..UptoSaid'. A law counts once. -/
mutual
def uptoBulk {H : Type} : DataW H → Nat
  | .lit (.string bytes) => bytes.length + 1
  | .lit _ => 1
  | .nil => 1
  | .ptr d => uptoBulk d + 1
  | .slice elems spare => uptoBulkAll elems + uptoBulkAll spare + 1
  | .agg parts => uptoBulkAll parts + 1
  | .iface _ d => uptoBulk d + 1
  | .map entries => uptoBulkEntries entries + 1
  | .held _ => 1
def uptoBulkAll {H : Type} : List (DataW H) → Nat
  | [] => 0
  | d :: r => uptoBulk d + uptoBulkAll r
def uptoBulkEntries {H : Type} : List (Lit × DataW H) → Nat
  | [] => 0
  | x :: r => uptoBulkEntry x + uptoBulkEntries r
def uptoBulkEntry {H : Type} : Lit × DataW H → Nat
  | (.string bytes, d) => bytes.length + uptoBulk d + 1
  | (_, d) => uptoBulk d + 1
 end
def uptoSmall : (H : Type) → List (DataW H) → Bool := fun _ ds => decide (uptoBulkAll ds ≤ 1048576)
def OpenSpec.upto (s : _root_.Go.ChangeSpec) : _root_.Go.OpenSpec := { _root_.Go.OpenSpec.ofChange s with cond := some uptoSmall }

/-- 'catchwordlaw19.FileGets', WHERE WHAT IT READS IS OF BULK AT MOST 1048576: true; the input reads as it did. -/
def fileGetsUptoRow : OpenClaim := { program := "ytemfmoalahmbkaagreat", sum := "d5ee7be4b4f18113a246bf0a73dc7c585059d6d1772fbd85b0aefc96cbfe99ca", func := "catchword/catchwordlaw19.FileGets", spec := "fileGets", inPlace := ["internal/bytealg.IndexByteString", "internal/bytealg.IndexString", "internal/abi.NoEscape", "internal/bytealg.IndexByte"], unfollowed := true, recurses := true, named := ["internal/bytealg.MaxLen"], apart := false, narrowed := true }
def FileGetsUptoSaid : Prop := fileGetsUptoRow.holds Tryz.pinned (OpenSpec.upto fileGetsSpec)

/-- 'catchwordlaw19.FileStays', WHERE WHAT IT READS IS OF BULK AT MOST 1048576: true; the input reads as it did. -/
def fileStaysUptoRow : OpenClaim := { program := "ytemfmoalahmbkaagreat", sum := "d5ee7be4b4f18113a246bf0a73dc7c585059d6d1772fbd85b0aefc96cbfe99ca", func := "catchword/catchwordlaw19.FileStays", spec := "fileStays", inPlace := ["internal/bytealg.IndexByteString", "internal/bytealg.IndexString", "internal/abi.NoEscape", "internal/bytealg.IndexByte"], unfollowed := true, recurses := true, named := ["internal/bytealg.MaxLen"], apart := false, narrowed := true }
def FileStaysUptoSaid : Prop := fileStaysUptoRow.holds Tryz.pinned (OpenSpec.upto fileStaysSpec)

/-- 'catchwordlaw19.FileAll', WHERE WHAT IT READS IS OF BULK AT MOST 1048576: true; the input reads as it did. -/
def fileAllUptoRow : OpenClaim := { program := "ytemfmoalahmbkaagreat", sum := "d5ee7be4b4f18113a246bf0a73dc7c585059d6d1772fbd85b0aefc96cbfe99ca", func := "catchword/catchwordlaw19.FileAll", spec := "fileAll", inPlace := ["internal/bytealg.IndexByteString", "internal/bytealg.IndexString", "internal/abi.NoEscape", "internal/bytealg.IndexByte"], unfollowed := true, recurses := true, named := ["internal/bytealg.MaxLen"], apart := false, narrowed := true }
def FileAllUptoSaid : Prop := fileAllUptoRow.holds Tryz.pinned (OpenSpec.upto fileAllSpec)

/-- 'catchwordlaw19.FileDocs', WHERE WHAT IT READS IS OF BULK AT MOST 1048576: true; the input reads as it did. -/
def fileDocsUptoRow : OpenClaim := { program := "ytemfmoalahmbkaagreat", sum := "d5ee7be4b4f18113a246bf0a73dc7c585059d6d1772fbd85b0aefc96cbfe99ca", func := "catchword/catchwordlaw19.FileDocs", spec := "fileDocs", inPlace := ["internal/bytealg.IndexByteString", "internal/bytealg.IndexString", "internal/abi.NoEscape", "internal/bytealg.IndexByte"], unfollowed := true, recurses := true, named := ["internal/bytealg.MaxLen"], loops := true, apart := false, narrowed := true }
def FileDocsUptoSaid : Prop := fileDocsUptoRow.holds Tryz.pinned (OpenSpec.upto fileDocsSpec)

/-- 'catchwordlaw19.FileNone', WHERE WHAT IT READS IS OF BULK AT MOST 1048576: true; the input reads as it did. -/
def fileNoneUptoRow : OpenClaim := { program := "ytemfmoalahmbkaagreat", sum := "d5ee7be4b4f18113a246bf0a73dc7c585059d6d1772fbd85b0aefc96cbfe99ca", func := "catchword/catchwordlaw19.FileNone", spec := "fileNone", inPlace := ["internal/bytealg.IndexByteString", "internal/bytealg.IndexString", "internal/abi.NoEscape", "internal/bytealg.IndexByte"], unfollowed := true, recurses := true, named := ["internal/bytealg.MaxLen"], apart := false, narrowed := true }
def FileNoneUptoSaid : Prop := fileNoneUptoRow.holds Tryz.pinned (OpenSpec.upto fileNoneSpec)

/-- 'catchwordlaw18.ScanObjects', WHERE WHAT IT READS IS OF BULK AT MOST 1048576: true; the input reads as it did. -/
def scanObjectsUptoRow : OpenClaim := { program := "ytemfmoalahmbkaagreat", sum := "d5ee7be4b4f18113a246bf0a73dc7c585059d6d1772fbd85b0aefc96cbfe99ca", func := "catchword/catchwordlaw18.ScanObjects", spec := "scanObjects", inPlace := ["internal/bytealg.IndexByteString", "internal/bytealg.IndexString", "internal/abi.NoEscape", "internal/bytealg.IndexByte"], unfollowed := true, recurses := true, named := ["internal/bytealg.MaxLen"], apart := false, narrowed := true }
def ScanObjectsUptoSaid : Prop := scanObjectsUptoRow.holds Tryz.pinned (OpenSpec.upto scanObjectsSpec)

/-- 'catchwordlaw18.ScanTrailers', WHERE WHAT IT READS IS OF BULK AT MOST 1048576: true; the input reads as it did. -/
def scanTrailersUptoRow : OpenClaim := { program := "ytemfmoalahmbkaagreat", sum := "d5ee7be4b4f18113a246bf0a73dc7c585059d6d1772fbd85b0aefc96cbfe99ca", func := "catchword/catchwordlaw18.ScanTrailers", spec := "scanTrailers", inPlace := ["internal/bytealg.IndexByteString", "internal/bytealg.IndexString", "internal/abi.NoEscape", "internal/bytealg.IndexByte"], unfollowed := true, recurses := true, named := ["internal/bytealg.MaxLen"], apart := false, narrowed := true }
def ScanTrailersUptoSaid : Prop := scanTrailersUptoRow.holds Tryz.pinned (OpenSpec.upto scanTrailersSpec)

/-- 'catchwordlaw18.ScanLoads', WHERE WHAT IT READS IS OF BULK AT MOST 1048576: true; the input reads as it did. -/
def scanLoadsUptoRow : OpenClaim := { program := "ytemfmoalahmbkaagreat", sum := "d5ee7be4b4f18113a246bf0a73dc7c585059d6d1772fbd85b0aefc96cbfe99ca", func := "catchword/catchwordlaw18.ScanLoads", spec := "scanLoads", inPlace := ["internal/bytealg.IndexByteString", "internal/bytealg.IndexString", "internal/abi.NoEscape", "internal/bytealg.IndexByte"], unfollowed := true, recurses := true, named := ["internal/bytealg.MaxLen"], apart := false, narrowed := true }
def ScanLoadsUptoSaid : Prop := scanLoadsUptoRow.holds Tryz.pinned (OpenSpec.upto scanLoadsSpec)

/-- 'catchwordlaw18.ScanPrinted', WHERE WHAT IT READS IS OF BULK AT MOST 1048576: true; the input reads as it did. -/
def scanPrintedUptoRow : OpenClaim := { program := "ytemfmoalahmbkaagreat", sum := "d5ee7be4b4f18113a246bf0a73dc7c585059d6d1772fbd85b0aefc96cbfe99ca", func := "catchword/catchwordlaw18.ScanPrinted", spec := "scanPrinted", inPlace := ["internal/bytealg.IndexByteString", "internal/bytealg.IndexString", "internal/abi.NoEscape", "internal/bytealg.IndexByte"], unfollowed := true, recurses := true, named := ["internal/bytealg.MaxLen"], loops := true, apart := false, narrowed := true }
def ScanPrintedUptoSaid : Prop := scanPrintedUptoRow.holds Tryz.pinned (OpenSpec.upto scanPrintedSpec)

/-- 'catchwordlaw21.ReachFiles', WHERE WHAT IT READS IS OF BULK AT MOST 1048576: true; the input reads as it did. -/
def reachFilesUptoRow : OpenClaim := { program := "ytemfmoalahmbkaagreat", sum := "d5ee7be4b4f18113a246bf0a73dc7c585059d6d1772fbd85b0aefc96cbfe99ca", func := "catchword/catchwordlaw21.ReachFiles", spec := "reachFiles", inPlace := ["slices.overlaps[catchword/api.Value]", "internal/bytealg.IndexByteString", "internal/bytealg.IndexString", "internal/abi.NoEscape", "internal/bytealg.IndexByte"], unfollowed := true, recurses := true, named := ["internal/bytealg.MaxLen"], loops := true, apart := false, narrowed := true }
def ReachFilesUptoSaid : Prop := reachFilesUptoRow.holds Tryz.pinned (OpenSpec.upto reachFilesSpec)

/-- 'catchwordlaw21.ReachStays', WHERE WHAT IT READS IS OF BULK AT MOST 1048576: true; the input reads as it did. -/
def reachStaysUptoRow : OpenClaim := { program := "ytemfmoalahmbkaagreat", sum := "d5ee7be4b4f18113a246bf0a73dc7c585059d6d1772fbd85b0aefc96cbfe99ca", func := "catchword/catchwordlaw21.ReachStays", spec := "reachStays", inPlace := ["slices.overlaps[catchword/api.Value]", "internal/bytealg.IndexByteString", "internal/bytealg.IndexString", "internal/abi.NoEscape", "internal/bytealg.IndexByte"], unfollowed := true, recurses := true, named := ["internal/bytealg.MaxLen"], loops := true, apart := false, narrowed := true }
def ReachStaysUptoSaid : Prop := reachStaysUptoRow.holds Tryz.pinned (OpenSpec.upto reachStaysSpec)

/-- 'catchwordlaw20.TreeFiles', WHERE WHAT IT READS IS OF BULK AT MOST 1048576: true; the input reads as it did. -/
def treeFilesUptoRow : OpenClaim := { program := "ytemfmoalahmbkaagreat", sum := "d5ee7be4b4f18113a246bf0a73dc7c585059d6d1772fbd85b0aefc96cbfe99ca", func := "catchword/catchwordlaw20.TreeFiles", spec := "treeFiles", inPlace := ["slices.overlaps[catchword/api.Value]", "internal/bytealg.IndexByteString", "internal/bytealg.IndexString", "internal/abi.NoEscape", "internal/bytealg.IndexByte"], unfollowed := true, recurses := true, named := ["internal/bytealg.MaxLen"], apart := false, narrowed := true }
def TreeFilesUptoSaid : Prop := treeFilesUptoRow.holds Tryz.pinned (OpenSpec.upto treeFilesSpec)

end Rows
end Go.Proofs.YtemfmoalahmbkaaGreat
