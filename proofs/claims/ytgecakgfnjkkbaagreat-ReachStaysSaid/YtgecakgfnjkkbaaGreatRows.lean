/-
  NARROWER THAN 'FOR EVERY INPUT', by the rows' own cells (each row's printed sentence says how): ReachStays: loops.
  DERIVED. THE GIVEN ROWS OF THIS SEAT. 4 by the template 'for every input the law returns true; each argument reads behind the call as it read before'; 0 by the template 'total and deterministic' (their statements: YtgecakgfnjkkbaaGreatTotals.lean).
  GIVEN WITH THE SEED: the statements are not yours to turn. If you find one false, say at which input.
  Laid BY PROGRAM, IN A SANDBOX (cutbox-rows.mjs): the forced cells as the released guide's own fill.sh prints them over the translation 667108978b6b08d7… (all of the seat's roots in one cut). By AI agents, Wed Nov 11 2026. No macro, syntax, notation, axiom, sorry.
-/
import Derived.Test.YtgecakgfnjkkbaaGreatChecked
import GoSem.Claim
import GoSem.ClaimJoined
import GoSem.ClaimMapViews
import Derived.JoinedTies
import Derived.KernelRfl
namespace Go.Proofs.YtgecakgfnjkkbaaGreat
/- THE CELL 'sum', in the pinned program and in every row, IS THE sha256 OF THE DUMP (.gsa) THAT YtgecakgfnjkkbaaGreatProg.lean LOADS. Nothing in Lean hashes anything: it is a label: what it is worth is what the hold of that sum in a sandbox is worth. -/
noncomputable def Tryz.pinned : Pinned := { name := "ytgecakgfnjkkbaagreat", sum := "667108978b6b08d76707c634920f3a1d33d410447d3e75bacac1283cc85281c0", checked := Tryz.checked }
namespace Rows
def none {H : Type} : Left H := { results := [], args := [] }

/-- 'catchwordlaw19.FileStays': WHATEVER THE INPUT: true; the input reads as it did. -/
def fileStaysSpec : ChangeSpec := { name := "fileStays", fn := fun _ => fun
  | [d1, d2, d3, d4] => { results := [.lit (.bool true)], args := [d1, d2, d3, d4] }
  | _ => none }
def fileStaysRow : OpenClaim := { program := "ytgecakgfnjkkbaagreat", sum := "667108978b6b08d76707c634920f3a1d33d410447d3e75bacac1283cc85281c0", func := "catchword/catchwordlaw19.FileStays", spec := "fileStays", inPlace := ["internal/bytealg.IndexByteString", "internal/bytealg.IndexString", "internal/abi.NoEscape", "internal/bytealg.IndexByte"], unfollowed := true, recurses := true, named := ["internal/bytealg.MaxLen"], apart := false }
def FileStaysSaid : Prop := fileStaysRow.holds Tryz.pinned (OpenSpec.ofChange fileStaysSpec)

/-- ITS FALSE NEIGHBOUR: 'it returns false'. Refute it at one input. -/
def fileStaysWrong : ChangeSpec := { name := "fileStays", fn := fun _ => fun
  | [d1, d2, d3, d4] => { results := [.lit (.bool false)], args := [d1, d2, d3, d4] }
  | _ => none }
def FileStaysWrongFalsely : Prop := fileStaysRow.holds Tryz.pinned (OpenSpec.ofChange fileStaysWrong)

/-- 'catchwordlaw21.ReachStays': WHATEVER THE INPUT: true; the input reads as it did. -/
def reachStaysSpec : ChangeSpec := { name := "reachStays", fn := fun _ => fun
  | [d1, d2, d3, d4] => { results := [.lit (.bool true)], args := [d1, d2, d3, d4] }
  | _ => none }
def reachStaysRow : OpenClaim := { program := "ytgecakgfnjkkbaagreat", sum := "667108978b6b08d76707c634920f3a1d33d410447d3e75bacac1283cc85281c0", func := "catchword/catchwordlaw21.ReachStays", spec := "reachStays", inPlace := ["slices.overlaps[catchword/api.Value]", "internal/bytealg.IndexByteString", "internal/bytealg.IndexString", "internal/abi.NoEscape", "internal/bytealg.IndexByte"], unfollowed := true, recurses := true, named := ["internal/bytealg.MaxLen"], loops := true, apart := false }
def ReachStaysSaid : Prop := reachStaysRow.holds Tryz.pinned (OpenSpec.ofChange reachStaysSpec)

/-- ITS FALSE NEIGHBOUR: 'it returns false'. Refute it at one input. -/
def reachStaysWrong : ChangeSpec := { name := "reachStays", fn := fun _ => fun
  | [d1, d2, d3, d4] => { results := [.lit (.bool false)], args := [d1, d2, d3, d4] }
  | _ => none }
def ReachStaysWrongFalsely : Prop := reachStaysRow.holds Tryz.pinned (OpenSpec.ofChange reachStaysWrong)

/-- 'catchwordlaw20.TreeStays': WHATEVER THE INPUT: true; the input reads as it did. -/
def treeStaysSpec : ChangeSpec := { name := "treeStays", fn := fun _ => fun
  | [d1, d2, d3, d4] => { results := [.lit (.bool true)], args := [d1, d2, d3, d4] }
  | _ => none }
def treeStaysRow : OpenClaim := { program := "ytgecakgfnjkkbaagreat", sum := "667108978b6b08d76707c634920f3a1d33d410447d3e75bacac1283cc85281c0", func := "catchword/catchwordlaw20.TreeStays", spec := "treeStays", inPlace := ["slices.overlaps[catchword/api.Value]", "internal/bytealg.IndexByteString", "internal/bytealg.IndexString", "internal/abi.NoEscape", "internal/bytealg.IndexByte"], unfollowed := true, recurses := true, named := ["internal/bytealg.MaxLen"], apart := false }
def TreeStaysSaid : Prop := treeStaysRow.holds Tryz.pinned (OpenSpec.ofChange treeStaysSpec)

/-- ITS FALSE NEIGHBOUR: 'it returns false'. Refute it at one input. -/
def treeStaysWrong : ChangeSpec := { name := "treeStays", fn := fun _ => fun
  | [d1, d2, d3, d4] => { results := [.lit (.bool false)], args := [d1, d2, d3, d4] }
  | _ => none }
def TreeStaysWrongFalsely : Prop := treeStaysRow.holds Tryz.pinned (OpenSpec.ofChange treeStaysWrong)

/-- 'catchwordlaw22.ViewStays': WHATEVER THE INPUT: true; the input reads as it did. -/
def viewStaysSpec : ChangeSpec := { name := "viewStays", fn := fun _ => fun
  | [d1, d2, d3] => { results := [.lit (.bool true)], args := [d1, d2, d3] }
  | _ => none }
def viewStaysRow : OpenClaim := { program := "ytgecakgfnjkkbaagreat", sum := "667108978b6b08d76707c634920f3a1d33d410447d3e75bacac1283cc85281c0", func := "catchword/catchwordlaw22.ViewStays", spec := "viewStays", inPlace := ["slices.overlaps[catchword/api.Value]", "internal/bytealg.IndexByteString", "internal/bytealg.IndexString", "internal/abi.NoEscape", "internal/bytealg.IndexByte", "internal/bytealg.abigen_runtime_cmpstring"], unfollowed := true, recurses := true, named := ["internal/bytealg.MaxLen"], apart := false }
def ViewStaysSaid : Prop := viewStaysRow.holds Tryz.pinned (OpenSpec.ofChange viewStaysSpec)

/-- ITS FALSE NEIGHBOUR: 'it returns false'. Refute it at one input. -/
def viewStaysWrong : ChangeSpec := { name := "viewStays", fn := fun _ => fun
  | [d1, d2, d3] => { results := [.lit (.bool false)], args := [d1, d2, d3] }
  | _ => none }
def ViewStaysWrongFalsely : Prop := viewStaysRow.holds Tryz.pinned (OpenSpec.ofChange viewStaysWrong)

/- THE SECOND FORM. 'bulk': how many values and letters a reading holds, each counted each time it is reached (what is shared counts as often as it is met; a slice's spare places count too). A statement '..UptoSaid' is the law's where the arguments, and the package variables that the reading takes, are together of bulk at most 1048576: NARROWER than '..Said'. Prove '..Said' where nothing that the law and all that it calls make is longer than what came in: it says more and counts as full. Else prove '..UptoSaid'. A law counts once. -/
mutual
def uptoBulk {H : Type} : DataW H → Nat
  | .lit (.string bytes) => bytes.length + 1
  | .lit _ => 1
  | .nil => 1
  | .ptr d => uptoBulk d + 1
  | .slice elems spare => uptoBulkAll elems + uptoBulkAll spare + 1
  | .agg parts => uptoBulkAll parts + 1
  | .iface _ d => uptoBulk d + 1
  | .map entries => uptoBulkEntries entries + 1
  | .held _ => 1
def uptoBulkAll {H : Type} : List (DataW H) → Nat
  | [] => 0
  | d :: r => uptoBulk d + uptoBulkAll r
def uptoBulkEntries {H : Type} : List (Lit × DataW H) → Nat
  | [] => 0
  | x :: r => uptoBulkEntry x + uptoBulkEntries r
def uptoBulkEntry {H : Type} : Lit × DataW H → Nat
  | (.string bytes, d) => bytes.length + uptoBulk d + 1
  | (_, d) => uptoBulk d + 1
 end
def uptoSmall : (H : Type) → List (DataW H) → Bool := fun _ ds => decide (uptoBulkAll ds ≤ 1048576)
def OpenSpec.upto (s : _root_.Go.ChangeSpec) : _root_.Go.OpenSpec := { _root_.Go.OpenSpec.ofChange s with cond := some uptoSmall }

/-- 'catchwordlaw19.FileStays', WHERE WHAT IT READS IS OF BULK AT MOST 1048576: true; the input reads as it did. -/
def fileStaysUptoRow : OpenClaim := { program := "ytgecakgfnjkkbaagreat", sum := "667108978b6b08d76707c634920f3a1d33d410447d3e75bacac1283cc85281c0", func := "catchword/catchwordlaw19.FileStays", spec := "fileStays", inPlace := ["internal/bytealg.IndexByteString", "internal/bytealg.IndexString", "internal/abi.NoEscape", "internal/bytealg.IndexByte"], unfollowed := true, recurses := true, named := ["internal/bytealg.MaxLen"], apart := false, narrowed := true }
def FileStaysUptoSaid : Prop := fileStaysUptoRow.holds Tryz.pinned (OpenSpec.upto fileStaysSpec)

/-- 'catchwordlaw21.ReachStays', WHERE WHAT IT READS IS OF BULK AT MOST 1048576: true; the input reads as it did. -/
def reachStaysUptoRow : OpenClaim := { program := "ytgecakgfnjkkbaagreat", sum := "667108978b6b08d76707c634920f3a1d33d410447d3e75bacac1283cc85281c0", func := "catchword/catchwordlaw21.ReachStays", spec := "reachStays", inPlace := ["slices.overlaps[catchword/api.Value]", "internal/bytealg.IndexByteString", "internal/bytealg.IndexString", "internal/abi.NoEscape", "internal/bytealg.IndexByte"], unfollowed := true, recurses := true, named := ["internal/bytealg.MaxLen"], loops := true, apart := false, narrowed := true }
def ReachStaysUptoSaid : Prop := reachStaysUptoRow.holds Tryz.pinned (OpenSpec.upto reachStaysSpec)

/-- 'catchwordlaw20.TreeStays', WHERE WHAT IT READS IS OF BULK AT MOST 1048576: true; the input reads as it did. -/
def treeStaysUptoRow : OpenClaim := { program := "ytgecakgfnjkkbaagreat", sum := "667108978b6b08d76707c634920f3a1d33d410447d3e75bacac1283cc85281c0", func := "catchword/catchwordlaw20.TreeStays", spec := "treeStays", inPlace := ["slices.overlaps[catchword/api.Value]", "internal/bytealg.IndexByteString", "internal/bytealg.IndexString", "internal/abi.NoEscape", "internal/bytealg.IndexByte"], unfollowed := true, recurses := true, named := ["internal/bytealg.MaxLen"], apart := false, narrowed := true }
def TreeStaysUptoSaid : Prop := treeStaysUptoRow.holds Tryz.pinned (OpenSpec.upto treeStaysSpec)

/-- 'catchwordlaw22.ViewStays', WHERE WHAT IT READS IS OF BULK AT MOST 1048576: true; the input reads as it did. -/
def viewStaysUptoRow : OpenClaim := { program := "ytgecakgfnjkkbaagreat", sum := "667108978b6b08d76707c634920f3a1d33d410447d3e75bacac1283cc85281c0", func := "catchword/catchwordlaw22.ViewStays", spec := "viewStays", inPlace := ["slices.overlaps[catchword/api.Value]", "internal/bytealg.IndexByteString", "internal/bytealg.IndexString", "internal/abi.NoEscape", "internal/bytealg.IndexByte", "internal/bytealg.abigen_runtime_cmpstring"], unfollowed := true, recurses := true, named := ["internal/bytealg.MaxLen"], apart := false, narrowed := true }
def ViewStaysUptoSaid : Prop := viewStaysUptoRow.holds Tryz.pinned (OpenSpec.upto viewStaysSpec)

end Rows
end Go.Proofs.YtgecakgfnjkkbaaGreat
