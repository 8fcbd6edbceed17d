/-
  NARROWER THAN 'FOR EVERY INPUT', by the rows' own cells (each row's printed sentence says how): ReachRows: loops · TreeFinds: loops · TreeAll: loops.
  DERIVED. THE GIVEN ROWS OF THIS SEAT. 3 by the template 'for every input the law returns true; each argument reads behind the call as it read before'; 0 by the template 'total and deterministic' (their statements: YtpioecahefokmaaGreatTotals.lean).
  GIVEN WITH THE SEED: the statements are not yours to turn. If you find one false, say at which input.
  Laid BY PROGRAM, IN A SANDBOX (cutbox-rows.mjs): the forced cells as the released guide's own fill.sh prints them over the translation 17ff487a8e41dabe… (all of the seat's roots in one cut). By AI agents, Wed Nov 11 2026. No macro, syntax, notation, axiom, sorry.
-/
import Derived.Test.YtpioecahefokmaaGreatChecked
import GoSem.Claim
import GoSem.ClaimJoined
import GoSem.ClaimMapViews
import Derived.JoinedTies
import Derived.KernelRfl
namespace Go.Proofs.YtpioecahefokmaaGreat
/- THE CELL 'sum', in the pinned program and in every row, IS THE sha256 OF THE DUMP (.gsa) THAT YtpioecahefokmaaGreatProg.lean LOADS. Nothing in Lean hashes anything: it is a label: what it is worth is what the hold of that sum in a sandbox is worth. -/
noncomputable def Tryz.pinned : Pinned := { name := "ytpioecahefokmaagreat", sum := "17ff487a8e41dabe55c0c0cf838a096c4c791cc8ab00888d625d20e63e69bdc6", checked := Tryz.checked }
namespace Rows
def none {H : Type} : Left H := { results := [], args := [] }

/-- 'catchwordlaw21.ReachRows': WHATEVER THE INPUT: true; the input reads as it did. -/
def reachRowsSpec : ChangeSpec := { name := "reachRows", fn := fun _ => fun
  | [d1, d2] => { results := [.lit (.bool true)], args := [d1, d2] }
  | _ => none }
def reachRowsRow : OpenClaim := { program := "ytpioecahefokmaagreat", sum := "17ff487a8e41dabe55c0c0cf838a096c4c791cc8ab00888d625d20e63e69bdc6", func := "catchword/catchwordlaw21.ReachRows", spec := "reachRows", inPlace := ["slices.overlaps[catchword/api.Value]"], unfollowed := true, recurses := true, loops := true, apart := false }
def ReachRowsSaid : Prop := reachRowsRow.holds Tryz.pinned (OpenSpec.ofChange reachRowsSpec)

/-- ITS FALSE NEIGHBOUR: 'it returns false'. Refute it at one input. -/
def reachRowsWrong : ChangeSpec := { name := "reachRows", fn := fun _ => fun
  | [d1, d2] => { results := [.lit (.bool false)], args := [d1, d2] }
  | _ => none }
def ReachRowsWrongFalsely : Prop := reachRowsRow.holds Tryz.pinned (OpenSpec.ofChange reachRowsWrong)

/-- 'catchwordlaw20.TreeFinds': WHATEVER THE INPUT: true; the input reads as it did. -/
def treeFindsSpec : ChangeSpec := { name := "treeFinds", fn := fun _ => fun
  | [d1, d2] => { results := [.lit (.bool true)], args := [d1, d2] }
  | _ => none }
def treeFindsRow : OpenClaim := { program := "ytpioecahefokmaagreat", sum := "17ff487a8e41dabe55c0c0cf838a096c4c791cc8ab00888d625d20e63e69bdc6", func := "catchword/catchwordlaw20.TreeFinds", spec := "treeFinds", inPlace := ["slices.overlaps[catchword/api.Value]"], unfollowed := true, recurses := true, loops := true, apart := false }
def TreeFindsSaid : Prop := treeFindsRow.holds Tryz.pinned (OpenSpec.ofChange treeFindsSpec)

/-- ITS FALSE NEIGHBOUR: 'it returns false'. Refute it at one input. -/
def treeFindsWrong : ChangeSpec := { name := "treeFinds", fn := fun _ => fun
  | [d1, d2] => { results := [.lit (.bool false)], args := [d1, d2] }
  | _ => none }
def TreeFindsWrongFalsely : Prop := treeFindsRow.holds Tryz.pinned (OpenSpec.ofChange treeFindsWrong)

/-- 'catchwordlaw20.TreeAll': WHATEVER THE INPUT: true; the input reads as it did. -/
def treeAllSpec : ChangeSpec := { name := "treeAll", fn := fun _ => fun
  | [d] => { results := [.lit (.bool true)], args := [d] }
  | _ => none }
def treeAllRow : OpenClaim := { program := "ytpioecahefokmaagreat", sum := "17ff487a8e41dabe55c0c0cf838a096c4c791cc8ab00888d625d20e63e69bdc6", func := "catchword/catchwordlaw20.TreeAll", spec := "treeAll", inPlace := ["slices.overlaps[catchword/api.Value]"], unfollowed := true, recurses := true, loops := true, apart := false }
def TreeAllSaid : Prop := treeAllRow.holds Tryz.pinned (OpenSpec.ofChange treeAllSpec)

/-- ITS FALSE NEIGHBOUR: 'it returns false'. Refute it at one input. -/
def treeAllWrong : ChangeSpec := { name := "treeAll", fn := fun _ => fun
  | [d] => { results := [.lit (.bool false)], args := [d] }
  | _ => none }
def TreeAllWrongFalsely : Prop := treeAllRow.holds Tryz.pinned (OpenSpec.ofChange treeAllWrong)

/- THE SECOND FORM. 'bulk': how many values and letters a reading holds, each counted each time it is reached (what is shared counts as often as it is met; a slice's spare places count too). A statement '..UptoSaid' is the law's where the arguments, and the package variables that the reading takes, are together of bulk at most 1048576: NARROWER than '..Said'. Prove '..Said' where nothing that the law and all that it calls make is longer than what came in: it says more and counts as full. Else prove '..UptoSaid'. A law counts once. -/
mutual
def uptoBulk {H : Type} : DataW H → Nat
  | .lit (.string bytes) => bytes.length + 1
  | .lit _ => 1
  | .nil => 1
  | .ptr d => uptoBulk d + 1
  | .slice elems spare => uptoBulkAll elems + uptoBulkAll spare + 1
  | .agg parts => uptoBulkAll parts + 1
  | .iface _ d => uptoBulk d + 1
  | .map entries => uptoBulkEntries entries + 1
  | .held _ => 1
def uptoBulkAll {H : Type} : List (DataW H) → Nat
  | [] => 0
  | d :: r => uptoBulk d + uptoBulkAll r
def uptoBulkEntries {H : Type} : List (Lit × DataW H) → Nat
  | [] => 0
  | x :: r => uptoBulkEntry x + uptoBulkEntries r
def uptoBulkEntry {H : Type} : Lit × DataW H → Nat
  | (.string bytes, d) => bytes.length + uptoBulk d + 1
  | (_, d) => uptoBulk d + 1
 end
def uptoSmall : (H : Type) → List (DataW H) → Bool := fun _ ds => decide (uptoBulkAll ds ≤ 1048576)
def OpenSpec.upto (s : _root_.Go.ChangeSpec) : _root_.Go.OpenSpec := { _root_.Go.OpenSpec.ofChange s with cond := some uptoSmall }

/-- 'catchwordlaw21.ReachRows', WHERE WHAT IT READS IS OF BULK AT MOST 1048576: true; the input reads as it did. -/
def reachRowsUptoRow : OpenClaim := { program := "ytpioecahefokmaagreat", sum := "17ff487a8e41dabe55c0c0cf838a096c4c791cc8ab00888d625d20e63e69bdc6", func := "catchword/catchwordlaw21.ReachRows", spec := "reachRows", inPlace := ["slices.overlaps[catchword/api.Value]"], unfollowed := true, recurses := true, loops := true, apart := false, narrowed := true }
def ReachRowsUptoSaid : Prop := reachRowsUptoRow.holds Tryz.pinned (OpenSpec.upto reachRowsSpec)

/-- 'catchwordlaw20.TreeFinds', WHERE WHAT IT READS IS OF BULK AT MOST 1048576: true; the input reads as it did. -/
def treeFindsUptoRow : OpenClaim := { program := "ytpioecahefokmaagreat", sum := "17ff487a8e41dabe55c0c0cf838a096c4c791cc8ab00888d625d20e63e69bdc6", func := "catchword/catchwordlaw20.TreeFinds", spec := "treeFinds", inPlace := ["slices.overlaps[catchword/api.Value]"], unfollowed := true, recurses := true, loops := true, apart := false, narrowed := true }
def TreeFindsUptoSaid : Prop := treeFindsUptoRow.holds Tryz.pinned (OpenSpec.upto treeFindsSpec)

/-- 'catchwordlaw20.TreeAll', WHERE WHAT IT READS IS OF BULK AT MOST 1048576: true; the input reads as it did. -/
def treeAllUptoRow : OpenClaim := { program := "ytpioecahefokmaagreat", sum := "17ff487a8e41dabe55c0c0cf838a096c4c791cc8ab00888d625d20e63e69bdc6", func := "catchword/catchwordlaw20.TreeAll", spec := "treeAll", inPlace := ["slices.overlaps[catchword/api.Value]"], unfollowed := true, recurses := true, loops := true, apart := false, narrowed := true }
def TreeAllUptoSaid : Prop := treeAllUptoRow.holds Tryz.pinned (OpenSpec.upto treeAllSpec)

end Rows
end Go.Proofs.YtpioecahefokmaaGreat
