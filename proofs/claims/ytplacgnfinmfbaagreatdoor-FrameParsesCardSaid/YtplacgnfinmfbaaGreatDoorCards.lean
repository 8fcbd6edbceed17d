/-
  DERIVED. GIVEN WITH THE SEED: THE CARDS: each row of YtplacgnfinmfbaaGreatDoorRows.lean that lists a variable, with what it lists TIED to the program's text (the seventh form; the later family's looks); each row that meets fmt, with fmt's text TOLD by the authors' own Lean function (tested against real Go, not proved from fmt's source: count such statements apart). THE CARD IS WHAT COUNTS. Prove the row's statement (the work); the ties are given (YtplacgnfinmfbaaGreatDoorTie.lean); close each card by the builder's one call (the guide's Derived/Test/ToyasCard.lean, 'card_holds'). Laid BY PROGRAM, IN A SANDBOX (cutbox-door.mjs). By AI agents, Wed Nov 11 2026. No macro, syntax, notation, axiom, sorry.
-/
import Derived.Test.YtplacgnfinmfbaaGreatDoorRows
import GoSem.ClaimSeven
namespace Go.Proofs.YtplacgnfinmfbaaGreatDoor
namespace Rows

/-- THE TIED CARD OF 'catchwordlaw14.FrameParses'. -/
def frameParsesCard : Claim7 := { stood := { row := frameParsesRow, standIns := [], harness := (true, "b2177a98a635e4c490ed61a895036120674d964ff060c9bdf97e9f060d3466ee"), looks := false }, kinds := [], alts := [], laidByText := true, laidKinds := [.data, .pinned], laidTests := true, laidLooks := .later }
def FrameParsesCardSaid : Prop := Claim7.holds Tryz.pinned (.plain (OpenSpec.ofChange frameParsesSpec)) frameParsesCard

/-- THE TIED CARD OF 'catchwordlaw14.FrameStays'. -/
def frameStaysCard : Claim7 := { stood := { row := frameStaysRow, standIns := [], harness := (true, "b2177a98a635e4c490ed61a895036120674d964ff060c9bdf97e9f060d3466ee"), looks := false }, kinds := [], alts := [], laidByText := true, laidKinds := [.data, .pinned], laidTests := true, laidLooks := .later }
def FrameStaysCardSaid : Prop := Claim7.holds Tryz.pinned (.plain (OpenSpec.ofChange frameStaysSpec)) frameStaysCard

/-- THE SECOND FORM's CARD OF 'catchwordlaw14.FrameParses'. -/
def frameParsesUptoCard : Claim7 := { stood := { row := frameParsesUptoRow, standIns := [], harness := (true, "b2177a98a635e4c490ed61a895036120674d964ff060c9bdf97e9f060d3466ee"), looks := false }, kinds := [], alts := [], laidByText := true, laidKinds := [.data, .pinned], laidTests := true, laidLooks := .later }
def FrameParsesUptoCardSaid : Prop := Claim7.holds Tryz.pinned (.plain (OpenSpec.upto frameParsesSpec)) frameParsesUptoCard

/-- THE SECOND FORM's CARD OF 'catchwordlaw14.FrameStays'. -/
def frameStaysUptoCard : Claim7 := { stood := { row := frameStaysUptoRow, standIns := [], harness := (true, "b2177a98a635e4c490ed61a895036120674d964ff060c9bdf97e9f060d3466ee"), looks := false }, kinds := [], alts := [], laidByText := true, laidKinds := [.data, .pinned], laidTests := true, laidLooks := .later }
def FrameStaysUptoCardSaid : Prop := Claim7.holds Tryz.pinned (.plain (OpenSpec.upto frameStaysSpec)) frameStaysUptoCard
end Rows
end Go.Proofs.YtplacgnfinmfbaaGreatDoor
