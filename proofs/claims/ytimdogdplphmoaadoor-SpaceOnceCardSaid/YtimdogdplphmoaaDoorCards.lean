/-
  DERIVED. GIVEN WITH THE SEED: THE CARDS: each row of YtimdogdplphmoaaDoorRows.lean that lists a variable, with what it lists TIED to the program's text (the seventh form; the later family's looks); each row that meets fmt, with fmt's text TOLD by the authors' own Lean function (tested against real Go, not proved from fmt's source: count such statements apart). THE CARD IS WHAT COUNTS. Prove the row's statement (the work); the ties are given (YtimdogdplphmoaaDoorTie.lean); close each card by the builder's one call (the guide's Derived/Test/ToyasCard.lean, 'card_holds'). Laid BY PROGRAM, IN A SANDBOX (cutbox-door.mjs). By AI agents, Wed Nov 11 2026. No macro, syntax, notation, axiom, sorry.
-/
import Derived.Test.YtimdogdplphmoaaDoorRows
import GoSem.ClaimSeven
namespace Go.Proofs.YtimdogdplphmoaaDoor
namespace Rows

/-- THE TIED CARD OF 'bastillelaw19.SpaceDoes'. -/
def spaceDoesCard : Claim7 := { stood := { row := spaceDoesRow, standIns := [], harness := (true, "62a5407c3e57d3b7b103ac3a7ac6865f1535c3f9edaea5f1f8897b57d67b744d"), looks := false }, kinds := [], alts := [], laidByText := true, laidKinds := [.data], laidTests := true, laidLooks := .later }
def SpaceDoesCardSaid : Prop := Claim7.holds Tryd.pinned (.plain (OpenSpec.ofChange spaceDoesSpec)) spaceDoesCard

/-- THE TIED CARD OF 'bastillelaw19.SpaceOnce'. -/
def spaceOnceCard : Claim7 := { stood := { row := spaceOnceRow, standIns := [], harness := (true, "62a5407c3e57d3b7b103ac3a7ac6865f1535c3f9edaea5f1f8897b57d67b744d"), looks := false }, kinds := [], alts := [], laidByText := true, laidKinds := [.data], laidTests := true, laidLooks := .later }
def SpaceOnceCardSaid : Prop := Claim7.holds Tryd.pinned (.plain (OpenSpec.ofChange spaceOnceSpec)) spaceOnceCard

/-- THE TIED CARD OF 'bastillelaw19.SpaceBytes'. -/
def spaceBytesCard : Claim7 := { stood := { row := spaceBytesRow, standIns := [], harness := (true, "62a5407c3e57d3b7b103ac3a7ac6865f1535c3f9edaea5f1f8897b57d67b744d"), looks := false }, kinds := [], alts := [], laidByText := true, laidKinds := [.data], laidTests := true, laidLooks := .later }
def SpaceBytesCardSaid : Prop := Claim7.holds Tryd.pinned (.plain (OpenSpec.ofChange spaceBytesSpec)) spaceBytesCard

/-- THE SECOND FORM's CARD OF 'bastillelaw19.SpaceDoes'. -/
def spaceDoesUptoCard : Claim7 := { stood := { row := spaceDoesUptoRow, standIns := [], harness := (true, "62a5407c3e57d3b7b103ac3a7ac6865f1535c3f9edaea5f1f8897b57d67b744d"), looks := false }, kinds := [], alts := [], laidByText := true, laidKinds := [.data], laidTests := true, laidLooks := .later }
def SpaceDoesUptoCardSaid : Prop := Claim7.holds Tryd.pinned (.plain (OpenSpec.upto spaceDoesSpec)) spaceDoesUptoCard

/-- THE SECOND FORM's CARD OF 'bastillelaw19.SpaceOnce'. -/
def spaceOnceUptoCard : Claim7 := { stood := { row := spaceOnceUptoRow, standIns := [], harness := (true, "62a5407c3e57d3b7b103ac3a7ac6865f1535c3f9edaea5f1f8897b57d67b744d"), looks := false }, kinds := [], alts := [], laidByText := true, laidKinds := [.data], laidTests := true, laidLooks := .later }
def SpaceOnceUptoCardSaid : Prop := Claim7.holds Tryd.pinned (.plain (OpenSpec.upto spaceOnceSpec)) spaceOnceUptoCard

/-- THE SECOND FORM's CARD OF 'bastillelaw19.SpaceBytes'. -/
def spaceBytesUptoCard : Claim7 := { stood := { row := spaceBytesUptoRow, standIns := [], harness := (true, "62a5407c3e57d3b7b103ac3a7ac6865f1535c3f9edaea5f1f8897b57d67b744d"), looks := false }, kinds := [], alts := [], laidByText := true, laidKinds := [.data], laidTests := true, laidLooks := .later }
def SpaceBytesUptoCardSaid : Prop := Claim7.holds Tryd.pinned (.plain (OpenSpec.upto spaceBytesSpec)) spaceBytesUptoCard
end Rows
end Go.Proofs.YtimdogdplphmoaaDoor
