/-
  DERIVED. GIVEN WITH THE SEED: THE CARDS: each row of YtbbhbgccmekheaaDoorRows.lean that lists a variable, with what it lists TIED to the program's text (the seventh form; the later family's looks); each row that meets fmt, with fmt's text TOLD by the authors' own Lean function (tested against real Go, not proved from fmt's source: count such statements apart). THE CARD IS WHAT COUNTS. Prove the row's statement (the work); the ties are given (YtbbhbgccmekheaaDoorTie.lean); close each card by the builder's one call (the guide's Derived/Test/ToyasCard.lean, 'card_holds'). Laid BY PROGRAM, IN A SANDBOX (cutbox-door.mjs). By AI agents, Wed Nov 11 2026. No macro, syntax, notation, axiom, sorry.
-/
import Derived.Test.YtbbhbgccmekheaaDoorRows
import GoSem.ClaimSeven
namespace Go.Proofs.YtbbhbgccmekheaaDoor
namespace Rows

/-- THE TIED CARD OF 'bastillelaw19.SpaceDoes'. -/
def spaceDoesCard : Claim7 := { stood := { row := spaceDoesRow, standIns := [], harness := (true, "5b251f2c3d97476876737dd91bb9e2a2b3a5bd057388b3d7645507e814276977"), looks := false }, kinds := [], alts := [], laidByText := true, laidKinds := [.data], laidTests := true, laidLooks := .later }
def SpaceDoesCardSaid : Prop := Claim7.holds Tryd.pinned (.plain (OpenSpec.ofChange spaceDoesSpec)) spaceDoesCard

/-- THE TIED CARD OF 'bastillelaw19.SpaceOnce'. -/
def spaceOnceCard : Claim7 := { stood := { row := spaceOnceRow, standIns := [], harness := (true, "5b251f2c3d97476876737dd91bb9e2a2b3a5bd057388b3d7645507e814276977"), looks := false }, kinds := [], alts := [], laidByText := true, laidKinds := [.data], laidTests := true, laidLooks := .later }
def SpaceOnceCardSaid : Prop := Claim7.holds Tryd.pinned (.plain (OpenSpec.ofChange spaceOnceSpec)) spaceOnceCard

/-- THE TIED CARD OF 'bastillelaw19.SpaceBytes'. -/
def spaceBytesCard : Claim7 := { stood := { row := spaceBytesRow, standIns := [], harness := (true, "5b251f2c3d97476876737dd91bb9e2a2b3a5bd057388b3d7645507e814276977"), looks := false }, kinds := [], alts := [], laidByText := true, laidKinds := [.data], laidTests := true, laidLooks := .later }
def SpaceBytesCardSaid : Prop := Claim7.holds Tryd.pinned (.plain (OpenSpec.ofChange spaceBytesSpec)) spaceBytesCard

/-- THE TIED CARD OF 'bastillelaw42.ShowTable'. -/
def showTableCard : Claim7 := { stood := { row := showTableRow, standIns := [], harness := (true, "5b251f2c3d97476876737dd91bb9e2a2b3a5bd057388b3d7645507e814276977"), looks := false }, kinds := [], alts := [], laidByText := true, laidKinds := [.data, .pinned], laidTests := true, laidLooks := .later }
def ShowTableCardSaid : Prop := Claim7.holds Tryd.pinned (.plain (OpenSpec.ofChange showTableSpec)) showTableCard

/-- THE SECOND FORM's CARD OF 'bastillelaw19.SpaceDoes'. -/
def spaceDoesUptoCard : Claim7 := { stood := { row := spaceDoesUptoRow, standIns := [], harness := (true, "5b251f2c3d97476876737dd91bb9e2a2b3a5bd057388b3d7645507e814276977"), looks := false }, kinds := [], alts := [], laidByText := true, laidKinds := [.data], laidTests := true, laidLooks := .later }
def SpaceDoesUptoCardSaid : Prop := Claim7.holds Tryd.pinned (.plain (OpenSpec.upto spaceDoesSpec)) spaceDoesUptoCard

/-- THE SECOND FORM's CARD OF 'bastillelaw19.SpaceOnce'. -/
def spaceOnceUptoCard : Claim7 := { stood := { row := spaceOnceUptoRow, standIns := [], harness := (true, "5b251f2c3d97476876737dd91bb9e2a2b3a5bd057388b3d7645507e814276977"), looks := false }, kinds := [], alts := [], laidByText := true, laidKinds := [.data], laidTests := true, laidLooks := .later }
def SpaceOnceUptoCardSaid : Prop := Claim7.holds Tryd.pinned (.plain (OpenSpec.upto spaceOnceSpec)) spaceOnceUptoCard

/-- THE SECOND FORM's CARD OF 'bastillelaw19.SpaceBytes'. -/
def spaceBytesUptoCard : Claim7 := { stood := { row := spaceBytesUptoRow, standIns := [], harness := (true, "5b251f2c3d97476876737dd91bb9e2a2b3a5bd057388b3d7645507e814276977"), looks := false }, kinds := [], alts := [], laidByText := true, laidKinds := [.data], laidTests := true, laidLooks := .later }
def SpaceBytesUptoCardSaid : Prop := Claim7.holds Tryd.pinned (.plain (OpenSpec.upto spaceBytesSpec)) spaceBytesUptoCard

/-- THE SECOND FORM's CARD OF 'bastillelaw42.ShowTable'. -/
def showTableUptoCard : Claim7 := { stood := { row := showTableUptoRow, standIns := [], harness := (true, "5b251f2c3d97476876737dd91bb9e2a2b3a5bd057388b3d7645507e814276977"), looks := false }, kinds := [], alts := [], laidByText := true, laidKinds := [.data, .pinned], laidTests := true, laidLooks := .later }
def ShowTableUptoCardSaid : Prop := Claim7.holds Tryd.pinned (.plain (OpenSpec.upto showTableSpec)) showTableUptoCard
end Rows
end Go.Proofs.YtbbhbgccmekheaaDoor
