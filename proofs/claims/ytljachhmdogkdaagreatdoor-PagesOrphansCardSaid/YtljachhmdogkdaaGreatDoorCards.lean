/-
  DERIVED. GIVEN WITH THE SEED: THE CARDS: each row of YtljachhmdogkdaaGreatDoorRows.lean that lists a variable, with what it lists TIED to the program's text (the seventh form; the later family's looks); each row that meets fmt, with fmt's text TOLD by the authors' own Lean function (tested against real Go, not proved from fmt's source: count such statements apart). THE CARD IS WHAT COUNTS. Prove the row's statement (the work); the ties are given (YtljachhmdogkdaaGreatDoorTie.lean); close each card by the builder's one call (the guide's Derived/Test/ToyasCard.lean, 'card_holds'). Laid BY PROGRAM, IN A SANDBOX (cutbox-door.mjs). By AI agents, Wed Nov 11 2026. No macro, syntax, notation, axiom, sorry.
-/
import Derived.Test.YtljachhmdogkdaaGreatDoorRows
import GoSem.ClaimSeven
namespace Go.Proofs.YtljachhmdogkdaaGreatDoor
namespace Rows

/-- THE TIED CARD OF 'pagemenderlaw28.PagesNames'. -/
def pagesNamesCard : Claim7 := { stood := { row := pagesNamesRow, standIns := [], harness := (true, "f7b680bef8e193a0d65093b6e2fea9644153bea0d7b49266b638f745cc6410dd"), looks := true }, kinds := [], alts := [], laidByText := true, laidKinds := [.data, .pinned], laidTests := true, laidLooks := .later }
def PagesNamesCardSaid : Prop := Claim7.holds Tryz.pinned (.plain (OpenSpec.ofChange pagesNamesSpec)) pagesNamesCard

/-- THE TIED CARD OF 'pagemenderlaw28.PagesOrphans'. -/
def pagesOrphansCard : Claim7 := { stood := { row := pagesOrphansRow, standIns := [], harness := (true, "f7b680bef8e193a0d65093b6e2fea9644153bea0d7b49266b638f745cc6410dd"), looks := true }, kinds := [], alts := [], laidByText := true, laidKinds := [.data, .pinned], laidTests := true, laidLooks := .later }
def PagesOrphansCardSaid : Prop := Claim7.holds Tryz.pinned (.plain (OpenSpec.ofChange pagesOrphansSpec)) pagesOrphansCard

/-- THE SECOND FORM's CARD OF 'pagemenderlaw28.PagesNames'. -/
def pagesNamesUptoCard : Claim7 := { stood := { row := pagesNamesUptoRow, standIns := [], harness := (true, "f7b680bef8e193a0d65093b6e2fea9644153bea0d7b49266b638f745cc6410dd"), looks := true }, kinds := [], alts := [], laidByText := true, laidKinds := [.data, .pinned], laidTests := true, laidLooks := .later }
def PagesNamesUptoCardSaid : Prop := Claim7.holds Tryz.pinned (.plain (OpenSpec.upto pagesNamesSpec)) pagesNamesUptoCard

/-- THE SECOND FORM's CARD OF 'pagemenderlaw28.PagesOrphans'. -/
def pagesOrphansUptoCard : Claim7 := { stood := { row := pagesOrphansUptoRow, standIns := [], harness := (true, "f7b680bef8e193a0d65093b6e2fea9644153bea0d7b49266b638f745cc6410dd"), looks := true }, kinds := [], alts := [], laidByText := true, laidKinds := [.data, .pinned], laidTests := true, laidLooks := .later }
def PagesOrphansUptoCardSaid : Prop := Claim7.holds Tryz.pinned (.plain (OpenSpec.upto pagesOrphansSpec)) pagesOrphansUptoCard
end Rows
end Go.Proofs.YtljachhmdogkdaaGreatDoor
