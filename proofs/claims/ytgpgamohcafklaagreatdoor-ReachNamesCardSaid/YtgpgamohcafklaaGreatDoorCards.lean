/-
  DERIVED. GIVEN WITH THE SEED: THE CARDS: each row of YtgpgamohcafklaaGreatDoorRows.lean that lists a variable, with what it lists TIED to the program's text (the seventh form; the later family's looks); each row that meets fmt, with fmt's text TOLD by the authors' own Lean function (tested against real Go, not proved from fmt's source: count such statements apart). THE CARD IS WHAT COUNTS. Prove the row's statement (the work); the ties are given (YtgpgamohcafklaaGreatDoorTie.lean); close each card by the builder's one call (the guide's Derived/Test/ToyasCard.lean, 'card_holds'). Laid BY PROGRAM, IN A SANDBOX (cutbox-door.mjs). By AI agents, Wed Nov 11 2026. No macro, syntax, notation, axiom, sorry.
-/
import Derived.Test.YtgpgamohcafklaaGreatDoorRows
import GoSem.ClaimSeven
namespace Go.Proofs.YtgpgamohcafklaaGreatDoor
namespace Rows

/-- THE TIED CARD OF 'pagemenderlaw27.ReachNames'. -/
def reachNamesCard : Claim7 := { stood := { row := reachNamesRow, standIns := [], harness := (true, "af85fc5652a9da00c8238d1617eedea9a5320fcc82a830ee06d454863eb513ab"), looks := false }, kinds := [], alts := [], laidByText := true, laidKinds := [.data, .pinned], laidTests := true, laidLooks := .later }
def ReachNamesCardSaid : Prop := Claim7.holds Tryz.pinned (.plain (OpenSpec.ofChange reachNamesSpec)) reachNamesCard

/-- THE SECOND FORM's CARD OF 'pagemenderlaw27.ReachNames'. -/
def reachNamesUptoCard : Claim7 := { stood := { row := reachNamesUptoRow, standIns := [], harness := (true, "af85fc5652a9da00c8238d1617eedea9a5320fcc82a830ee06d454863eb513ab"), looks := false }, kinds := [], alts := [], laidByText := true, laidKinds := [.data, .pinned], laidTests := true, laidLooks := .later }
def ReachNamesUptoCardSaid : Prop := Claim7.holds Tryz.pinned (.plain (OpenSpec.upto reachNamesSpec)) reachNamesUptoCard
end Rows
end Go.Proofs.YtgpgamohcafklaaGreatDoor
