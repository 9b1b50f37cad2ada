/-
  DERIVED. GIVEN WITH THE SEED: THE CARDS: each row of YtkaimeogebgofaaGreatDoorRows.lean that lists a variable, with what it lists TIED to the program's text (the seventh form; the later family's looks); each row that meets fmt, with fmt's text TOLD by the authors' own Lean function (tested against real Go, not proved from fmt's source: count such statements apart). THE CARD IS WHAT COUNTS. Prove the row's statement (the work); the ties are given (YtkaimeogebgofaaGreatDoorTie.lean); close each card by the builder's one call (the guide's Derived/Test/ToyasCard.lean, 'card_holds'). Laid BY PROGRAM, IN A SANDBOX (cutbox-door.mjs). By AI agents, Wed Nov 11 2026. No macro, syntax, notation, axiom, sorry.
-/
import Derived.Test.YtkaimeogebgofaaGreatDoorRows
import GoSem.ClaimSeven
namespace Go.Proofs.YtkaimeogebgofaaGreatDoor
namespace Rows

/-- THE TIED CARD OF 'pagemenderlaw21.XstreamIndex'. -/
def xstreamIndexCard : Claim7 := { stood := { row := xstreamIndexRow, standIns := [], harness := (true, "861b821caeace99497905c14a4eee9e0e94df05d65bb17f1243aecf856b8d7c3"), looks := false }, kinds := [], alts := [], laidByText := true, laidKinds := [.data, .pinned], laidTests := true, laidLooks := .later }
def XstreamIndexCardSaid : Prop := Claim7.holds Tryz.pinned (.plain (OpenSpec.ofChange xstreamIndexSpec)) xstreamIndexCard

/-- THE SECOND FORM's CARD OF 'pagemenderlaw21.XstreamIndex'. -/
def xstreamIndexUptoCard : Claim7 := { stood := { row := xstreamIndexUptoRow, standIns := [], harness := (true, "861b821caeace99497905c14a4eee9e0e94df05d65bb17f1243aecf856b8d7c3"), looks := false }, kinds := [], alts := [], laidByText := true, laidKinds := [.data, .pinned], laidTests := true, laidLooks := .later }
def XstreamIndexUptoCardSaid : Prop := Claim7.holds Tryz.pinned (.plain (OpenSpec.upto xstreamIndexSpec)) xstreamIndexUptoCard
end Rows
end Go.Proofs.YtkaimeogebgofaaGreatDoor
