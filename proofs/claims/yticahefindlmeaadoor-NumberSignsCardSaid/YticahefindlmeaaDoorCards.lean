/-
  DERIVED. GIVEN WITH THE SEED: THE CARDS: each row of YticahefindlmeaaDoorRows.lean that lists a variable, with what it lists TIED to the program's text (the seventh form; the later family's looks); each row that meets fmt, with fmt's text TOLD by the authors' own Lean function (tested against real Go, not proved from fmt's source: count such statements apart). THE CARD IS WHAT COUNTS. Prove the row's statement (the work); the ties are given (YticahefindlmeaaDoorTie.lean); close each card by the builder's one call (the guide's Derived/Test/ToyasCard.lean, 'card_holds'). Laid BY PROGRAM, IN A SANDBOX (cutbox-door.mjs). By AI agents, Wed Nov 11 2026. No macro, syntax, notation, axiom, sorry.
-/
import Derived.Test.YticahefindlmeaaDoorRows
import GoSem.ClaimSeven
namespace Go.Proofs.YticahefindlmeaaDoor
namespace Rows

/-- THE TIED CARD OF 'pagemenderlaw02.NumberSigns'. -/
def numberSignsCard : Claim7 := { stood := { row := numberSignsRow, standIns := [], harness := (true, "3417e81d90d8b74077f47548c0c032044edf479507e2fd33dbdda661ea5dda56"), looks := false }, kinds := [], alts := [], laidByText := true, laidKinds := [.data, .data, .data, .data, .data, .data, .data, .pinned], laidTests := true, laidLooks := .later }
def NumberSignsCardSaid : Prop := Claim7.holds Tryd.pinned (.plain (OpenSpec.ofChange numberSignsSpec)) numberSignsCard

/-- THE SECOND FORM's CARD OF 'pagemenderlaw02.NumberSigns'. -/
def numberSignsUptoCard : Claim7 := { stood := { row := numberSignsUptoRow, standIns := [], harness := (true, "3417e81d90d8b74077f47548c0c032044edf479507e2fd33dbdda661ea5dda56"), looks := false }, kinds := [], alts := [], laidByText := true, laidKinds := [.data, .data, .data, .data, .data, .data, .data, .pinned], laidTests := true, laidLooks := .later }
def NumberSignsUptoCardSaid : Prop := Claim7.holds Tryd.pinned (.plain (OpenSpec.upto numberSignsSpec)) numberSignsUptoCard
end Rows
end Go.Proofs.YticahefindlmeaaDoor
