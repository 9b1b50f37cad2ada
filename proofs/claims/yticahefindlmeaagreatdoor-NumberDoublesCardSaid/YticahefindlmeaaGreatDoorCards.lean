/-
  DERIVED. GIVEN WITH THE SEED: THE CARDS: each row of YticahefindlmeaaGreatDoorRows.lean that lists a variable, with what it lists TIED to the program's text (the seventh form; the later family's looks); each row that meets fmt, with fmt's text TOLD by the authors' own Lean function (tested against real Go, not proved from fmt's source: count such statements apart). THE CARD IS WHAT COUNTS. Prove the row's statement (the work); the ties are given (YticahefindlmeaaGreatDoorTie.lean); close each card by the builder's one call (the guide's Derived/Test/ToyasCard.lean, 'card_holds'). Laid BY PROGRAM, IN A SANDBOX (cutbox-door.mjs). By AI agents, Wed Nov 11 2026. No macro, syntax, notation, axiom, sorry.
-/
import Derived.Test.YticahefindlmeaaGreatDoorRows
import GoSem.ClaimSeven
namespace Go.Proofs.YticahefindlmeaaGreatDoor
namespace Rows

/-- THE TIED CARD OF 'pagemenderlaw02.NumberOrder'. -/
def numberOrderCard : Claim7 := { stood := { row := numberOrderRow, standIns := [], harness := (true, "c498c9cc94c1836e6b31015008ea447724d94021acd38a1b48c2f2758257a095"), looks := true }, kinds := [], alts := [], laidByText := true, laidKinds := [.data, .data, .data, .data, .data, .data, .data, .sentinel, .sentinel, .pinned], laidTests := true, laidLooks := .later }
def NumberOrderCardSaid : Prop := Claim7.holds Tryz.pinned (.plain (OpenSpec.ofChange numberOrderSpec)) numberOrderCard

/-- THE TIED CARD OF 'pagemenderlaw02.NumberDoubles'. -/
def numberDoublesCard : Claim7 := { stood := { row := numberDoublesRow, standIns := [], harness := (true, "c498c9cc94c1836e6b31015008ea447724d94021acd38a1b48c2f2758257a095"), looks := true }, kinds := [], alts := [], laidByText := true, laidKinds := [.data, .data, .data, .data, .data, .data, .data, .sentinel, .sentinel, .pinned], laidTests := true, laidLooks := .later }
def NumberDoublesCardSaid : Prop := Claim7.holds Tryz.pinned (.plain (OpenSpec.ofChange numberDoublesSpec)) numberDoublesCard

/-- THE TIED CARD OF 'pagemenderlaw02.NumberNames'. -/
def numberNamesCard : Claim7 := { stood := { row := numberNamesRow, standIns := [], harness := (true, "c498c9cc94c1836e6b31015008ea447724d94021acd38a1b48c2f2758257a095"), looks := true }, kinds := [], alts := [], laidByText := true, laidKinds := [.data, .data, .data, .data, .data, .data, .data, .sentinel, .sentinel, .pinned], laidTests := true, laidLooks := .later }
def NumberNamesCardSaid : Prop := Claim7.holds Tryz.pinned (.plain (OpenSpec.ofChange numberNamesSpec)) numberNamesCard

/-- THE SECOND FORM's CARD OF 'pagemenderlaw02.NumberOrder'. -/
def numberOrderUptoCard : Claim7 := { stood := { row := numberOrderUptoRow, standIns := [], harness := (true, "c498c9cc94c1836e6b31015008ea447724d94021acd38a1b48c2f2758257a095"), looks := true }, kinds := [], alts := [], laidByText := true, laidKinds := [.data, .data, .data, .data, .data, .data, .data, .sentinel, .sentinel, .pinned], laidTests := true, laidLooks := .later }
def NumberOrderUptoCardSaid : Prop := Claim7.holds Tryz.pinned (.plain (OpenSpec.upto numberOrderSpec)) numberOrderUptoCard

/-- THE SECOND FORM's CARD OF 'pagemenderlaw02.NumberDoubles'. -/
def numberDoublesUptoCard : Claim7 := { stood := { row := numberDoublesUptoRow, standIns := [], harness := (true, "c498c9cc94c1836e6b31015008ea447724d94021acd38a1b48c2f2758257a095"), looks := true }, kinds := [], alts := [], laidByText := true, laidKinds := [.data, .data, .data, .data, .data, .data, .data, .sentinel, .sentinel, .pinned], laidTests := true, laidLooks := .later }
def NumberDoublesUptoCardSaid : Prop := Claim7.holds Tryz.pinned (.plain (OpenSpec.upto numberDoublesSpec)) numberDoublesUptoCard

/-- THE SECOND FORM's CARD OF 'pagemenderlaw02.NumberNames'. -/
def numberNamesUptoCard : Claim7 := { stood := { row := numberNamesUptoRow, standIns := [], harness := (true, "c498c9cc94c1836e6b31015008ea447724d94021acd38a1b48c2f2758257a095"), looks := true }, kinds := [], alts := [], laidByText := true, laidKinds := [.data, .data, .data, .data, .data, .data, .data, .sentinel, .sentinel, .pinned], laidTests := true, laidLooks := .later }
def NumberNamesUptoCardSaid : Prop := Claim7.holds Tryz.pinned (.plain (OpenSpec.upto numberNamesSpec)) numberNamesUptoCard
end Rows
end Go.Proofs.YticahefindlmeaaGreatDoor
