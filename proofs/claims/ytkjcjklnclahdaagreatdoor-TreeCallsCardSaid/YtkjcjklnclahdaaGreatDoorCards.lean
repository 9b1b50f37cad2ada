/-
  DERIVED. GIVEN WITH THE SEED: THE CARDS: each row of YtkjcjklnclahdaaGreatDoorRows.lean that lists a variable, with what it lists TIED to the program's text (the seventh form; the later family's looks); each row that meets fmt, with fmt's text TOLD by the authors' own Lean function (tested against real Go, not proved from fmt's source: count such statements apart). THE CARD IS WHAT COUNTS. Prove the row's statement (the work); the ties are given (YtkjcjklnclahdaaGreatDoorTie.lean); close each card by the builder's one call (the guide's Derived/Test/ToyasCard.lean, 'card_holds'). Laid BY PROGRAM, IN A SANDBOX (cutbox-door.mjs). By AI agents, Wed Nov 11 2026. No macro, syntax, notation, axiom, sorry.
-/
import Derived.Test.YtkjcjklnclahdaaGreatDoorRows
import GoSem.ClaimSeven
namespace Go.Proofs.YtkjcjklnclahdaaGreatDoor
namespace Rows

/-- THE TIED CARD OF 'pagemenderlaw17.TreeCalls'. -/
def treeCallsCard : Claim7 := { stood := { row := treeCallsRow, standIns := [], harness := (true, "ef458782aab3ae102affd46254419156ef66b5b891dd5d08ff70d1a98ac7c420"), looks := false }, kinds := [], alts := [], laidByText := true, laidKinds := [.data, .pinned], laidTests := true, laidLooks := .later }
def TreeCallsCardSaid : Prop := Claim7.holds Tryz.pinned (.plain (OpenSpec.ofChange treeCallsSpec)) treeCallsCard

/-- THE SECOND FORM's CARD OF 'pagemenderlaw17.TreeCalls'. -/
def treeCallsUptoCard : Claim7 := { stood := { row := treeCallsUptoRow, standIns := [], harness := (true, "ef458782aab3ae102affd46254419156ef66b5b891dd5d08ff70d1a98ac7c420"), looks := false }, kinds := [], alts := [], laidByText := true, laidKinds := [.data, .pinned], laidTests := true, laidLooks := .later }
def TreeCallsUptoCardSaid : Prop := Claim7.holds Tryz.pinned (.plain (OpenSpec.upto treeCallsSpec)) treeCallsUptoCard
end Rows
end Go.Proofs.YtkjcjklnclahdaaGreatDoor
