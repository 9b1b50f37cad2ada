/-
  DERIVED. GIVEN WITH THE SEED: THE CARDS: each row of YtkaimeogebgofaaDoorRows.lean that lists a variable, with what it lists TIED to the program's text (the seventh form; the later family's looks); each row that meets fmt, with fmt's text TOLD by the authors' own Lean function (tested against real Go, not proved from fmt's source: count such statements apart). THE CARD IS WHAT COUNTS. Prove the row's statement (the work); the ties are given (YtkaimeogebgofaaDoorTie.lean); close each card by the builder's one call (the guide's Derived/Test/ToyasCard.lean, 'card_holds'). Laid BY PROGRAM, IN A SANDBOX (cutbox-door.mjs). By AI agents, Wed Nov 11 2026. No macro, syntax, notation, axiom, sorry.
-/
import Derived.Test.YtkaimeogebgofaaDoorRows
import GoSem.ClaimSeven
namespace Go.Proofs.YtkaimeogebgofaaDoor
namespace Rows

/-- THE TIED CARD OF 'pagemenderlaw21.XstreamBack'. -/
def xstreamBackCard : Claim7 := { stood := { row := xstreamBackRow, standIns := [], harness := (true, "b2a2af16a6c8983d1c0661dbccc2ea4e28e53edc7ea22c97006195aac3f88898"), looks := false }, kinds := [], alts := [], laidByText := true, laidKinds := [.data, .pinned], laidTests := true, laidLooks := .later }
def XstreamBackCardSaid : Prop := Claim7.holds Tryd.pinned (.plain (OpenSpec.ofChange xstreamBackSpec)) xstreamBackCard

/-- THE SECOND FORM's CARD OF 'pagemenderlaw21.XstreamBack'. -/
def xstreamBackUptoCard : Claim7 := { stood := { row := xstreamBackUptoRow, standIns := [], harness := (true, "b2a2af16a6c8983d1c0661dbccc2ea4e28e53edc7ea22c97006195aac3f88898"), looks := false }, kinds := [], alts := [], laidByText := true, laidKinds := [.data, .pinned], laidTests := true, laidLooks := .later }
def XstreamBackUptoCardSaid : Prop := Claim7.holds Tryd.pinned (.plain (OpenSpec.upto xstreamBackSpec)) xstreamBackUptoCard
end Rows
end Go.Proofs.YtkaimeogebgofaaDoor
