/-
  The document's Depth, Get, Names walked (wip/mktug.py).
-/
import Derived.Test.YtkaimeogebgofaaGreatDoorTuE
import Derived.Test.YtkaimeogebgofaaGreatDoorTuF
namespace Go.Proofs.YtkaimeogebgofaaGreatDoor.Tr
open Go.RowKit

end Go.Proofs.YtkaimeogebgofaaGreatDoor.Tr
