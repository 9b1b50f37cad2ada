/-
  The document's Array walked.
-/
import Derived.Test.YtkjcjklnclahdaaGreatDoorTtZ
namespace Go.Proofs.YtkjcjklnclahdaaGreatDoor.Tr
open Go.RowKit

end Go.Proofs.YtkjcjklnclahdaaGreatDoor.Tr
