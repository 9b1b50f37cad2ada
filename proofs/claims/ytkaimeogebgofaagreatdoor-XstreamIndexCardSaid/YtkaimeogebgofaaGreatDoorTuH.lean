/-
  The document's Items, Refs walked (wip/mktug.py).
-/
import Derived.Test.YtkaimeogebgofaaGreatDoorTuG
namespace Go.Proofs.YtkaimeogebgofaaGreatDoor.Tr
open Go.RowKit

theorem ZsP.same {w w' : World} {v : Value} {Z : List Zd} (h : ZsP w v Z) (hs : ∀ k ∈ zsF v Z, w'.heap[k]? = w.heap[k]?) : ZsP w' v Z :=
  ⟨row_same h.row (fun g hg => hs g (by simp [zsF, hg])), fun p hp => row_same (h.kids p hp) (fun g hg => hs g (List.mem_append_right _ (kF_mem hp hg))), h.dup, h.wf⟩
end Go.Proofs.YtkaimeogebgofaaGreatDoor.Tr
