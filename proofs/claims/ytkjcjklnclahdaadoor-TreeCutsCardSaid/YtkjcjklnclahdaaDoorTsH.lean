/-
  law17.TreeCuts, of what the card hands.
-/
import Derived.Test.YtkjcjklnclahdaaDoorTsF
import Derived.Test.YtkjcjklnclahdaaDoorTsG
namespace Go.Proofs.YtkjcjklnclahdaaDoor.Tr
open Go.RowKit

theorem cuts_card (v0 : Value) (a1 : Int) (W : World) (w0 : ∃ l, NodeArg W v0 l) (w1 : (Lit.int .i64 a1).wf = true) :
    Calls Tryd.prog 5 #[v0, .int .i64 a1] W fun e w' => e = .returned (.bool true) ∧ Ext [] W w' := by
  obtain ⟨l, h, hl⟩ := w0
  exact cuts_law v0 l a1 W h hl (Kt.wf_i64 w1)
end Go.Proofs.YtkjcjklnclahdaaDoor.Tr
