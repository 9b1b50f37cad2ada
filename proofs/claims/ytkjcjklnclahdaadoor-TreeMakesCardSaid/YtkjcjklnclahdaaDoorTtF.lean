/-
  law17.TreeOrder, of what the card hands.
-/
import Derived.Test.YtkjcjklnclahdaaDoorTtE
namespace Go.Proofs.YtkjcjklnclahdaaDoor.Tr
open Go.RowKit

theorem order_card (v0 v1 : Value) (a2 : Int) (W : World) (w0 : ∃ l, StrArg W v0 l) (w1 : ∃ ls, TreesArg W v1 ls) (w2 : (Lit.int .i64 a2).wf = true) :
    Calls Tryd.prog 4 #[v0, v1, .int .i64 a2] W fun e w' => e = .returned (.bool true) ∧ Ext [] W w' := by
  obtain ⟨l, h⟩ := w0
  obtain ⟨ls, h'⟩ := w1
  exact order_law v0 v1 l ls a2 W h h' (Kt.wf_i64 w2)
end Go.Proofs.YtkjcjklnclahdaaDoor.Tr
