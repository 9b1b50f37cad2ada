/-
  law17.TreeBack, of what the card hands.
-/
import Derived.Test.YtkjcjklnclahdaaDoorTtO
namespace Go.Proofs.YtkjcjklnclahdaaDoor.Tr
open Go.RowKit

theorem back_card (v0 v1 : Value) (a2 : ByteArray) (v3 : Value) (W : World) (w0 : ∃ l, StrArg W v0 l) (w1 : ∃ ls, TreesArg W v1 ls) (w2 : a2.size ≤ maxLen) (w3 : ∃ l, NodeArg W v3 l) :
    Calls Tryd.prog 6 #[v0, v1, .string a2, v3] W fun e w' => e = .returned (.bool true) ∧ Ext [] W w' := by
  obtain ⟨l, h⟩ := w0
  obtain ⟨ls, h'⟩ := w1
  obtain ⟨t, h3⟩ := w3
  exact back_law v0 v1 v3 l ls a2 t W h h' (by unfold maxLen at w2; omega) h3
end Go.Proofs.YtkjcjklnclahdaaDoor.Tr
