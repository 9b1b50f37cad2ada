/-
  The chapter's examples come out as the statements' 'lives' asks (layer 6, bits).
-/
import Derived.Test.YtcbllkopolbhaaaBitsUse
namespace Go.Proofs.Ytcbllkopolbhaaa.Bt
open Go.RowKit

theorem g3lo : getv ⟨#[180]⟩ false 0 3 = 4 := by decide
theorem g3hi : getv ⟨#[180]⟩ true 0 3 = 5 := by decide
theorem t3lo : txt (packB false ([] ++ bitsOf false 1 1 ++ bitsOf false 2 2)) = ⟨#[5]⟩ := by decide
theorem t3hi : txt (packB true ([] ++ bitsOf true 1 1 ++ bitsOf true 2 2)) = ⟨#[192]⟩ := by decide

end Go.Proofs.Ytcbllkopolbhaaa.Bt
