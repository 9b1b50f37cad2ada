/-
  The chapter's examples come out as the statements' 'lives' asks (layer 6, bits).
-/
import Derived.Test.YtcbmapbpggjblaaBitsUse
namespace Go.Proofs.Ytcbmapbpggjblaa.Bt
open Go.RowKit

theorem g3lo : getv ⟨#[180]⟩ false 0 3 = 4 := by decide
theorem g3hi : getv ⟨#[180]⟩ true 0 3 = 5 := by decide
theorem t3lo : txt (packB false ([] ++ bitsOf false 1 1 ++ bitsOf false 2 2)) = ⟨#[5]⟩ := by decide
theorem t3hi : txt (packB true ([] ++ bitsOf true 1 1 ++ bitsOf true 2 2)) = ⟨#[192]⟩ := by decide

set_option maxHeartbeats 4000000 in
theorem lives_any (w : World) : Calls Try.prog 10 #[] w fun e w' => e = .returned (.bool true) ∧ Ext [] w w' := by
  have S := Sep.start w
  go_enter Try.func10, Try.ntmps10
  go_wp2_with fail
  refine (sRnew ⟨#[180]⟩ false S).mono ?_; clear S; rintro e w1 ⟨b1, rfl, S⟩
  go_wp2_with fail
  refine (sRnew ⟨#[180]⟩ true S).mono ?_; clear S; rintro e w2 ⟨b2, rfl, S⟩
  go_wp2_with fail
  refine (sWnew false S).mono ?_; clear S; rintro e w3 ⟨b3, rfl, S⟩
  go_wp2_with fail
  refine (sWnew true S).mono ?_; clear S; rintro e w4 ⟨b4, rfl, S⟩
  go_wp2_with fail
  refine (sGet (n := 3) 3 S rfl (by decide) (by decide) (by decide)).mono ?_; clear S; rintro e w5 ⟨rfl, S⟩; rw [g3lo]
  go_wp2_with fail
  refine (sGet (n := 3) 2 S rfl (by decide) (by decide) (by decide)).mono ?_; clear S; rintro e w6 ⟨rfl, S⟩; rw [g3hi]
  go_wp2_with fail
  refine (sPut (v := 1) (n := 1) 1 S rfl (by decide) (by decide) (by decide) (by decide)).mono ?_; clear S; rintro e w7 ⟨rfl, F7, S⟩
  go_wp2_with fail
  refine (sPut (v := 2) (n := 2) 1 S rfl (by decide) (by decide) (by decide) (by decide)).mono ?_; clear S; rintro e w8 ⟨rfl, F8, S⟩
  go_wp2_with fail
  refine (sPut (v := 1) (n := 1) 0 S rfl (by decide) (by decide) (by decide) (by decide)).mono ?_; clear S; rintro e w9 ⟨rfl, F9, S⟩
  go_wp2_with fail
  refine (sPut (v := 2) (n := 2) 0 S rfl (by decide) (by decide) (by decide) (by decide)).mono ?_; clear S; rintro e w10 ⟨rfl, F10, S⟩
  go_wp2_with fail
  refine (sText 1 S rfl).mono ?_; rintro e w11 ⟨rfl, rfl⟩
  rw [t3lo]
  go_wp2_with fail
  refine (sText 0 S rfl).mono ?_; rintro e w12 ⟨rfl, rfl⟩
  rw [t3hi]
  go_wp2_with fail
  go_ret
  exact ⟨rfl, S.ext⟩
end Go.Proofs.Ytcbmapbpggjblaa.Bt
