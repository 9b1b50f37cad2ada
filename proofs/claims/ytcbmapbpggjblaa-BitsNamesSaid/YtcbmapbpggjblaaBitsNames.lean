/-
  The walk of BitsNames: the chapter's examples come out as it tells.
-/
import Derived.Test.YtcbmapbpggjblaaBitsLives
namespace Go.Proofs.Ytcbmapbpggjblaa.Bt
open Go.RowKit

theorem sGetArg {w0 w : World} {L : List Ob} {b : Nat} {n : Int} (S : Sep w0 w L) (hn : n < 0 ∨ 32 < n) :
    Calls Try.prog 13 #[.pointer (some ⟨b, 0, none⟩), .int .i64 n] w fun e w' => e = .returned (.tuple #[.int .u32 0, .int .i64 2]) ∧ Sep w0 w' L :=
  (get_arg b n w hn).mono fun _ _ ⟨he, hw⟩ => ⟨he, hw ▸ S⟩
theorem sPutArg {w0 w : World} {L : List Ob} {b : Nat} {v n : Int} (S : Sep w0 w L) (h0 : 0 ≤ v) (hv : v < 4294967296) (hn : n < 0 ∨ 32 < n ∨ (0 ≤ n ∧ n ≤ 32 ∧ (2 : Int) ^ n.toNat ≤ v)) :
    Calls Try.prog 24 #[.pointer (some ⟨b, 0, none⟩), .int .u32 v, .int .i64 n] w fun e w' => e = .returned (.int .i64 2) ∧ Sep w0 w' L :=
  (wput_arg b v n w h0 hv hn).mono fun _ _ ⟨he, hw⟩ => ⟨he, hw ▸ S⟩
theorem tnames : txt (packB true ([] ++ bitsOf true 3 2 ++ List.replicate (gap ([] ++ bitsOf true 3 2).length) 0)) = ⟨#[192]⟩ := by decide
theorem gnames : gap ([] ++ bitsOf true 3 2).length = 6 := by decide
theorem lnames : ([] ++ bitsOf true 3 2 ++ List.replicate (gap ([] ++ bitsOf true 3 2).length) 0).length = 8 := by decide

set_option maxHeartbeats 4000000 in
theorem bitsNames_walk (w : World) :
    Calls Try.prog 7 #[] w fun e w' => e = .returned (.bool true) ∧ Ext [] w w' := by
  go_enter Try.func7, Try.ntmps7
  go_wp2_with fail
  refine (lives_any w).mono ?_; rintro e w1 ⟨rfl, hx⟩
  have S := (Sep.start w).quiet hx
  clear hx
  go_wp2_with fail
  refine (sRnew ⟨#[97, 98]⟩ false S).mono ?_; clear S; rintro e w3 ⟨b1, rfl, S⟩
  go_wp2_with fail
  refine (sWnew true S).mono ?_; clear S; rintro e w3 ⟨b2, rfl, S⟩
  go_wp2_with fail
  refine (sGet (n := 0) 1 S rfl (by decide) (by decide) (by decide)).mono ?_; clear S; rintro e w4 ⟨rfl, S⟩
  rw [show getv ⟨#[97, 98]⟩ false 0 0 = 0 from rfl]
  go_wp2_with fail
  refine (sGetArg S (by decide)).mono ?_; clear S; rintro e w5 ⟨rfl, S⟩
  go_wp2_with fail
  refine (sGetMore (n := 17) 1 S rfl (by decide) (by decide) (by decide) (by decide)).mono ?_; clear S; rintro e w6 ⟨rfl, S⟩
  go_wp2_with fail
  refine (sGet (n := 3) 1 S rfl (by decide) (by decide) (by decide)).mono ?_; clear S; rintro e w7 ⟨rfl, S⟩
  go_wp2_with fail
  refine (sAlign 1 S rfl (by decide) (by decide)).mono ?_; clear S; rintro e w8 ⟨rfl, S⟩
  rw [show gap (0 + 0 + 3) = 5 from by decide] at *
  go_wp2_with fail
  refine (sAlign 1 S rfl (by decide) (by decide)).mono ?_; clear S; rintro e w9 ⟨rfl, S⟩
  rw [show gap (0 + 0 + 3 + 5) = 0 from by decide] at *
  go_wp2_with fail
  refine (sPutArg S (by decide) (by decide) (by decide)).mono ?_; clear S; rintro e w10 ⟨rfl, S⟩
  go_wp2_with fail
  refine (sPutArg S (by decide) (by decide) (by decide)).mono ?_; clear S; rintro e w11 ⟨rfl, S⟩
  go_wp2_with fail
  refine (sPut (v := 3) (n := 2) 0 S rfl (by decide) (by decide) (by decide) (by decide)).mono ?_; clear S; rintro e w12 ⟨rfl, F, S⟩
  go_wp2_with fail
  refine (sAt 1 S rfl).mono ?_; clear S; rintro e w13 ⟨rfl, S⟩
  go_wp2_with fail
  refine (sLeft 1 S rfl (by decide) (by decide)).mono ?_; clear S; rintro e w14 ⟨rfl, S⟩
  go_wp2_with fail
  refine (sWAlign 0 S rfl (by decide)).mono ?_; clear S; rintro e w15 ⟨rfl, S⟩
  rw [gnames]
  go_wp2_with fail
  refine (sLen 0 S rfl).mono ?_; rintro e w16 ⟨rfl, rfl⟩
  rw [lnames]
  go_wp2_with fail
  refine (sText 0 S rfl).mono ?_; rintro e w17 ⟨rfl, rfl⟩
  rw [tnames]
  go_wp2_with fail
  go_ret
  exact ⟨rfl, S.ext⟩
end Go.Proofs.Ytcbmapbpggjblaa.Bt
