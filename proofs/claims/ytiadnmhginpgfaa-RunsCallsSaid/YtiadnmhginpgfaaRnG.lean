/-
  The chapter's example (runs).
-/
import Derived.Test.YtiadnmhginpgfaaRnF
namespace Go.Proofs.Ytiadnmhginpgfaa.Rn
open Go.RowKit

set_option maxHeartbeats 4000000 in
theorem lives13 (w : World) : Calls Try.prog 9 #[] w fun e w' => e = .returned (.bool true) ∧ Ext [] w w' := by
  have G : ∀ w, Calls Try.prog 11 #[.string ⟨#[254, 97, 0, 98, 128]⟩, .int .i64 9] w fun e w' => e = .returned (.tuple #[.string ⟨#[97, 97, 97, 98]⟩, .int .i64 0]) ∧ Ext [] w w' := fun w => by
    have h := get_walk ⟨#[254, 97, 0, 98, 128]⟩ 9 w (by decide) (by omega) (by omega)
    rw [show B ⟨#[254, 97, 0, 98, 128]⟩ = [254, 97, 0, 98, 128] from rfl, ex_get] at h
    exact h
  have P : ∀ w, Calls Try.prog 10 #[.string ⟨#[97, 97, 97, 98]⟩] w fun e w' => e = .returned (.string ⟨#[254, 97, 0, 98, 128]⟩) ∧ Ext [] w w' := fun w => by
    have h := put_walk ⟨#[97, 97, 97, 98]⟩ w (by decide)
    rw [show B ⟨#[97, 97, 97, 98]⟩ = [97, 97, 97, 98] from rfl, ex_put] at h
    exact h
  have HG := Lib.hid G
  have HP := Lib.hid P
  clear G P
  go_enter Try.func9, Try.ntmps9
  go_wp2_with fail
  refine (HG.out _).mono ?_; rintro e w1 ⟨rfl, hx1⟩
  have HX1 := Lib.hid hx1
  clear hx1
  go_wp2_with fail
  refine (HP.out _).mono ?_; rintro e w2 ⟨rfl, hx2⟩
  have HX2 := Lib.hid hx2
  clear hx2
  go_wp2_with fail
  go_ret
  exact ⟨rfl, HX1.out.trans HX2.out⟩
end Go.Proofs.Ytiadnmhginpgfaa.Rn
