/-
  LzwNames: the chapter's example comes out as it tells.
-/
import Derived.Test.YtcbllkopolbhaaaLzBack
namespace Go.Proofs.Ytcbllkopolbhaaa.Lz
open Go.RowKit Go.Maps

theorem nm_put : putS true ⟨#[45, 45, 45, 45, 45, 65, 45, 45, 45, 66]⟩ = ⟨#[128, 11, 96, 80, 34, 12, 12, 133, 1]⟩ := by decide +kernel
theorem nm_a : getL ⟨#[128, 11, 96, 80, 34, 12, 12, 133, 1]⟩ true 10 = ([45, 45, 45, 45, 45, 65, 45, 45, 45, 66], 0) := by decide +kernel
theorem nm_f : getL ⟨#[128, 11, 96, 80, 34, 12, 12, 133, 1]⟩ true 9 = ([], 3) := by decide +kernel
theorem nm_g : getL ⟨#[]⟩ true 9 = ([], 8) := by decide +kernel
theorem nm_h : getL ⟨#[255, 255]⟩ true 9 = ([], 4) := by decide +kernel
theorem nm_i : getL ⟨#[128, 11, 96, 80, 34, 12, 12, 133, 1]⟩ true (-1) = ([], 2) := by decide +kernel
theorem nm_j : getL ⟨#[128, 64, 64]⟩ true 0 = ([], 0) := by decide +kernel
theorem nm_t : Bt.txt [45, 45, 45, 45, 45, 65, 45, 45, 45, 66] = ⟨#[45, 45, 45, 45, 45, 65, 45, 45, 45, 66]⟩ := by decide +kernel
theorem nm_0 : Bt.txt [] = ⟨#[]⟩ := rfl
theorem nm_c : codes (tailB ⟨#[]⟩ 0) = [256, 257] := by decide

set_option maxRecDepth 100000 in
set_option maxHeartbeats 8000000 in
theorem names_walk (w : World) : Calls Try.prog 4 #[] w fun e w' => e = .returned (.bool true) ∧ Ext [] w w' := by
  go_enter Try.func4, Try.ntmps4
  go_wp2_with fail
  refine (put_walk _ true _ (by decide)).mono ?_; rintro e w1 ⟨rfl, hx⟩
  rw [nm_put]
  go_wp2_with fail
  refine (get_any _ true 10 _ (by decide) (by omega) (by omega)).mono ?_; rintro e w2 ⟨rfl, hx2⟩
  rw [nm_a, nm_t]
  have hx := hx.trans hx2
  clear hx2
  go_wp2_with fail
  refine (get_any _ true 9 _ (by decide) (by omega) (by omega)).mono ?_; rintro e w3 ⟨rfl, hx2⟩
  rw [nm_f, nm_0]
  have hx := hx.trans hx2
  clear hx2
  go_wp2_with fail
  refine (get_any _ true 9 _ (by decide) (by omega) (by omega)).mono ?_; rintro e w4 ⟨rfl, hx2⟩
  rw [nm_g, nm_0]
  have hx := hx.trans hx2
  clear hx2
  go_wp2_with fail
  refine (get_any _ true 9 _ (by decide) (by omega) (by omega)).mono ?_; rintro e w5 ⟨rfl, hx2⟩
  rw [nm_h, nm_0]
  have hx := hx.trans hx2
  clear hx2
  go_wp2_with fail
  refine (get_any _ true (-1) _ (by decide) (by omega) (by omega)).mono ?_; rintro e w6 ⟨rfl, hx2⟩
  rw [nm_i, nm_0]
  have hx := hx.trans hx2
  clear hx2
  go_wp2_with fail
  refine (get_any _ true 0 _ (by decide) (by omega) (by omega)).mono ?_; rintro e w7 ⟨rfl, hx2⟩
  rw [nm_j, nm_0]
  have hx := hx.trans hx2
  clear hx2
  go_wp2_with fail
  refine (lives_any _).mono ?_; rintro e w8 ⟨rfl, hx2⟩
  have hx := hx.trans hx2
  clear hx2
  go_wp2_with fail
  refine (codes_walk _ _ (by decide)).mono ?_; rintro e w9 ⟨v, rfl, S⟩
  rw [nm_c] at S
  have hx := hx.trans S.ext
  obtain ⟨g, cap, rfl⟩ := row_form (show w9.ownsRow 0 3 1 v 2 _ from S.get 0 rfl) (by omega)
  clear S
  go_wp2_with fail
  go_ret
  exact ⟨rfl, hx⟩
end Go.Proofs.Ytcbllkopolbhaaa.Lz
