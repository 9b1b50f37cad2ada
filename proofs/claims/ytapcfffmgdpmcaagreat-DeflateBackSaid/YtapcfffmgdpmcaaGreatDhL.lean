/-
  deflate: the chapter's examples.
-/
import Derived.Test.YtapcfffmgdpmcaaGreatDgC
import Derived.Test.YtapcfffmgdpmcaaGreatDgD
namespace Go.Proofs.YtapcfffmgdpmcaaGreat.De
open Go.RowKit Bt Hu If Mt

theorem ex10_1 : storedN ⟨#[97, 98]⟩ = ⟨#[1, 2, 0, 253, 255, 97, 98]⟩ := by kernel_rfl
theorem ex10_2 : fixedN ⟨#[97]⟩ = ⟨#[75, 4, 0]⟩ := by kernel_rfl
set_option maxRecDepth 100000 in
set_option maxHeartbeats 4000000 in
theorem lives10 (w : World) : Calls Tryz.prog 4 #[] w fun e w' => e = .returned (.bool true) ∧ Ext [] w w' := by
  go_enter Tryz.func4, Tryz.ntmps4
  go_wp2_with fail
  refine (stored_walk ⟨#[97, 98]⟩ w (by decide)).mono ?_
  rw [ex10_1]
  rintro e w1 ⟨rfl, hx⟩
  have HX := Lib.hid hx
  clear hx
  go_wp2_with fail
  refine (fixedD_walk ⟨#[97]⟩ w1 (by decide)).mono ?_
  rw [ex10_2]
  rintro e w2 ⟨rfl, hx⟩
  have HX := Lib.hid (HX.out.trans hx)
  clear hx
  go_wp2_with fail
  go_ret
  exact ⟨rfl, HX.out⟩
/-! ### sizes -/
theorem short_le (a b : ByteArray) : (shortN a b).size ≤ a.size ∧ (shortN a b).size ≤ b.size := by
  unfold shortN
  split <;> omega
theorem best_le (s : ByteArray) : (bestN s).size ≤ (storedN s).size ∧ (bestN s).size ≤ (fixedN s).size ∧ (bestN s).size ≤ (dynN s).size := by
  unfold bestN
  have h1 := short_le (shortN (storedN s) (fixedN s)) (dynN s)
  have h2 := short_le (storedN s) (fixedN s)
  omega
theorem short_is (a b : ByteArray) : shortN a b = a ∨ shortN a b = b := by
  unfold shortN
  split
  · exact .inr rfl
  · exact .inl rfl
theorem best_is (s : ByteArray) : bestN s = storedN s ∨ bestN s = fixedN s ∨ bestN s = dynN s := by
  unfold bestN
  rcases short_is (shortN (storedN s) (fixedN s)) (dynN s) with h | h
  · rw [h]
    rcases short_is (storedN s) (fixedN s) with h | h
    · exact .inl h
    · exact .inr (.inl h)
  · exact .inr (.inr h)
end Go.Proofs.YtapcfffmgdpmcaaGreat.De
