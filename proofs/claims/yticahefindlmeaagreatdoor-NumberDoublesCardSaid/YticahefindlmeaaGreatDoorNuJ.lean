/-
  number: the chapter's examples walked; the law NumberSigns, plain.
-/
import Derived.Test.YticahefindlmeaaGreatDoorNuI
namespace Go.Proofs.YticahefindlmeaaGreatDoor.Nu
open Go.RowKit

theorem ofok_lives : OfOk 13779386358128460589 3 0 :=
  ⟨by decide, by kernel_rfl, ⟨4556014321273684781, by kernel_rfl, by kernel_rfl⟩, by kernel_rfl, by kernel_rfl,
   ⟨13824249416176474522, 9223372036854775808, true, 7205759403792794, -54, by kernel_rfl, by kernel_rfl, by kernel_rfl, by kernel_rfl⟩, by decide⟩
theorem ex02_1 : realN [45, 48, 48, 46, 53, 48] = ([45, 48, 46, 53], 0) := by decide +kernel
theorem ex02_2 : realN [43, 46, 48] = ([48, 46, 48], 0) := by decide +kernel
theorem ex02_3 : realN [53] = ([], 7) := by decide +kernel
theorem ex02_4 : cmpN [49, 46, 53, 48] [49, 46, 53] = (0, 0) := by decide +kernel
theorem ex02_5 : cmpN [45, 50] [45, 49, 46, 57] = (-1, 0) := by decide +kernel
theorem ex02_6 : realN (ofT 0 3) = ([48, 46, 48], 0) := by decide +kernel
set_option maxRecDepth 100000 in
set_option maxHeartbeats 4000000 in
theorem lives02 (w : World) (hw : Tabs w) : Calls Tryz.prog 6 #[] w fun e w' => e = .returned (.bool true) ∧ Ext [] w w' := by
  have HW := Lib.hid hw
  have r1 := fun w => real_walk (S [45, 48, 48, 46, 53, 48]) w (by decide)
  have r2 := fun w => real_walk (S [43, 46, 48]) w (by decide)
  have r3 := fun w => real_walk (S [53]) w (by decide)
  have r4 := fun w => compare_walk (S [49, 46, 53, 48]) (S [49, 46, 53]) w (by decide) (by decide)
  have r5 := fun w => compare_walk (S [45, 50]) (S [45, 49, 46, 57]) w (by decide) (by decide)
  have r6 := fun w hw => of_walk _ _ _ ofok_lives w hw
  simp only [B_S, ex02_1, ex02_2, ex02_3, ex02_4, ex02_5] at r1 r2 r3 r4 r5
  rw [ex02_6] at r6
  simp only [show S [45, 48, 46, 53] = (⟨#[45, 48, 46, 53]⟩ : ByteArray) from rfl, show S [48, 46, 48] = (⟨#[48, 46, 48]⟩ : ByteArray) from rfl] at r1 r2 r6
  have HR := Lib.hid (⟨r1, r2, r3, r4, r5, r6⟩ : _ ∧ _ ∧ _ ∧ _ ∧ _ ∧ _)
  clear r1 r2 r3 r4 r5 r6 hw
  go_enter Tryz.func6, Tryz.ntmps6
  go_wp2_with fail
  refine (HR.out.1 _).mono ?_
  rintro e w1 ⟨rfl, hx⟩
  have HX := Lib.hid hx
  clear hx
  go_wp2_with fail
  refine (HR.out.2.1 _).mono ?_
  rintro e w2 ⟨rfl, hx⟩
  have HX := Lib.hid (HX.out.trans hx)
  clear hx
  go_wp2_with fail
  refine (HR.out.2.2.1 _).mono ?_
  rintro e w3 ⟨rfl, hx⟩
  have HX := Lib.hid (HX.out.trans hx)
  clear hx
  go_wp2_with fail
  refine (HR.out.2.2.2.1 _).mono ?_
  rintro e w4 ⟨rfl, hx⟩
  have HX := Lib.hid (HX.out.trans hx)
  clear hx
  go_wp2_with fail
  refine (HR.out.2.2.2.2.1 _).mono ?_
  rintro e w5 ⟨rfl, hx⟩
  have HX := Lib.hid (HX.out.trans hx)
  clear hx
  go_wp2_with fail
  refine (HR.out.2.2.2.2.2 _ (HW.out.ext HX.out)).mono ?_
  rintro e w6 ⟨rfl, hx⟩
  have HX := Lib.hid (HX.out.trans hx)
  clear hx
  go_wp2_with fail
  go_ret
  exact ⟨rfl, HX.out⟩
end Go.Proofs.YticahefindlmeaaGreatDoor.Nu
