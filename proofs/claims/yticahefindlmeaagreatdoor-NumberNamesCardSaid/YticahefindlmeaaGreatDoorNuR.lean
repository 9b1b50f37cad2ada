/-
  number: the chapter's names walked.
-/
import Derived.Test.YticahefindlmeaaGreatDoorNuQ
import Derived.Test.YticahefindlmeaaGreatDoorNuT
namespace Go.Proofs.YticahefindlmeaaGreatDoor.Nu
open Go.RowKit

set_option maxRecDepth 100000 in
set_option maxHeartbeats 8000000 in
theorem names_law (w : World) (hw : Tabs w) : Calls Tryz.prog 5 #[] w fun e w' => e = .returned (.bool true) ∧ Ext [] w w' := by
  have HW := Lib.hid hw
  have HLV := Lib.hid (fun w hw => lives02 w hw)
  have r1 := fun w => int_walk (S [50, 49, 52, 55, 52, 56, 51, 54, 52, 56]) w (by decide)
  have r2 := fun w => int_walk (S [45, 50, 49, 52, 55, 52, 56, 51, 54, 52, 55]) w (by decide)
  have r3 := fun w => int_walk (S [49, 46]) w (by decide)
  have n1 := fun w hw => near_walk (S [45, 50, 46, 53, 48]) w (by decide) (by rw [B_S]; decide +kernel) (by rw [B_S]; decide +kernel) _ _ (by rw [B_S]; exact nm_4) hw
  have n2 := fun w hw => near_walk (S [45, 48, 46, 48]) w (by decide) (by rw [B_S]; decide +kernel) (by rw [B_S]; decide +kernel) _ _ (by rw [B_S]; exact nm_5) hw
  have n3 := fun w hw => near_walk (S [49, 50, 51, 52, 53, 54, 55, 56, 57, 48, 49, 50, 51, 52, 53, 54]) w (by decide) (by rw [B_S]; decide +kernel) (by rw [B_S]; decide +kernel) _ _ (by rw [B_S]; exact nm_6) hw
  have t1 := fun w hw => intText_walk (-2147483648) (by decide) (by decide) w hw
  have t2 := fun w hw => intText_walk (-7) (by decide) (by decide) w hw
  rw [if_neg (by decide), if_neg (by decide)] at t1
  rw [if_pos (by decide), if_pos (by decide), nm_7] at t2
  have k1 := fun w => kind_walk (S [43, 46, 53]) w (by decide)
  have k2 := fun w => kind_walk (S [46]) w (by decide)
  have k3 := fun w => kind_walk (S [45]) w (by decide)
  have k4 := fun w => kind_walk (S [49, 46, 50, 46, 51]) w (by decide)
  have k5 := fun w => kind_walk (S [48, 48, 55]) w (by decide)
  simp only [B_S, nm_1, nm_2, nm_3, nm_k1, nm_k2, nm_k3, nm_k4, nm_k5] at r1 r2 r3 k1 k2 k3 k4 k5
  rw [show S [45, 55] = (⟨#[45, 55]⟩ : ByteArray) from rfl] at t2
  have HNAN := Lib.hid (fun w => nan_walk w)
  have HZ := Lib.hid (fun w => zero_walk w)
  have HINF := Lib.hid (fun w => of_inf w)
  have HR1 := Lib.hid r1
  have HR2 := Lib.hid r2
  have HR3 := Lib.hid r3
  have HN1 := Lib.hid n1
  have HN2 := Lib.hid n2
  have HN3 := Lib.hid n3
  have HT1 := Lib.hid t1
  have HT2 := Lib.hid t2
  have HK1 := Lib.hid k1
  have HK2 := Lib.hid k2
  have HK3 := Lib.hid k3
  have HK4 := Lib.hid k4
  have HK5 := Lib.hid k5
  clear r1 r2 r3 n1 n2 n3 t1 t2 k1 k2 k3 k4 k5 hw
  have hquo := fun w => run_float_arith (P := Tryz.prog) w .quo 32 .f64 4607182418800017408 0 9218868437227405312 (by kernel_rfl)
  have c1 : (FloatKind.f64.format.order 13836183955189006336 13836183955189006336 == some Ordering.eq) = true := by kernel_rfl
  have c2 : (FloatKind.f64.format.order 0 0 == some Ordering.eq) = true := by kernel_rfl
  have c3 : (FloatKind.f64.format.order 9218868437227405312 0 == some Ordering.gt) = true := by kernel_rfl
  have HX := Lib.hid (Ext.refl [] w)
  go_enter Tryz.func5, Tryz.ntmps5

  go_wp2_with fail
  refine (HR1.out _).mono ?_
  rintro e w1 ⟨rfl, hx⟩
  have HX := Lib.hid (HX.out.trans hx)
  clear hx
  go_wp2_with fail
  refine (HR2.out _).mono ?_
  rintro e w2 ⟨rfl, hx⟩
  have HX := Lib.hid (HX.out.trans hx)
  clear hx
  go_wp2_with fail
  refine (HR3.out _).mono ?_
  rintro e w3 ⟨rfl, hx⟩
  have HX := Lib.hid (HX.out.trans hx)
  clear hx
  go_wp2_with fail
  refine (HNAN.out _).mono ?_
  rintro e w4 ⟨b, hb, rfl, hx⟩
  have HX := Lib.hid (HX.out.trans hx)
  have HOF := Lib.hid (fun w => of_nan b 2 hb w)
  clear hx hb
  go_wp2_with fail
  refine (HOF.out _).mono ?_
  rintro e w5 ⟨rfl, rfl⟩
  go_wp2_with fail
  refine (HZ.out _).mono ?_
  rintro e w6 ⟨rfl, rfl⟩
  go_wp2_with fail
  refine (HINF.out _).mono ?_
  rintro e w7 ⟨rfl, rfl⟩
  go_wp2_with fail
  refine (HN1.out _ (HW.out.ext HX.out)).mono ?_
  rintro e w8 ⟨rfl, hx⟩
  have HX := Lib.hid (HX.out.trans hx)
  clear hx
  go_wp2_with fail
  refine (HN2.out _ (HW.out.ext HX.out)).mono ?_
  rintro e w9 ⟨rfl, hx⟩
  have HX := Lib.hid (HX.out.trans hx)
  clear hx
  go_wp2_with fail
  refine (HN3.out _ (HW.out.ext HX.out)).mono ?_
  rintro e w10 ⟨rfl, hx⟩
  have HX := Lib.hid (HX.out.trans hx)
  clear hx
  go_wp2_with fail
  refine (HT1.out _ (HW.out.ext HX.out)).mono ?_
  rintro e w11 ⟨rfl, hx⟩
  have HX := Lib.hid (HX.out.trans hx)
  clear hx
  go_wp2_with fail
  refine (HT2.out _ (HW.out.ext HX.out)).mono ?_
  rintro e w12 ⟨rfl, hx⟩
  have HX := Lib.hid (HX.out.trans hx)
  clear hx
  go_wp2_with fail
  refine (HLV.out _ (HW.out.ext HX.out)).mono ?_
  rintro e w13 ⟨rfl, hx⟩
  have HX := Lib.hid (HX.out.trans hx)
  clear hx
  go_wp2_with fail
  refine (HK1.out _).mono ?_
  rintro e w14 ⟨rfl, hx⟩
  have HX := Lib.hid (HX.out.trans hx)
  clear hx
  go_wp2_with fail
  refine (HK2.out _).mono ?_
  rintro e w15 ⟨rfl, hx⟩
  have HX := Lib.hid (HX.out.trans hx)
  clear hx
  go_wp2_with fail
  refine (HK3.out _).mono ?_
  rintro e w16 ⟨rfl, hx⟩
  have HX := Lib.hid (HX.out.trans hx)
  clear hx
  go_wp2_with fail
  refine (HK4.out _).mono ?_
  rintro e w17 ⟨rfl, hx⟩
  have HX := Lib.hid (HX.out.trans hx)
  clear hx
  go_wp2_with fail
  refine (HK5.out _).mono ?_
  rintro e w18 ⟨rfl, hx⟩
  have HX := Lib.hid (HX.out.trans hx)
  clear hx
  go_wp2_with fail
  go_ret
  exact ⟨rfl, HX.out⟩
end Go.Proofs.YticahefindlmeaaGreatDoor.Nu
