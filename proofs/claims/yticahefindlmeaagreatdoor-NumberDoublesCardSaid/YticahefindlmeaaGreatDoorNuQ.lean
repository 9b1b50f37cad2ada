/-
  number: what is no number, what is endless; the facts of the chapter's names.
-/
import Derived.Test.YticahefindlmeaaGreatDoorNuP
namespace Go.Proofs.YticahefindlmeaaGreatDoor.Nu
open Go.RowKit

theorem nan_order (b : Nat) (h : FloatKind.f64.format.order b b = none) : (FloatKind.f64.format.order b b != some Ordering.eq) = true := by rw [h]; rfl
set_option maxRecDepth 100000 in
set_option maxHeartbeats 2000000 in
theorem isinf_yes (x y : Nat) (h : bits .andNot .u64 (x : Int) 9223372036854775808 = (y : Int)) (hy : (FloatKind.f64.format.order y 9218868437227405311 == some Ordering.gt) = true) (w : World) :
    Calls Tryz.prog 26 #[.float .f64 x, .int .i64 0] w fun e w' => e = .returned (.bool true) ∧ w = w' := by
  have H := Lib.hid (abs_walk x y h w)
  go_enter Tryz.func26, Tryz.ntmps26
  go_wp2_with fail
  refine H.out.mono ?_
  rintro e w1 ⟨rfl, rfl⟩
  go_wp2_with fail
  go_ret
  exact ⟨rfl, rfl⟩
set_option maxRecDepth 100000 in
set_option maxHeartbeats 2000000 in
theorem of_nan (x pl : Nat) (h : (FloatKind.f64.format.order x x != some Ordering.eq) = true) (w : World) :
    Calls Tryz.prog 12 #[.float .f64 x, .int .i64 pl] w fun e w' => e = .returned (.tuple #[.string ⟨#[]⟩, .int .i64 2]) ∧ w = w' := by
  have H := Lib.hid (isnan_walk x true h w)
  go_enter Tryz.func12, Tryz.ntmps12
  go_wp2_with fail
  refine H.out.mono ?_
  rintro e w1 ⟨rfl, rfl⟩
  go_wp2_with fail
  exact bodyPost_ret (results_tmp2 rfl _ _ _) rfl ⟨rfl, rfl⟩
set_option maxRecDepth 100000 in
set_option maxHeartbeats 2000000 in
theorem of_inf (w : World) :
    Calls Tryz.prog 12 #[.float .f64 9218868437227405312, .int .i64 2] w fun e w' => e = .returned (.tuple #[.string ⟨#[]⟩, .int .i64 2]) ∧ w = w' := by
  have H := Lib.hid (isnan_walk 9218868437227405312 false (by kernel_rfl) w)
  have H2 := Lib.hid (isinf_yes 9218868437227405312 9218868437227405312 (by kernel_rfl) (by kernel_rfl) w)
  go_enter Tryz.func12, Tryz.ntmps12
  go_wp2_with fail
  refine H.out.mono ?_
  rintro e w1 ⟨rfl, rfl⟩
  go_wp2_with fail
  refine H2.out.mono ?_
  rintro e w1 ⟨rfl, rfl⟩
  go_wp2_with fail
  exact bodyPost_ret (results_tmp2 rfl _ _ _) rfl ⟨rfl, rfl⟩
set_option maxRecDepth 100000 in
set_option maxHeartbeats 2000000 in
theorem zero_walk (w : World) : Calls Tryz.prog 14 #[] w fun e w' => e = .returned (.float .f64 0) ∧ w = w' := by
  go_enter Tryz.func14, Tryz.ntmps14
  go_wp2_with fail
  go_ret
  exact ⟨rfl, rfl⟩
def isN (b : Nat) : Prop := (FloatKind.f64.format.order b b != some Ordering.eq) = true
theorem nan_all (t : Nat) : isN ((t % 2) * 2 ^ 63 + 0x7ff0000000000000 + 1 + (t / 2) % (2 ^ 52 - 1)) := by
  obtain ⟨b, hb⟩ : ∃ b, (t % 2) * 2 ^ 63 + 0x7ff0000000000000 + 1 + (t / 2) % (2 ^ 52 - 1) = b := ⟨_, rfl⟩
  rw [hb]
  have h1 : b % 9223372036854775808 = 9218868437227405312 + 1 + (t / 2) % (2 ^ 52 - 1) := by omega
  have e1 : FloatKind.f64.format.signWeight = 9223372036854775808 := by kernel_rfl
  have e2 : FloatKind.f64.format.binade = 4503599627370496 := by kernel_rfl
  have e3 : FloatKind.f64.format.infRung = 9218868437227405312 := by kernel_rfl
  have hr : ∃ s f, FloatKind.f64.format.read b = .nan s f := by
    unfold Ieee.Format.read
    simp only [e1, e2, e3]
    rw [if_neg (by omega), if_neg (by omega), if_neg (by omega)]
    exact ⟨_, _, rfl⟩
  obtain ⟨sg, f, hf⟩ := hr
  unfold isN Ieee.Format.order
  rw [hf]
  rfl
theorem nan_draw (w : World) : ∃ b, isN b ∧ (binOp .quo 32 (.float .f64 0) (.float .f64 0)).run Tryz.prog w = .ok (.float .f64 b) w.drew := by
  refine ⟨_, nan_all (w.tape w.drawn (.nanBits .f64 0 0)), ?_⟩
  have e : FloatKind.f64.format.div 0 0 = none := by kernel_rfl
  show ((Op.floatArith .quo .f64 0 0).run Tryz.prog w) = _
  unfold Op.floatArith
  simp only [e, pure_bind]
  simp [Question.forced, Question.cut]
set_option maxRecDepth 100000 in
set_option maxHeartbeats 2000000 in
theorem nan_walk (w : World) : Calls Tryz.prog 13 #[] w fun e w' => ∃ b, isN b ∧ e = .returned (.float .f64 b) ∧ Ext [] w w' := by
  have HZ := Lib.hid (fun w => zero_walk w)
  go_enter Tryz.func13, Tryz.ntmps13
  go_wp2_with fail
  refine (HZ.out _).mono ?_
  rintro e w1 ⟨rfl, rfl⟩
  go_wp2_with fail
  refine (HZ.out _).mono ?_
  rintro e w1 ⟨rfl, rfl⟩
  obtain ⟨b, hb, hq⟩ := nan_draw w
  have HB := Lib.hid hb
  clear hb
  go_wp2_with fail
  go_ret
  exact ⟨b, HB.out, rfl, (Ext.refl [] w).drew⟩
/-! ### the chapter's facts -/
theorem nm_1 : intN [50, 49, 52, 55, 52, 56, 51, 54, 52, 56] = (0, 3) := by decide +kernel
theorem nm_2 : intN [45, 50, 49, 52, 55, 52, 56, 51, 54, 52, 55] = (-2147483647, 0) := by decide +kernel
theorem nm_3 : intN [49, 46] = (0, 7) := by decide +kernel
theorem nm_4 : NearOk [45, 50, 46, 53, 48] 13836183955189006336 0 :=
  .inr ⟨by decide +kernel, by decide +kernel, rfl, 4612811918334230528, by decide +kernel, by decide +kernel⟩
theorem nm_5 : NearOk [45, 48, 46, 48] 0 0 :=
  .inr ⟨by decide +kernel, by decide +kernel, rfl, 0, by decide +kernel, by decide +kernel⟩
theorem nm_6 : NearOk [49, 50, 51, 52, 53, 54, 55, 56, 57, 48, 49, 50, 51, 52, 53, 54] 0 3 :=
  .inl ⟨by decide +kernel, rfl, rfl⟩
theorem nm_7 : itxt (-7) = [45, 55] := by decide +kernel
theorem nm_k1 : (cutN [43, 46, 53]).kind = 2 := by decide +kernel
theorem nm_k2 : (cutN [46]).kind = 0 := by decide +kernel
theorem nm_k3 : (cutN [45]).kind = 0 := by decide +kernel
theorem nm_k4 : (cutN [49, 46, 50, 46, 51]).kind = 0 := by decide +kernel
theorem nm_k5 : (cutN [48, 48, 55]).kind = 1 := by decide +kernel
end Go.Proofs.YticahefindlmeaaGreatDoor.Nu
