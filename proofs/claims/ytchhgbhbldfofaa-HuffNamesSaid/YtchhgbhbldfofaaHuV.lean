/-
  The laws HuffNil, HuffNames walked.
-/
import Derived.Test.YtchhgbhbldfofaaHuU
import Derived.Test.YtchhgbhbldfofaaHuL
namespace Go.Proofs.Ytchhgbhbldfofaa.Hu
open Go.RowKit Bt

theorem ex11_e : codesE [1, 1] = 0 := by decide +kernel
set_option maxRecDepth 100000 in
set_option maxHeartbeats 8000000 in
theorem nil_law (s : Int) (w : World) (_hs : (Lit.int .i64 s).wf = true) :
    Calls Try.prog 7 #[.int .i64 s] w fun e w' => e = .returned (.bool true) ∧ Ext [] w w' := by
  go_enter Try.func7, Try.ntmps7
  go_wp2_with fail
  refine (lives07 w).mono ?_
  rintro e w1 ⟨rfl, hx⟩
  have HX := Lib.hid hx
  clear hx
  go_wp2_with fail
  refine (new_walk _ [1, 1] _ (IntsArg.of_block _ 2 rfl (by unfold maxLen; omega) (heap_alloc_at _) rfl) ex11_e).mono ?_
  rintro e w2 ⟨tb, F, rfl, hx, hp, hf⟩
  have HX := Lib.hid (HX.out.trans (((Ext.refl _ w1).alloc _).trans hx))
  clear hx hp hf
  go_wp2_with fail
  refine (rnew _ _ _).mono ?_
  rintro e w3 ⟨b, rfl, _, _, hx⟩
  have HX := Lib.hid (HX.out.trans hx)
  clear hx
  go_wp2_with fail
  refine (tread_nil _ _ ⟨_, rfl⟩).mono ?_
  rintro e w4 ⟨rfl, rfl⟩
  go_wp2_with fail
  refine (tread_nil2 _ _).mono ?_
  rintro e w4 ⟨rfl, rfl⟩
  go_wp2_with fail
  refine (wnew _ _).mono ?_
  rintro e w4 ⟨b2, rfl, _, _, hx⟩
  have HX := Lib.hid (HX.out.trans hx)
  clear hx
  go_wp2_with fail
  refine (twrite_nil _ _ _ ⟨_, rfl⟩).mono ?_
  rintro e w5 ⟨rfl, rfl⟩
  go_wp2_with fail
  refine (twrite_nil2 _ _ _).mono ?_
  rintro e w5 ⟨rfl, rfl⟩
  go_wp2_with fail
  refine (size_nil _ _).mono ?_
  rintro e w5 ⟨rfl, rfl⟩
  go_wp2_with fail
  go_ret
  exact ⟨rfl, HX.out⟩
theorem ex7_s1 : stateN [1, 1] = (0, 0) := by decide +kernel
theorem ex7_s2 : stateN [1, 1, 1] = (1, 0) := by decide +kernel
theorem ex7_s3 : stateN [] = (-1, 0) := by decide +kernel
theorem ex7_s4 : stateN [16] = (0, 2) := by decide +kernel
theorem ex7_c5 : codesE [1, 1, 1] = 4 := by decide +kernel
theorem ex7_l6 : lensErr [0, 7] 15 = false ∧ fitB 0 15 [0, 7] = true ∧ lensF 0 15 [0, 7] = [0, 1] := by decide +kernel
theorem ex7_l7 : lensErr [1, 1, 1] 1 = true := by decide +kernel
theorem ex7_l8 : lensErr [1, 1, 2, 4, 8] 3 = false ∧ fitB 3 3 [1, 1, 2, 4, 8] = true ∧ lensF 3 3 [1, 1, 2, 4, 8] = [3, 3, 3, 3, 1] := by decide +kernel
theorem ex7_n9 : codesE [2, 1, 3, 3] = 0 := by decide +kernel
theorem ex7_c9 : ∀ x ∈ codesN [2, 1, 3, 3], x < 65536 := by decide +kernel
theorem ex7_r9 : ∀ x ∈ ([2, 1, 3, 3] : List Int), 0 ≤ x ∧ x ≤ 15 := by decide +kernel
theorem ex7_w1 : sizeZ [2, 1, 3, 3] 2 = 3 ∧ sizeZ [2, 1, 3, 3] 4 = 0 ∧ sizeZ [2, 1, 3, 3] 9 = 0 ∧ cbits ((codesN [2, 1, 3, 3]).getD 2 0) 3 = [1, 1, 0] := by decide +kernel
theorem ex7_t : txt (packB false ([] ++ [1, 1, 0] ++ [])) = ⟨#[3]⟩ := by decide +kernel
set_option maxRecDepth 100000 in
set_option maxHeartbeats 16000000 in
theorem names_law (w : World) : Calls Try.prog 6 #[] w fun e w' => e = .returned (.bool true) ∧ Ext [] w w' := by
  go_enter Try.func6, Try.ntmps6
  go_wp2_with fail
  refine (lives07 w).mono ?_
  rintro e w1 ⟨rfl, hx⟩
  have HX := Lib.hid hx
  clear hx
  go_wp2_with fail
  refine (state_walk _ [1, 1] _ (IntsAt.of_block _ 2 rfl (heap_alloc_at _) rfl) (by decide)).mono ?_
  rw [ex7_s1]
  rintro e w2 ⟨rfl, hx⟩
  have HX := Lib.hid (HX.out.trans (((Ext.refl _ w1).alloc _).trans hx))
  clear hx
  go_wp2_with fail
  refine (state_walk _ [1, 1, 1] _ (IntsAt.of_block _ 3 rfl (heap_alloc_at _) rfl) (by decide)).mono ?_
  rw [ex7_s2]
  rintro e w3 ⟨rfl, hx⟩
  have HX := Lib.hid (HX.out.trans (((Ext.refl _ w2).alloc _).trans hx))
  clear hx
  go_wp2_with fail
  refine (state_walk _ [] _ ⟨none, 0, rfl, fun h => by cases h⟩ (by decide)).mono ?_
  rw [ex7_s3]
  rintro e w4 ⟨rfl, hx⟩
  have HX := Lib.hid (HX.out.trans hx)
  clear hx
  go_wp2_with fail
  refine (state_walk _ [16] _ (IntsAt.of_block _ 1 rfl (heap_alloc_at _) rfl) (by decide)).mono ?_
  rw [ex7_s4]
  rintro e w5 ⟨rfl, hx⟩
  have HX := Lib.hid (HX.out.trans (((Ext.refl _ w4).alloc _).trans hx))
  clear hx
  go_wp2_with fail
  refine (codes_err _ [1, 1, 1] _ (IntsAt.of_block _ 3 rfl (heap_alloc_at _) rfl) (by decide) (by rw [ex7_c5]; decide)).mono ?_
  rw [ex7_c5]
  rintro e w6 ⟨rfl, hx⟩
  have HX := Lib.hid (HX.out.trans (((Ext.refl _ w5).alloc _).trans hx))
  clear hx
  go_wp2_with fail
  refine (lens_ok _ [0, 7] 15 0 _ (IntsArg.of_block _ 2 rfl (by unfold maxLen; omega) (heap_alloc_at _) rfl) ex7_l6.1 ex7_l6.2.1).mono ?_
  rw [ex7_l6.2.2]
  rintro e w7 ⟨v7, rfl, hx, hp, _⟩
  have HX := Lib.hid (HX.out.trans (((Ext.refl _ w6).alloc _).trans hx))
  have H7 := Lib.hid (IntsAt.of_own hp)
  clear hx hp
  go_wp2_with fail
  refine (lens_err _ [1, 1, 1] 1 _ (IntsArg.of_block _ 3 rfl (by unfold maxLen; omega) (heap_alloc_at _) rfl) (by decide) (by decide) (by decide) ex7_l7).mono ?_
  rintro e w8 ⟨rfl, hx⟩
  have hx := ((Ext.refl _ w7).alloc _).trans hx
  have HX := Lib.hid (HX.out.trans hx)
  have H7 := Lib.hid (H7.out.ext hx)
  clear hx
  go_wp2_with fail
  refine (lens_ok _ [1, 1, 2, 4, 8] 3 3 _ (IntsArg.of_block _ 5 rfl (by unfold maxLen; omega) (heap_alloc_at _) rfl) ex7_l8.1 ex7_l8.2.1).mono ?_
  rw [ex7_l8.2.2]
  rintro e w9 ⟨v9, rfl, hx, hp, _⟩
  have hx := ((Ext.refl _ w8).alloc _).trans hx
  have HX := Lib.hid (HX.out.trans hx)
  have H7 := Lib.hid (H7.out.ext hx)
  have H9 := Lib.hid (IntsAt.of_own hp)
  clear hx hp
  go_wp2_with fail
  refine (new_walk _ [2, 1, 3, 3] _ (IntsArg.of_block _ 4 rfl (by unfold maxLen; omega) (heap_alloc_at _) rfl) ex7_n9).mono ?_
  rintro e w10 ⟨tb, F, rfl, hx, hp, hf⟩
  have hx := ((Ext.refl _ w9).alloc _).trans hx
  have S := (Sep.start w9).new hx (oTab tb F [2, 1, 3, 3]) hp (fun k hk => Nat.le_trans ((Ext.refl [] w9).alloc _).size (hf k hk))
  have HS := Lib.hid S
  clear hx hp hf S
  go_wp2_with fail
  refine (sWnew false HS.out).mono ?_
  rintro e w11 ⟨wb, rfl, S⟩
  have HS := Lib.hid S
  clear S
  go_wp2_with fail
  refine (sTWrite 1 0 (by decide) 2 HS.out rfl rfl (by decide) ex7_r9 ex7_c9 (by decide)).mono ?_
  rw [ex7_w1.1]
  rintro e w12 ⟨rfl, Fw, S⟩
  rw [show (3 : Int).toNat = 3 from rfl, show (2 : Int).toNat = 2 from rfl, ex7_w1.2.2.2] at S
  have HS := Lib.hid S
  clear S
  go_wp2_with fail
  refine (sTWrite 1 0 (by decide) 4 HS.out rfl rfl (by decide) ex7_r9 ex7_c9 (by decide)).mono ?_
  rw [ex7_w1.2.1]
  rintro e w13 ⟨rfl, Fw2, S⟩
  have HS := Lib.hid S
  clear S
  go_wp2_with fail
  refine (same_int v7 _ [0, 1] [0, 1] _ ((H7.out.ext HS.out.ext).ext ((Ext.refl _ _).alloc _)) (IntsAt.of_block _ 2 rfl (heap_alloc_at _) rfl) (by decide) (by decide)).mono ?_
  rw [decide_eq_true rfl]
  rintro e w14 ⟨rfl, hx⟩
  have HS := Lib.hid (HS.out.quiet (((Ext.refl _ w13).alloc _).trans hx))
  clear hx
  go_wp2_with fail
  refine (same_int v9 _ [3, 3, 3, 3, 1] [3, 3, 3, 3, 1] _ ((H9.out.ext HS.out.ext).ext ((Ext.refl _ _).alloc _)) (IntsAt.of_block _ 5 rfl (heap_alloc_at _) rfl) (by decide) (by decide)).mono ?_
  rw [decide_eq_true rfl]
  rintro e w15 ⟨rfl, hx⟩
  have HS := Lib.hid (HS.out.quiet (((Ext.refl _ w14).alloc _).trans hx))
  clear hx
  go_wp2_with fail
  refine (sText 0 HS.out rfl).mono ?_
  rintro e w16 ⟨rfl, rfl⟩
  rw [show txt (packB false ([] ++ [1, 1, 0] ++ cbits ((codesN [2, 1, 3, 3]).getD (4 : Int).toNat 0) (0 : Int).toNat)) = ⟨#[3]⟩ from ex7_t]
  go_wp2_with fail
  refine (size_walk tb F [2, 1, 3, 3] 2 _ (HS.out.get 1 rfl) (by decide)).mono ?_
  rw [ex7_w1.1]
  rintro e w16 ⟨rfl, hx⟩
  have HS := Lib.hid (HS.out.quiet hx)
  clear hx
  go_wp2_with fail
  refine (size_walk tb F [2, 1, 3, 3] 9 _ (HS.out.get 1 rfl) (by decide)).mono ?_
  rw [ex7_w1.2.2.1]
  rintro e w17 ⟨rfl, hx⟩
  have HS := Lib.hid (HS.out.quiet hx)
  clear hx
  go_wp2_with fail
  go_ret
  exact ⟨rfl, HX.out.trans HS.out.ext⟩
end Go.Proofs.Ytchhgbhbldfofaa.Hu
