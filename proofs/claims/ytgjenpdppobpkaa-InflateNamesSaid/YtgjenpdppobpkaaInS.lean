/-
  The laws InflateNames, InflateSymbols walked.
-/
import Derived.Test.YtgjenpdppobpkaaInR
namespace Go.Proofs.Ytgjenpdppobpkaa.If
open Go.RowKit Bt Hu

theorem ex8_3 : runV ⟨#[1, 2, 0, 253, 255, 97, 98]⟩ 1 = .tuple #[.string ⟨#[97]⟩, .int .i64 0, .int .i64 3] := by kernel_rfl
theorem ex8_4 : runV ⟨#[7]⟩ 9 = .tuple #[.string ⟨#[]⟩, .int .i64 0, .int .i64 4] := by kernel_rfl
theorem ex8_5 : runV ⟨#[1, 2, 0, 253, 254, 97]⟩ 9 = .tuple #[.string ⟨#[]⟩, .int .i64 0, .int .i64 4] := by kernel_rfl
theorem ex8_6 : runV ⟨#[1, 2, 0, 253, 255, 97]⟩ 9 = .tuple #[.string ⟨#[97]⟩, .int .i64 0, .int .i64 8] := by kernel_rfl
theorem ex8_7 : runV ⟨#[]⟩ 9 = .tuple #[.string ⟨#[]⟩, .int .i64 0, .int .i64 8] := by kernel_rfl
theorem ex8_8 : (lenBZ 284 : Int) = 227 ∧ (lenXZ 284 : Int) = 5 ∧ (dstBZ 29 : Int) = 24577 ∧ (dstXZ 29 : Int) = 13 ∧ lenOfZ 257 = 284 ∧ lenOfZ 258 = 285 ∧ lenOfZ 2 = -1 ∧ dstOfZ 32768 = 29 ∧ dstOfZ 0 = -1 := by decide +kernel
theorem ex8_9 : fixL[256]? = some 7 := by decide +kernel
set_option maxRecDepth 100000 in
set_option maxHeartbeats 16000000 in
theorem names_law (w : World) : Calls Try.prog 6 #[] w fun e w' => e = .returned (.bool true) ∧ Ext [] w w' := by
  obtain ⟨x1, x2, x3, x4, x5, x6, x7, x8, x9⟩ := ex8_8
  have hl := fix_len
  have h9 := ex8_9
  have h1 := fun w => length_walk 284 w
  have h2 := fun w => distance_walk 29 w
  have h3 := fun w => lenof_walk 257 w
  have h4 := fun w => lenof_walk 258 w
  have h5 := fun w => lenof_walk 2 w
  have h6 := fun w => dstof_walk 32768 w
  have h7 := fun w => dstof_walk 0 w
  have h8 := fun w => fixed_walk w
  obtain ⟨X, hX⟩ : ∃ X, fixL = X := ⟨_, rfl⟩
  obtain ⟨Y, hY⟩ : ∃ Y, fixD = Y := ⟨_, rfl⟩
  rw [hX, hY] at hl
  simp only [hX, hY] at h8
  rw [hX] at h9
  rw [x1, x2] at h1
  rw [x3, x4] at h2
  rw [x5] at h3
  rw [x6] at h4
  rw [x7] at h5
  rw [x8] at h6
  rw [x9] at h7
  have HH := Lib.hid (⟨h1, h2, h3, h4, h5, h6, h7, h8⟩ : _ ∧ _ ∧ _ ∧ _ ∧ _ ∧ _ ∧ _ ∧ _)
  have HL := Lib.hid (⟨hl.1, hl.2, h9⟩ : _ ∧ _ ∧ _)
  clear x1 x2 x3 x4 x5 x6 x7 x8 x9 h1 h2 h3 h4 h5 h6 h7 h8 h9 hl hX hY
  go_enter Try.func6, Try.ntmps6
  go_wp2_with fail
  refine (run_walk ⟨#[1, 2, 0, 253, 255, 97, 98]⟩ 1 w (by decide) (by omega)).mono ?_
  rw [ex8_3]
  rintro e w1 ⟨rfl, hx⟩
  have HX := Lib.hid hx
  clear hx
  go_wp2_with fail
  refine (run_walk ⟨#[7]⟩ 9 w1 (by decide) (by omega)).mono ?_
  rw [ex8_4]
  rintro e w2 ⟨rfl, hx⟩
  have HX := Lib.hid (HX.out.trans hx)
  clear hx
  go_wp2_with fail
  refine (run_walk ⟨#[1, 2, 0, 253, 254, 97]⟩ 9 w2 (by decide) (by omega)).mono ?_
  rw [ex8_5]
  rintro e w3 ⟨rfl, hx⟩
  have HX := Lib.hid (HX.out.trans hx)
  clear hx
  go_wp2_with fail
  refine (run_walk ⟨#[1, 2, 0, 253, 255, 97]⟩ 9 w3 (by decide) (by omega)).mono ?_
  rw [ex8_6]
  rintro e w4 ⟨rfl, hx⟩
  have HX := Lib.hid (HX.out.trans hx)
  clear hx
  go_wp2_with fail
  refine (run_walk ⟨#[]⟩ 9 w4 (by decide) (by omega)).mono ?_
  rw [ex8_7]
  rintro e w5 ⟨rfl, hx⟩
  have HX := Lib.hid (HX.out.trans hx)
  clear hx
  go_wp2_with fail
  refine (run_neg ⟨#[3]⟩ (-1) w5 (by omega)).mono ?_
  rintro e w6 ⟨rfl, hx⟩
  have HX := Lib.hid (HX.out.trans hx)
  clear hx
  go_wp2_with fail
  refine (HH.out.1 w6).mono ?_
  rintro e w7 ⟨rfl, rfl⟩
  go_wp2_with fail
  refine (HH.out.2.1 w6).mono ?_
  rintro e w7 ⟨rfl, rfl⟩
  go_wp2_with fail
  refine (HH.out.2.2.2.2.2.2.2 w6).mono ?_
  rintro e w7 ⟨a1, k1, a2, k2, rfl, hx, ho1, ho2, _, _⟩
  have HX := Lib.hid (HX.out.trans hx)
  have HO := Lib.hid ho1
  clear hx ho1 ho2
  go_wp2_with fail
  refine (lives08 w7).mono ?_
  rintro e w8 ⟨rfl, hx⟩
  have HO := Lib.hid (ownsRow_ext HO.out hx (by simp))
  have HX := Lib.hid (HX.out.trans hx)
  clear hx
  go_wp2_with fail
  refine (HH.out.2.2.1 w8).mono ?_
  rintro e w9 ⟨rfl, rfl⟩
  go_wp2_with fail
  refine (HH.out.2.2.2.1 w8).mono ?_
  rintro e w9 ⟨rfl, rfl⟩
  go_wp2_with fail
  refine (HH.out.2.2.2.2.1 w8).mono ?_
  rintro e w9 ⟨rfl, rfl⟩
  go_wp2_with fail
  refine (HH.out.2.2.2.2.2.1 w8).mono ?_
  rintro e w9 ⟨rfl, rfl⟩
  go_wp2_with fail
  refine (HH.out.2.2.2.2.2.2.1 w8).mono ?_
  rintro e w9 ⟨rfl, rfl⟩
  obtain ⟨gb, k9, he⟩ := own_at HO.out (by rw [HL.out.1]; decide)
  injection he with e1 _ e3
  subst e1 e3
  have c9 : w8.cell? ⟨gb, 256, none⟩ = some (iz 7) := ownsRow_at HO.out (by rw [List.getElem?_map, HL.out.2.2]; rfl)
  rw [HL.out.1, HL.out.2.1]
  go_wp2_with fail
  go_ret
  exact ⟨rfl, HX.out⟩
end Go.Proofs.Ytgjenpdppobpkaa.If
