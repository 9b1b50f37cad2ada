/-
  zlib: the chapter's examples; the laws ZlibNames and ZlibBudgets.
-/
import Derived.Test.YtnapnaaejignaaaGreatZlG
namespace Go.Proofs.YtnapnaaejignaaaGreat.De
open Go.RowKit Bt Hu If Mt

theorem exz_1 : storedN ⟨#[97]⟩ = ⟨#[1, 1, 0, 254, 255, 97]⟩ := by kernel_rfl
theorem exz_2 : fixedN ⟨#[97]⟩ = ⟨#[75, 4, 0]⟩ := by kernel_rfl
theorem exz_3 : bestN ⟨#[97]⟩ = ⟨#[75, 4, 0]⟩ := by
  have h := dynN_size ⟨#[97]⟩
  have hl : 17 ≤ (dynB8 ⟨#[97]⟩).length := by
    unfold dynB8
    simp only [List.length_append, bitsOf_length]
    omega
  unfold bestN
  rw [exz_1, exz_2]
  show shortN (if (3 : Nat) < 6 then _ else _) _ = _
  rw [if_pos (by decide)]
  unfold shortN
  rw [if_neg]
  show ¬ (dynN ⟨#[97]⟩).size < 3
  omega
theorem exz_put : putZ ⟨#[97]⟩ = ⟨#[120, 156, 75, 4, 0, 0, 98, 0, 98]⟩ := by
  unfold putZ
  rw [exz_3]
  kernel_rfl
theorem exz_sum : adlN (B ⟨#[97]⟩) = 6422626 := by decide +kernel
theorem exz_get (T X : ByteArray) (hX : X = headZ ++ ((⟨#[75, 4, 0]⟩ : ByteArray) ++ T)) :
    getZ X 9 = (if T.size < 4 then (txt [], 8) else if num4 T ≠ 6422626 then (txt [], 4) else (⟨#[97]⟩, 0)) ∧ salZ X 9 = (⟨#[97]⟩, decide (4 ≤ T.size ∧ num4 T = 6422626)) := by
  subst hX
  have h := get_run headZ ⟨#[97]⟩ T 9 headZ_size (by decide) (by decide)
  have q := sal_run headZ ⟨#[97]⟩ T 9 headZ_size (by decide) (by decide) (fr_head _)
  rw [fr_head, exz_3, exz_sum, if_neg (by simp)] at h
  rw [exz_3, exz_sum] at q
  exact ⟨h, q⟩
theorem exz_a : getZ ⟨#[120, 156, 75, 4, 0, 0, 98, 0, 98]⟩ 9 = (⟨#[97]⟩, 0) :=
  (exz_get ⟨#[0, 98, 0, 98]⟩ _ (by kernel_rfl)).1.trans (by rw [if_neg (by decide), if_neg (by decide +kernel)])
theorem exz_b : getZ ⟨#[120, 156, 75, 4, 0, 0, 98, 0, 99]⟩ 9 = (txt [], 4) :=
  (exz_get ⟨#[0, 98, 0, 99]⟩ _ (by kernel_rfl)).1.trans (by rw [if_neg (by decide), if_pos (by decide +kernel)])
theorem exz_c : getZ ⟨#[120, 156, 75, 4, 0, 0, 98]⟩ 9 = (txt [], 8) ∧ salZ ⟨#[120, 156, 75, 4, 0, 0, 98]⟩ 9 = (⟨#[97]⟩, false) :=
  ⟨(exz_get ⟨#[0, 98]⟩ _ (by kernel_rfl)).1.trans (by rw [if_pos (by decide)]), (exz_get ⟨#[0, 98]⟩ _ (by kernel_rfl)).2.trans (by rw [decide_eq_false (fun h => absurd h.1 (by decide))])⟩
theorem exz_d : salZ ⟨#[120, 156, 75, 4, 0, 0, 98, 0, 98, 109, 111, 114, 101]⟩ 9 = (⟨#[97]⟩, true) :=
  (exz_get ⟨#[0, 98, 0, 98, 109, 111, 114, 101]⟩ _ (by kernel_rfl)).2.trans (by rw [decide_eq_true (by decide +kernel)])
theorem exz_e : getZ ⟨#[120]⟩ 9 = (txt [], 8) := by
  unfold getZ
  rw [if_neg (by decide), if_pos (by decide)]
theorem exz_f : getZ ⟨#[120, 157, 75, 4, 0, 0, 98, 0, 98]⟩ 9 = (txt [], 4) := by
  unfold getZ
  rw [if_neg (by decide), if_neg (by decide), if_pos (by decide +kernel)]
theorem exz_g : getZ ⟨#[120, 156, 75, 4, 0, 0, 98, 0, 98]⟩ 0 = (txt [], 3) := by
  have h := (low_get ⟨#[97]⟩ 0 (by decide) (by decide)).1
  rw [exz_put] at h
  exact h
theorem exz_h (s : ByteArray) : getZ s (-1) = (txt [], 2) ∧ salZ s (-1) = (txt [], false) := by
  have h : getZ s (-1) = (txt [], 2) := by
    unfold getZ
    rw [if_pos (by decide)]
  refine ⟨h, ?_⟩
  unfold salZ
  rw [h, if_neg (by decide), if_pos (by decide)]
theorem exz_i : salZ ⟨#[75, 4, 0]⟩ 9 = (⟨#[97]⟩, false) := by
  have hf : frB ⟨#[75, 4, 0]⟩ = false := by decide +kernel
  have h : getZ ⟨#[75, 4, 0]⟩ 9 = (txt [], 4) := by
    unfold getZ
    rw [if_neg (by decide), if_neg (by decide), if_pos hf]
  obtain ⟨bits, h1, h2⟩ := best_run ⟨#[97]⟩ (by decide)
  have hr := h2 ByteArray.empty 9 (by decide)
  rw [exz_3, ByteArray.append_empty] at hr
  unfold salZ salT
  rw [h, if_neg (by decide), if_neg (by decide), hf, if_neg (by simp), show (9 : Int).toNat = 9 from rfl, hr, outOf_ok, txt_nB]
theorem exz_w : adlN (B ⟨#[87, 105, 107, 105, 112, 101, 100, 105, 97]⟩) = 300286872 ∧ adlN (B ⟨#[]⟩) = 1 ∧ moreN (adlN (B ⟨#[87, 105, 107, 105]⟩)) (B ⟨#[112, 101, 100, 105, 97]⟩) = 300286872 := by decide +kernel
set_option maxRecDepth 100000 in
set_option maxHeartbeats 4000000 in
theorem lives11 (w : World) : Calls Tryz.prog 8 #[] w fun e w' => e = .returned (.bool true) ∧ Ext [] w w' := by
  go_enter Tryz.func8, Tryz.ntmps8
  go_wp2_with fail
  refine (zget_walk ⟨#[120, 156, 75, 4, 0, 0, 98, 0, 98]⟩ 9 w (by decide) (by decide)).mono ?_
  rw [exz_a]
  rintro e w1 ⟨rfl, hx⟩
  have HX := Lib.hid hx
  clear hx
  go_wp2_with fail
  refine (adler_walk ⟨#[87, 105, 107, 105, 112, 101, 100, 105, 97]⟩ w1 (by decide)).mono ?_
  rw [exz_w.1]
  rintro e w2 ⟨rfl, hx⟩
  have HX := Lib.hid (HX.out.trans hx)
  clear hx
  go_wp2_with fail
  refine (adler_walk ⟨#[]⟩ w2 (by decide)).mono ?_
  rw [exz_w.2.1]
  rintro e w3 ⟨rfl, hx⟩
  have HX := Lib.hid (HX.out.trans hx)
  clear hx
  go_wp2_with fail
  go_ret
  exact ⟨rfl, HX.out⟩
end Go.Proofs.YtnapnaaejignaaaGreat.De
