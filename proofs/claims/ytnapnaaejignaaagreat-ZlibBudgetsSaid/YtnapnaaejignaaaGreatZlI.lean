/-
  The laws ZlibNames and ZlibBudgets walked.
-/
import Derived.Test.YtnapnaaejignaaaGreatZlH
namespace Go.Proofs.YtnapnaaejignaaaGreat.De
open Go.RowKit Bt Hu If Mt

set_option maxRecDepth 100000 in
set_option maxHeartbeats 8000000 in
theorem names11_law (w : World) : Calls Tryz.prog 4 #[] w fun e w' => e = .returned (.bool true) ∧ Ext [] w w' := by
  go_enter Tryz.func4, Tryz.ntmps4
  go_wp2_with fail
  refine (zput_walk ⟨#[97]⟩ w (by decide)).mono ?_
  rw [exz_put]
  rintro e w1 ⟨rfl, hx⟩
  have HX := Lib.hid hx
  clear hx
  go_wp2_with fail
  refine (zget_walk ⟨#[120]⟩ 9 w1 (by decide) (by decide)).mono ?_
  rw [exz_e]
  rintro e w2 ⟨rfl, hx⟩
  have HX := Lib.hid (HX.out.trans hx)
  clear hx
  go_wp2_with fail
  refine (zget_walk ⟨#[120, 157, 75, 4, 0, 0, 98, 0, 98]⟩ 9 w2 (by decide) (by decide)).mono ?_
  rw [exz_f]
  rintro e w3 ⟨rfl, hx⟩
  have HX := Lib.hid (HX.out.trans hx)
  clear hx
  go_wp2_with fail
  refine (zget_walk ⟨#[120, 156, 75, 4, 0, 0, 98, 0, 99]⟩ 9 w3 (by decide) (by decide)).mono ?_
  rw [exz_b]
  rintro e w4 ⟨rfl, hx⟩
  have HX := Lib.hid (HX.out.trans hx)
  clear hx
  go_wp2_with fail
  refine (zget_walk ⟨#[120, 156, 75, 4, 0, 0, 98]⟩ 9 w4 (by decide) (by decide)).mono ?_
  rw [exz_c.1]
  rintro e w5 ⟨rfl, hx⟩
  have HX := Lib.hid (HX.out.trans hx)
  clear hx
  go_wp2_with fail
  refine (zget_walk ⟨#[120, 156, 75, 4, 0, 0, 98, 0, 98]⟩ 0 w5 (by decide) (by decide)).mono ?_
  rw [exz_g]
  rintro e w6 ⟨rfl, hx⟩
  have HX := Lib.hid (HX.out.trans hx)
  clear hx
  go_wp2_with fail
  refine (zget_walk ⟨#[120, 156, 75, 4, 0, 0, 98, 0, 98]⟩ (-1) w6 (by decide) (by decide)).mono ?_
  rw [(exz_h _).1]
  rintro e w7 ⟨rfl, hx⟩
  have HX := Lib.hid (HX.out.trans hx)
  clear hx
  go_wp2_with fail
  refine (zsal_walk ⟨#[120, 156, 75, 4, 0, 0, 98]⟩ 9 w7 (by decide) (by decide)).mono ?_
  rw [exz_c.2]
  rintro e w8 ⟨rfl, hx⟩
  have HX := Lib.hid (HX.out.trans hx)
  clear hx
  go_wp2_with fail
  refine (zsal_walk ⟨#[75, 4, 0]⟩ 9 w8 (by decide) (by decide)).mono ?_
  rw [exz_i]
  rintro e w9 ⟨rfl, hx⟩
  have HX := Lib.hid (HX.out.trans hx)
  clear hx
  go_wp2_with fail
  refine (zsal_walk ⟨#[120, 156, 75, 4, 0, 0, 98, 0, 98, 109, 111, 114, 101]⟩ 9 w9 (by decide) (by decide)).mono ?_
  rw [exz_d]
  rintro e w10 ⟨rfl, hx⟩
  have HX := Lib.hid (HX.out.trans hx)
  clear hx
  go_wp2_with fail
  refine (lives11 w10).mono ?_
  rintro e w11 ⟨rfl, hx⟩
  have HX := Lib.hid (HX.out.trans hx)
  clear hx
  go_wp2_with fail
  refine (adler_walk ⟨#[87, 105, 107, 105]⟩ w11 (by decide)).mono ?_
  have hl := adl_lt (B ⟨#[87, 105, 107, 105]⟩)
  have hz := exz_w.2.2
  obtain ⟨z, hz0⟩ : ∃ z, adlN (B ⟨#[87, 105, 107, 105]⟩) = z := ⟨_, rfl⟩
  rw [hz0] at hl hz ⊢
  rintro e w12 ⟨rfl, hx⟩
  have HX := Lib.hid (HX.out.trans hx)
  have HZ := Lib.hid hz
  clear hx hz hz0
  go_wp2_with fail
  refine (more_walk z ⟨#[112, 101, 100, 105, 97]⟩ w12 hl (by decide)).mono ?_
  rw [HZ.out]
  rintro e w13 ⟨rfl, hx⟩
  have HX := Lib.hid (HX.out.trans hx)
  clear hx
  go_wp2_with fail
  go_ret
  exact ⟨rfl, HX.out⟩
set_option maxRecDepth 100000 in
set_option maxHeartbeats 8000000 in
theorem budgets_law (s : ByteArray) (n : Int) (w : World) (_hs : s.size ≤ maxLen) (wn : (Lit.int .i64 n).wf = true) :
    Calls Tryz.prog 7 #[.string s, .int .i64 n] w fun e w' => e = .returned (.bool true) ∧ Ext [] w w' := by
  obtain ⟨n0, n1⟩ := Kt.wf_i64 wn
  clear wn
  by_cases h0 : s.size = 0
  · have h0z : (s.size : Int) = 0 := by omega
    go_enter Tryz.func7, Tryz.ntmps7
    go_wp2_with fail
    refine (lives11 w).mono ?_
    rintro e w1 ⟨rfl, hx⟩
    have HX := Lib.hid hx
    clear hx
    go_wp2_with fail
    go_ret
    exact ⟨rfl, HX.out⟩
  have h0z : ((s.size : Int) == 0) = false := beq_eq_false_iff_ne.2 (by omega)
  by_cases hs : s.size ≤ 500
  · have hsz : (s.size : Int) ≤ 500 := by omega
    have hsn : ¬ (500 : Int) < (s.size : Int) := by omega
    obtain ⟨k, hk⟩ : ∃ k : Nat, n % (s.size : Int) = k := ⟨(n % (s.size : Int)).toNat, by have := Int.emod_nonneg n (show (s.size : Int) ≠ 0 by omega); omega⟩
    have hkl : k < s.size := by have := Int.emod_lt_of_pos n (show (0 : Int) < (s.size : Int) by omega); omega
    have HPK := Lib.hid (fun w => Kt.pick_any n (s.size : Int) w (by omega) (by omega) n0 n1)
    have HK := Lib.hid hk
    obtain ⟨l1, l2⟩ := low_get s k (by omega) hkl
    replace l1 : getZ (putZ s) k = ((⟨#[]⟩ : ByteArray), 3) := l1
    have hps := putZ_size s
    have hbz := best_small s (by omega)
    have hpw := fun w => zput_walk s w (by omega)
    obtain ⟨P, hP⟩ : ∃ P, putZ s = P := ⟨_, rfl⟩
    simp only [hP] at l1 l2 hps hpw
    have HL := Lib.hid (⟨l1, l2⟩ : _ ∧ _)
    have HPW := Lib.hid hpw
    have hP9 : P.size ≤ 1048576 := by omega
    have hk0 : (0 : Int) ≤ (k : Int) := by omega
    have hk1 : (k : Int) ≤ (s.size : Int) := by omega
    clear hk l1 l2 hps hbz hpw hP n0 n1 h0
    go_enter Tryz.func7, Tryz.ntmps7
    go_wp2_with fail
    refine (lives11 w).mono ?_
    rintro e w1 ⟨rfl, hx⟩
    have HX := Lib.hid hx
    clear hx
    go_wp2_with fail
    refine (HPK.out w1).mono ?_
    rintro e w2 ⟨rfl, rfl⟩
    rw [HK.out]
    go_wp2_with fail
    refine (HPW.out w1).mono ?_
    rintro e w2 ⟨rfl, hx⟩
    have HX := Lib.hid (HX.out.trans hx)
    clear hx
    go_wp2_with fail
    refine (zget_walk P k w2 hP9 (by omega)).mono ?_
    rw [HL.out.1]
    rintro e w3 ⟨rfl, hx⟩
    have HX := Lib.hid (HX.out.trans hx)
    clear hx
    go_wp2_with fail
    refine (zsal_walk P k w3 hP9 (by omega)).mono ?_
    rw [HL.out.2]
    obtain ⟨Y, hY⟩ : ∃ Y, s.extract 0 k = Y := ⟨_, rfl⟩
    rw [hY]
    have HY := Lib.hid hY
    clear hY
    rintro e w4 ⟨rfl, hx⟩
    have HX := Lib.hid (HX.out.trans hx)
    clear hx
    go_wp2_with fail
    refine (zsal_walk P (-1) w4 hP9 (by omega)).mono ?_
    rw [show salZ P (-1) = ((⟨#[]⟩ : ByteArray), false) from (exz_h _).2]
    rintro e w5 ⟨rfl, hx⟩
    have HX := Lib.hid (HX.out.trans hx)
    clear hx
    have hY := HY.out
    go_wp2_with fail
    go_ret
    exact ⟨rfl, HX.out⟩
  · have hsn : (500 : Int) < (s.size : Int) := by omega
    go_enter Tryz.func7, Tryz.ntmps7
    go_wp2_with fail
    refine (lives11 w).mono ?_
    rintro e w1 ⟨rfl, hx⟩
    have HX := Lib.hid hx
    clear hx
    go_wp2_with fail
    go_ret
    exact ⟨rfl, HX.out⟩
end Go.Proofs.YtnapnaaejignaaaGreat.De
