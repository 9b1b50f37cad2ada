/-
  The law ZlibSums walked.
-/
import Derived.Test.YtnapnaaejignaaaGreatZlK
namespace Go.Proofs.YtnapnaaejignaaaGreat.De
open Go.RowKit Bt Hu If Mt

theorem num4_ne (S U : ByteArray) (k : Nat) (h4 : S.size = 4) (T : Turn S U k) : num4 U ≠ num4 S := by
  have hk := T.lt
  rw [h4] at hk
  have e := T.eq
  rw [h4] at e
  have hn := T.ne
  have a0 := If.byteAt_lt S 0
  have a1 := If.byteAt_lt S 1
  have a2 := If.byteAt_lt S 2
  have a3 := If.byteAt_lt S 3
  have b0 := If.byteAt_lt U 0
  have b1 := If.byteAt_lt U 1
  have b2 := If.byteAt_lt U 2
  have b3 := If.byteAt_lt U 3
  unfold num4
  match k, hk with
  | 0, _ => rw [e 1 (by omega) (by omega), e 2 (by omega) (by omega), e 3 (by omega) (by omega)]; omega
  | 1, _ => rw [e 0 (by omega) (by omega), e 2 (by omega) (by omega), e 3 (by omega) (by omega)]; omega
  | 2, _ => rw [e 0 (by omega) (by omega), e 1 (by omega) (by omega), e 3 (by omega) (by omega)]; omega
  | 3, _ => rw [e 0 (by omega) (by omega), e 1 (by omega) (by omega), e 2 (by omega) (by omega)]; omega
theorem B_app (s t : ByteArray) : B (s ++ t) = B s ++ B t := by
  unfold B
  rw [ByteArray.data_append, Array.toList_append]
theorem put_cut (s : ByteArray) : (putZ s).extract 0 ((putZ s).size - 4) = headZ ++ bestN s ∧ (putZ s).extract ((putZ s).size - 4) (putZ s).size = sumZ s := by
  have hz : (putZ s).size - 4 = (headZ ++ bestN s).size := by rw [putZ_size, ByteArray.size_append, headZ_size]; omega
  have e : putZ s = (headZ ++ bestN s) ++ sumZ s := by rw [putZ_is0, ByteArray.append_assoc]
  refine ⟨?_, ?_⟩
  · rw [hz]
    conv => lhs; rw [e]
    rw [ext_app, if_pos (Nat.le_refl _)]
    apply ByteArray.ext
    apply Array.ext'
    rw [ext_data, List.take_of_length_le (by simp)]
  · rw [hz]
    conv => lhs; rw [e]
    exact tail_app _ _
set_option maxRecDepth 100000 in
set_option maxHeartbeats 8000000 in
theorem sums11_law (s t : ByteArray) (n by_ : Int) (w : World) (_hs : s.size ≤ maxLen) (_ht : t.size ≤ maxLen) (wn : (Lit.int .i64 n).wf = true) (wb : (Lit.int .u8 by_).wf = true) :
    Calls Tryz.prog 6 #[.string s, .string t, .int .i64 n, .int .u8 by_] w fun e w' => e = .returned (.bool true) ∧ Ext [] w w' := by
  obtain ⟨n0, n1⟩ := Kt.wf_i64 wn
  obtain ⟨b, rfl⟩ := Kt.wf_u8 wb
  clear wn wb
  by_cases hs : s.size ≤ 500
  · have hsn : ¬ (500 : Int) < (s.size : Int) := by omega
    by_cases ht : t.size ≤ 500
    · have htn : ¬ (500 : Int) < (t.size : Int) := by omega
      have hST : (s ++ t).size = s.size + t.size := ByteArray.size_append
      have ha1 := fun w => adler_walk s w (by omega)
      have ha2 := fun w => adler_walk (s ++ t) w (by omega)
      have hal := adl_lt (B s)
      have hm1 := fun w => more_walk (adlN (B s)) t w hal (by omega)
      have hm2 := fun w => more_walk (adlN (B s)) ⟨#[]⟩ w hal (by decide)
      rw [more_app, ← B_app] at hm1
      rw [show B ⟨#[]⟩ = [] from rfl, moreN_nil] at hm2
      have hps := putZ_size s
      have hbz := best_small s (by omega)
      have hpw := fun w => zput_walk s w (by omega)
      obtain ⟨e1, e2⟩ := put_cut s
      have hS4 := sumZ_size s
      obtain ⟨U, k, hT, htw⟩ : ∃ U k, Turn (sumZ s) U k ∧ ∀ w, Calls Tryz.prog 16 #[.string (sumZ s), .int .i64 n, .int .u8 b.toNat] w fun e w' => e = .returned (.string U) ∧ Ext [] w w' := by
        obtain ⟨U, k, h1, h2⟩ := turned_any (sumZ s) n b (by omega) (by omega) n0 n1
        exact ⟨U, k, h1, h2⟩
      have hU4 := hT.size
      rw [hS4] at hU4
      have hnn := num4_ne _ _ _ hS4 hT
      have hsn4 := sumZ_num s ByteArray.empty
      rw [ByteArray.append_empty] at hsn4
      rw [hsn4] at hnn
      have hgr := get_run headZ s U s.size headZ_size (by omega) (Nat.le_refl _)
      have hsr := sal_run headZ s U s.size headZ_size (by omega) (Nat.le_refl _) (fr_head _)
      rw [fr_head, if_neg (by simp), if_neg (by omega), if_pos hnn, ← ByteArray.append_assoc] at hgr
      rw [decide_eq_false (fun h => hnn h.2), ← ByteArray.append_assoc] at hsr
      have hHB : (headZ ++ bestN s).size = 2 + (bestN s).size := by rw [ByteArray.size_append, headZ_size]
      have hHU : (headZ ++ bestN s ++ U).size = 6 + (bestN s).size := by rw [ByteArray.size_append, hHB, hU4]; omega
      have hgw := fun w => zget_walk (headZ ++ bestN s ++ U) s.size w (by omega) (by omega)
      have hsw := fun w => zsal_walk (headZ ++ bestN s ++ U) s.size w (by omega) (by omega)
      rw [hgr] at hgw
      rw [hsr] at hsw
      have hcz : (putZ s).size - 4 = 2 + (bestN s).size := by omega
      rw [hcz] at e1 e2
      obtain ⟨P, hP⟩ : ∃ P, putZ s = P := ⟨_, rfl⟩
      obtain ⟨Z, hZ⟩ : ∃ Z, sumZ s = Z := ⟨_, rfl⟩
      obtain ⟨HB, hHBe⟩ : ∃ HB, headZ ++ bestN s = HB := ⟨_, rfl⟩
      obtain ⟨c, hc⟩ : ∃ c, 2 + (bestN s).size = c := ⟨_, rfl⟩
      obtain ⟨a, ha⟩ : ∃ a, adlN (B s) = a := ⟨_, rfl⟩
      obtain ⟨a2, ha2e⟩ : ∃ a, adlN (B (s ++ t)) = a := ⟨_, rfl⟩
      simp only [hP, hZ, hHBe, hc, ha, ha2e] at ha1 ha2 hm1 hm2 hps hpw e1 e2 htw hgw hsw hHB hHU
      have hPc : P.size = c + 4 := by omega
      have hPcz : (P.size : Int) - 4 = (c : Int) := by omega
      have HW := Lib.hid (⟨ha1, ha2, hm1, hm2, hpw, htw, hgw, hsw⟩ : _ ∧ _ ∧ _ ∧ _ ∧ _ ∧ _ ∧ _ ∧ _)
      have HE1 := Lib.hid e1
      have HE2 := Lib.hid e2
      have hp6 : ¬ (P.size : Int) < 6 := by omega
      have hc0 : (0 : Int) ≤ (c : Int) := by omega
      have hcP : (c : Int) ≤ (P.size : Int) := by omega
      have hP9 : P.size ≤ 1048576 := by omega
      have hU9 : U.size = 4 := hU4
      clear ha1 ha2 hal hm1 hm2 hps hbz hpw e1 e2 hS4 hT htw hnn hsn4 hgr hsr hgw hsw hcz hP hZ hHBe hc ha ha2e n0 n1 hPc
      go_enter Tryz.func6, Tryz.ntmps6
      go_wp2_with fail
      refine (lives11 w).mono ?_
      rintro e w1 ⟨rfl, hx⟩
      have HX := Lib.hid hx
      clear hx
      go_wp2_with fail
      refine (HW.out.1 w1).mono ?_
      rintro e w2 ⟨rfl, hx⟩
      have HX := Lib.hid (HX.out.trans hx)
      clear hx
      go_wp2_with fail
      refine (HW.out.2.2.1 w2).mono ?_
      rintro e w3 ⟨rfl, hx⟩
      have HX := Lib.hid (HX.out.trans hx)
      clear hx
      go_wp2_with fail
      refine (HW.out.2.1 w3).mono ?_
      rintro e w4 ⟨rfl, hx⟩
      have HX := Lib.hid (HX.out.trans hx)
      clear hx
      go_wp2_with fail
      refine (HW.out.1 w4).mono ?_
      rintro e w5 ⟨rfl, hx⟩
      have HX := Lib.hid (HX.out.trans hx)
      clear hx
      go_wp2_with fail
      refine (HW.out.2.2.2.1 w5).mono ?_
      rintro e w6 ⟨rfl, hx⟩
      have HX := Lib.hid (HX.out.trans hx)
      clear hx
      go_wp2_with fail
      refine (HW.out.1 w6).mono ?_
      rintro e w7 ⟨rfl, hx⟩
      have HX := Lib.hid (HX.out.trans hx)
      clear hx
      go_wp2_with fail
      refine (HW.out.2.2.2.2.1 w7).mono ?_
      rintro e w8 ⟨rfl, hx⟩
      have HX := Lib.hid (HX.out.trans hx)
      clear hx
      go_upto_region 11 with fail
      refine wp_region_ext (by kernel_rfl) (by kernel_rfl) ?_
      repeat (go_big_quiet_step (first | (go_at_call 16; rw [HE2.out]; refine Calls.ext_of (HW.out.2.2.2.2.2.1 _))))
      refine wpQuiet_nil ?_
      rintro _ ⟨y, rfl⟩
      rw [HE1.out]
      have HX := Lib.hid (HX.out.trans y.ext)
      go_wp2_with fail
      refine (HW.out.2.2.2.2.2.2.1 _).mono ?_
      rintro e w9 ⟨rfl, hx⟩
      have HX := Lib.hid (HX.out.trans hx)
      clear hx
      go_wp2_with fail
      refine (HW.out.2.2.2.2.2.2.2 _).mono ?_
      rintro e w10 ⟨rfl, hx⟩
      have HX := Lib.hid (HX.out.trans hx)
      clear hx
      go_wp2_with fail
      go_ret
      exact ⟨rfl, HX.out⟩
    · have htn : (500 : Int) < (t.size : Int) := by omega
      go_enter Tryz.func6, Tryz.ntmps6
      go_wp2_with fail
      refine (lives11 w).mono ?_
      rintro e w1 ⟨rfl, hx⟩
      have HX := Lib.hid hx
      clear hx
      go_wp2_with fail
      go_ret
      exact ⟨rfl, HX.out⟩
  · have hsn : (500 : Int) < (s.size : Int) := by omega
    go_enter Tryz.func6, Tryz.ntmps6
    go_wp2_with fail
    refine (lives11 w).mono ?_
    rintro e w1 ⟨rfl, hx⟩
    have HX := Lib.hid hx
    clear hx
    go_wp2_with fail
    go_ret
    exact ⟨rfl, HX.out⟩
end Go.Proofs.YtnapnaaejignaaaGreat.De
