/-
  The law NumberSigns walked.
-/
import Derived.Test.YticahefindlmeaaDoorNuJ
import Derived.Test.YticahefindlmeaaDoorNuK
import Derived.Test.YticahefindlmeaaDoorNuT
namespace Go.Proofs.YticahefindlmeaaDoor.Nu
open Go.RowKit

theorem zeros_cut (n : Nat) (h : n ≤ 10) : (⟨#[48, 48, 48, 48, 48, 48, 48, 48, 48, 48]⟩ : ByteArray).extract 0 n = S (zs n) := by
  rw [S_ext, List.drop_zero]
  show S ((zs 10).take n) = _
  unfold zs
  rw [List.take_replicate, Nat.min_eq_left h]
theorem head_no (s : ByteArray) (x : Nat) (t : List UInt8) (hx : x < 256) (h : B s = UInt8.ofNat x :: t) (h1 : x ≠ 43) (h2 : x ≠ 45) : NoSg (B s) := by
  rw [h]
  refine ⟨fun e => h1 ?_, fun e => h2 ?_⟩
  · have := congrArg UInt8.toNat (Option.some.inj e)
    simp at this
    omega
  · have := congrArg UInt8.toNat (Option.some.inj e)
    simp at this
    omega
theorem kind_nil : (cutN []).kind = 0 := rfl
set_option maxRecDepth 100000 in
set_option maxHeartbeats 4000000 in
theorem signs_law (s t : ByteArray) (n : Int) (w : World) (hs : s.size ≤ maxLen) (ht : t.size ≤ maxLen) (wn : (Lit.int .i64 n).wf = true) (hw : Tabs w) :
    Calls Tryd.prog 3 #[.string s, .string t, .int .i64 n] w fun e w' => e = .returned (.bool true) ∧ Ext [] w w' := by
  obtain ⟨n0, n1⟩ := Kt.wf_i64 wn
  unfold maxLen at hs ht
  have HLV := Lib.hid (lives02 w hw)
  have HKS := Lib.hid (fun w => kind_walk s w (by omega))
  have HKT := Lib.hid (fun w => kind_walk t w (by omega))
  have HPS := Lib.hid (head_parts s)
  have HPT := Lib.hid (head_parts t)
  clear wn hw
  by_cases ks : (cutN (B s)).kind = 0
  · rw [ks] at HKS
    go_enter Tryd.func3, Tryd.ntmps3
    go_wp2_with fail
    refine HLV.out.mono ?_
    rintro e w1 ⟨rfl, hx⟩
    have HX := Lib.hid hx
    clear hx
    go_wp2_with fail
    refine (HKS.out _).mono ?_
    rintro e w2 ⟨rfl, hx⟩
    have HX := Lib.hid (HX.out.trans hx)
    clear hx
    go_wp2_with fail
    go_ret
    exact ⟨rfl, HX.out⟩
  have ks0 : s.size ≠ 0 := fun h => ks (by rw [List.eq_nil_of_length_eq_zero (show (B s).length = 0 from h)]; rfl)
  obtain ⟨u1, hu1⟩ : ∃ u1, (cutN (B s)).kind = u1 := ⟨_, rfl⟩
  have ku1 : ((u1 : Int) == 0) = false := beq_eq_false_iff_ne.2 (by omega)
  rw [hu1] at HKS
  by_cases kt : (cutN (B t)).kind = 0
  · rw [kt] at HKT
    clear ks kt hu1 ks0
    go_enter Tryd.func3, Tryd.ntmps3
    go_wp2_with fail
    refine HLV.out.mono ?_
    rintro e w1 ⟨rfl, hx⟩
    have HX := Lib.hid hx
    clear hx
    go_wp2_with fail
    refine (HKS.out _).mono ?_
    rintro e w2 ⟨rfl, hx⟩
    have HX := Lib.hid (HX.out.trans hx)
    clear hx
    go_wp2_with fail
    refine (HKT.out _).mono ?_
    rintro e w3 ⟨rfl, hx⟩
    have HX := Lib.hid (HX.out.trans hx)
    clear hx
    go_wp2_with fail
    go_ret
    exact ⟨rfl, HX.out⟩
  have kt0 : t.size ≠ 0 := fun h => kt (by rw [List.eq_nil_of_length_eq_zero (show (B t).length = 0 from h)]; rfl)
  obtain ⟨u2, hu2⟩ : ∃ u2, (cutN (B t)).kind = u2 := ⟨_, rfl⟩
  have ku2 : ((u2 : Int) == 0) = false := beq_eq_false_iff_ne.2 (by omega)
  rw [hu2] at HKT
  have HK := Lib.hid (⟨ks, kt, hu1, hu2⟩ : _ ∧ _ ∧ _ ∧ _)
  clear ks kt hu1 hu2
  rcases HPS.out with ⟨h0, _, _⟩ | ⟨he, h0, x, ts, hx0, hx, hB, _⟩
  · exact absurd h0 ks0
  rcases HPT.out with ⟨h0, _, _⟩ | ⟨he', h0', y, tt, hy0, hy, hB', _⟩
  · exact absurd h0 kt0
  have HBB := Lib.hid (⟨hB, hB'⟩ : _ ∧ _)
  have s0z : (0 : Int) < (s.size : Int) := by omega
  have t0z : (0 : Int) < (t.size : Int) := by omega
  clear hB hB' he he' ks0 kt0
  by_cases q0 : s.size ≤ 20
  rotate_left
  · have l1 : (20 : Int) < (s.size : Int) := by omega
    clear q0
    go_enter Tryd.func3, Tryd.ntmps3
    go_wp2_with fail
    refine HLV.out.mono ?_
    rintro e w1 ⟨rfl, hx⟩
    have HX := Lib.hid hx
    clear hx
    go_wp2_with fail
    refine (HKS.out _).mono ?_
    rintro e w2 ⟨rfl, hx⟩
    have HX := Lib.hid (HX.out.trans hx)
    clear hx
    go_wp2_with fail
    refine (HKT.out _).mono ?_
    rintro e w3 ⟨rfl, hx⟩
    have HX := Lib.hid (HX.out.trans hx)
    clear hx
    go_wp2_with fail
    go_ret
    exact ⟨rfl, HX.out⟩
  have l1 : ¬ (20 : Int) < (s.size : Int) := by omega
  by_cases q1 : t.size ≤ 20
  rotate_left
  · have l2 : (20 : Int) < (t.size : Int) := by omega
    clear q0 q1
    go_enter Tryd.func3, Tryd.ntmps3
    go_wp2_with fail
    refine HLV.out.mono ?_
    rintro e w1 ⟨rfl, hx⟩
    have HX := Lib.hid hx
    clear hx
    go_wp2_with fail
    refine (HKS.out _).mono ?_
    rintro e w2 ⟨rfl, hx⟩
    have HX := Lib.hid (HX.out.trans hx)
    clear hx
    go_wp2_with fail
    refine (HKT.out _).mono ?_
    rintro e w3 ⟨rfl, hx⟩
    have HX := Lib.hid (HX.out.trans hx)
    clear hx
    go_wp2_with fail
    go_ret
    exact ⟨rfl, HX.out⟩
  have l2 : ¬ (20 : Int) < (t.size : Int) := by omega
  by_cases q2 : x ≠ 43
  rotate_left
  · obtain rfl : x = 43 := by omega
    clear q0 q1 q2
    go_enter Tryd.func3, Tryd.ntmps3
    go_wp2_with fail
    refine HLV.out.mono ?_
    rintro e w1 ⟨rfl, hx⟩
    have HX := Lib.hid hx
    clear hx
    go_wp2_with fail
    refine (HKS.out _).mono ?_
    rintro e w2 ⟨rfl, hx⟩
    have HX := Lib.hid (HX.out.trans hx)
    clear hx
    go_wp2_with fail
    refine (HKT.out _).mono ?_
    rintro e w3 ⟨rfl, hx⟩
    have HX := Lib.hid (HX.out.trans hx)
    clear hx
    go_wp2_with fail
    go_ret
    exact ⟨rfl, HX.out⟩
  have d1 : ((x : Int) == 43) = false := beq_eq_false_iff_ne.2 (by omega)
  by_cases q3 : x ≠ 45
  rotate_left
  · obtain rfl : x = 45 := by omega
    clear q0 q1 q2 q3
    go_enter Tryd.func3, Tryd.ntmps3
    go_wp2_with fail
    refine HLV.out.mono ?_
    rintro e w1 ⟨rfl, hx⟩
    have HX := Lib.hid hx
    clear hx
    go_wp2_with fail
    refine (HKS.out _).mono ?_
    rintro e w2 ⟨rfl, hx⟩
    have HX := Lib.hid (HX.out.trans hx)
    clear hx
    go_wp2_with fail
    refine (HKT.out _).mono ?_
    rintro e w3 ⟨rfl, hx⟩
    have HX := Lib.hid (HX.out.trans hx)
    clear hx
    go_wp2_with fail
    go_ret
    exact ⟨rfl, HX.out⟩
  have d2 : ((x : Int) == 45) = false := beq_eq_false_iff_ne.2 (by omega)
  by_cases q4 : y ≠ 43
  rotate_left
  · obtain rfl : y = 43 := by omega
    clear q0 q1 q2 q3 q4
    go_enter Tryd.func3, Tryd.ntmps3
    go_wp2_with fail
    refine HLV.out.mono ?_
    rintro e w1 ⟨rfl, hx⟩
    have HX := Lib.hid hx
    clear hx
    go_wp2_with fail
    refine (HKS.out _).mono ?_
    rintro e w2 ⟨rfl, hx⟩
    have HX := Lib.hid (HX.out.trans hx)
    clear hx
    go_wp2_with fail
    refine (HKT.out _).mono ?_
    rintro e w3 ⟨rfl, hx⟩
    have HX := Lib.hid (HX.out.trans hx)
    clear hx
    go_wp2_with fail
    go_ret
    exact ⟨rfl, HX.out⟩
  have d3 : ((y : Int) == 43) = false := beq_eq_false_iff_ne.2 (by omega)
  by_cases q5 : y ≠ 45
  rotate_left
  · obtain rfl : y = 45 := by omega
    clear q0 q1 q2 q3 q4 q5
    go_enter Tryd.func3, Tryd.ntmps3
    go_wp2_with fail
    refine HLV.out.mono ?_
    rintro e w1 ⟨rfl, hx⟩
    have HX := Lib.hid hx
    clear hx
    go_wp2_with fail
    refine (HKS.out _).mono ?_
    rintro e w2 ⟨rfl, hx⟩
    have HX := Lib.hid (HX.out.trans hx)
    clear hx
    go_wp2_with fail
    refine (HKT.out _).mono ?_
    rintro e w3 ⟨rfl, hx⟩
    have HX := Lib.hid (HX.out.trans hx)
    clear hx
    go_wp2_with fail
    go_ret
    exact ⟨rfl, HX.out⟩
  have d4 : ((y : Int) == 45) = false := beq_eq_false_iff_ne.2 (by omega)
  by_cases q6 : 0 ≤ n
  rotate_left
  · have m1 : n < 0 := by omega
    clear q0 q1 q2 q3 q4 q5 q6
    go_enter Tryd.func3, Tryd.ntmps3
    go_wp2_with fail
    refine HLV.out.mono ?_
    rintro e w1 ⟨rfl, hx⟩
    have HX := Lib.hid hx
    clear hx
    go_wp2_with fail
    refine (HKS.out _).mono ?_
    rintro e w2 ⟨rfl, hx⟩
    have HX := Lib.hid (HX.out.trans hx)
    clear hx
    go_wp2_with fail
    refine (HKT.out _).mono ?_
    rintro e w3 ⟨rfl, hx⟩
    have HX := Lib.hid (HX.out.trans hx)
    clear hx
    go_wp2_with fail
    go_ret
    exact ⟨rfl, HX.out⟩
  have m1 : ¬ n < 0 := by omega
  by_cases q7 : n ≤ 10
  rotate_left
  · have m2 : (10 : Int) < n := by omega
    clear q0 q1 q2 q3 q4 q5 q6 q7
    go_enter Tryd.func3, Tryd.ntmps3
    go_wp2_with fail
    refine HLV.out.mono ?_
    rintro e w1 ⟨rfl, hx⟩
    have HX := Lib.hid hx
    clear hx
    go_wp2_with fail
    refine (HKS.out _).mono ?_
    rintro e w2 ⟨rfl, hx⟩
    have HX := Lib.hid (HX.out.trans hx)
    clear hx
    go_wp2_with fail
    refine (HKT.out _).mono ?_
    rintro e w3 ⟨rfl, hx⟩
    have HX := Lib.hid (HX.out.trans hx)
    clear hx
    go_wp2_with fail
    go_ret
    exact ⟨rfl, HX.out⟩
  have m2 : ¬ (10 : Int) < n := by omega
  have hns := head_no s x ts hx HBB.out.1 q2 q3
  have hnt := head_no t y tt hy HBB.out.2 q4 q5
  obtain ⟨N, rfl⟩ : ∃ N : Nat, n = N := ⟨n.toNat, by omega⟩
  have hN : N ≤ 10 := by omega
  obtain ⟨a, ga, g1, g2, g3, g4⟩ := signs_cmp (B s) (B t) N hns hnt HK.out.1 HK.out.2.1 (by rw [B_len]; exact q0) (by rw [B_len]; exact q1) hN
  have HSR := Lib.hid (fun h2 => signs_real (B s) N hns h2 (by rw [B_len]; exact q0) hN)
  have w1 := fun w => compare_walk s t w (by omega) (by omega)
  have w2 := fun w => compare_walk (S (45 :: B s)) (S (45 :: B t)) w (by rw [S_size, List.length_cons, B_len]; omega) (by rw [S_size, List.length_cons, B_len]; omega)
  have w3 := fun w => compare_walk (S (43 :: B s)) t w (by rw [S_size, List.length_cons, B_len]; omega) (by omega)
  have lz : (zs N).length = N := List.length_replicate
  have w4 := fun w => compare_walk (S (zs N ++ B s)) t w (by rw [S_size, List.length_append, B_len]; omega) (by omega)
  have w5 := fun w => real_walk s w (by omega)
  have w6 := fun w => real_walk (S (zs N ++ B s ++ zs N)) w (by rw [S_size, List.length_append, List.length_append, B_len]; omega)
  rw [g1] at w1
  simp only [B_S] at w2 w3 w4 w6
  rw [g2] at w2
  rw [g3] at w3
  rw [g4] at w4
  have e1 : (⟨#[45]⟩ : ByteArray) ++ s = S (45 :: B s) := by rw [show (⟨#[45]⟩ : ByteArray) = S [45] from rfl]; (conv => lhs; rw [← S_B s, S_app]); rfl
  have e2 : (⟨#[45]⟩ : ByteArray) ++ t = S (45 :: B t) := by rw [show (⟨#[45]⟩ : ByteArray) = S [45] from rfl]; (conv => lhs; rw [← S_B t, S_app]); rfl
  have e3 : (⟨#[43]⟩ : ByteArray) ++ s = S (43 :: B s) := by rw [show (⟨#[43]⟩ : ByteArray) = S [43] from rfl]; (conv => lhs; rw [← S_B s, S_app]); rfl
  have e4 : S (zs N) ++ s = S (zs N ++ B s) := by conv => lhs; rw [← S_B s, S_app]
  have e5 : S (zs N) ++ s ++ S (zs N) = S (zs N ++ B s ++ zs N) := by rw [e4, S_app]
  rw [← e1, ← e2] at w2
  rw [← e3] at w3
  rw [← e4] at w4
  rw [← e5] at w6
  have HZ := Lib.hid (zeros_cut N hN)
  have zsz : (S (zs N)).size ≤ 10 := by rw [S_size, lz]; exact hN
  have z40 : (S (zs N) ++ s).size ≤ 40 := by rw [ByteArray.size_append]; omega
  have HW := Lib.hid (⟨w1, w2, w3, w4, w5, w6⟩ : _ ∧ _ ∧ _ ∧ _ ∧ _ ∧ _)
  obtain ⟨Z, hZ⟩ : ∃ Z, S (zs N) = Z := ⟨_, rfl⟩
  rw [hZ] at HZ zsz z40
  simp only [hZ] at HW
  have N0 : (0 : Int) ≤ (N : Int) := by omega
  have N10 : (N : Int) ≤ 10 := by omega
  have HA := Lib.hid ga
  clear ga w1 w2 w3 w4 w5 w6 e1 e2 e3 e4 e5 hZ lz g1 g2 g3 g4 hns hnt hs ht q0 q1 q2 q3 q4 q5 q6 q7
  go_enter Tryd.func3, Tryd.ntmps3
  go_wp2_with fail
  refine HLV.out.mono ?_
  rintro e w1 ⟨rfl, hx⟩
  have HX := Lib.hid hx
  clear hx
  go_wp2_with fail
  refine (HKS.out _).mono ?_
  rintro e w2 ⟨rfl, hx⟩
  have HX := Lib.hid (HX.out.trans hx)
  clear hx
  go_wp2_with fail
  refine (HKT.out _).mono ?_
  rintro e w3 ⟨rfl, hx⟩
  have HX := Lib.hid (HX.out.trans hx)
  clear hx
  go_wp2_with fail
  refine (HW.out.1 _).mono ?_
  rintro e w4 ⟨rfl, hx⟩
  have HX := Lib.hid (HX.out.trans hx)
  clear hx
  go_wp2_with fail
  refine (HW.out.2.1 _).mono ?_
  rintro e w5 ⟨rfl, hx⟩
  have HX := Lib.hid (HX.out.trans hx)
  clear hx
  go_wp2_with fail
  refine (HW.out.2.2.1 _).mono ?_
  rintro e w6 ⟨rfl, hx⟩
  have HX := Lib.hid (HX.out.trans hx)
  clear hx
  go_upto_region 9 with fail
  rw [HZ.out]
  go_wp2_with fail
  refine (HW.out.2.2.2.1 _).mono ?_
  rintro e w7 ⟨rfl, hx⟩
  have HX := Lib.hid (HX.out.trans hx)
  clear hx
  rcases HA.out with rfl | rfl | rfl
  all_goals
    by_cases k2 : u1 = 2
    · subst k2
      obtain ⟨r, hr1, hr2⟩ := HSR.out HK.out.2.2.1
      have h5 := HW.out.2.2.2.2.1
      have h6 := HW.out.2.2.2.2.2
      rw [hr1] at h5
      rw [hr2] at h6
      have H5 := Lib.hid h5
      have H6 := Lib.hid h6
      clear h5 h6 hr1 hr2
      go_wp2_with fail
      refine (HKS.out _).mono ?_
      rintro e w8 ⟨rfl, hx⟩
      have HX := Lib.hid (HX.out.trans hx)
      clear hx
      go_wp2_with fail
      refine (H5.out _).mono ?_
      rintro e w9 ⟨rfl, hx⟩
      have HX := Lib.hid (HX.out.trans hx)
      clear hx
      go_wp2_with fail
      refine (H6.out _).mono ?_
      rintro e w10 ⟨rfl, hx⟩
      have HX := Lib.hid (HX.out.trans hx)
      clear hx
      go_wp2_with fail
      go_ret
      exact ⟨rfl, HX.out⟩
    · have k2b : ((u1 : Int) != 2) = true := bne_iff_ne.2 (by omega)
      have k2c : ((u1 : Int) == 2) = false := beq_eq_false_iff_ne.2 (by omega)
      go_wp2_with fail
      refine (HKS.out _).mono ?_
      rintro e w8 ⟨rfl, hx⟩
      have HX := Lib.hid (HX.out.trans hx)
      clear hx
      go_wp2_with fail
      go_ret
      exact ⟨rfl, HX.out⟩
end Go.Proofs.YticahefindlmeaaDoor.Nu
