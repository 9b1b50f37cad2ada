/-
  MatchCalls walked.
-/
import Derived.Test.YtngfhnpelchplaaMtX
namespace Go.Proofs.Ytngfhnpelchplaa.Mt
open Go.RowKit

set_option maxRecDepth 100000 in
set_option maxHeartbeats 8000000 in
theorem rFind_any (s : ByteArray) (i : Int) (w : World) (hs : s.size ≤ 1048576) :
    Calls Try.prog 18 #[.string s, .int .i64 i] w fun e w' => e = .returned (.tuple #[.int .i64 ((findI s i).1 : Nat), .int .i64 ((findI s i).2 : Nat)]) ∧ Ext [] w w' := by
  by_cases h : 0 ≤ i ∧ i < s.size
  · obtain ⟨p, rfl⟩ : ∃ p : Nat, i = (p : Int) := ⟨i.toNat, by omega⟩
    have hp : p < s.size := by omega
    have e : findI s p = rfN s p := by unfold findI; rw [if_pos h, rfN_eq s p (by omega)]; rfl
    rw [e]
    exact rFind_walk s p w hs hp
  · have e : findI s i = (0, 0) := by unfold findI; rw [if_neg h]
    rw [e]
    by_cases h0 : i < 0
    · go_enter Try.func18, Try.ntmps18
      go_wp2_with fail
      exact bodyPost_ret (results_tmp2 rfl _ _ _) rfl ⟨rfl, Ext.refl _ _⟩
    · have h1 : (s.size : Int) ≤ i := by omega
      have h2 : (0 : Int) ≤ i := by omega
      clear h0 h e
      go_enter Try.func18, Try.ntmps18
      go_wp2_with fail
      exact bodyPost_ret (results_tmp2 rfl _ _ _) rfl ⟨rfl, Ext.refl _ _⟩
set_option maxRecDepth 100000 in
set_option maxHeartbeats 16000000 in
theorem calls_law (s : ByteArray) (i : Int) (v : Value) (b : Int) (w : World) (hs : s.size ≤ maxLen) (_wi : (Lit.int .i64 i).wf = true) (hv : ∃ l, PcArg w v l) (_wb : (Lit.int .i64 b).wf = true) :
    Calls Try.prog 7 #[.string s, .int .i64 i, v, .int .i64 b] w fun e w' => e = .returned (.bool true) ∧ Ext [] w w' := by
  unfold maxLen at hs
  obtain ⟨l, hA⟩ := hv
  have HA := Lib.hid hA
  obtain ⟨hP, ao, cap, rfl, hcap, hcm, hnil⟩ := hA
  have HP := Lib.hid hP
  unfold maxLen at hcm
  clear hP hnil
  by_cases h6 : s.size ≤ 600
  · have h6' : ¬ 600 < s.size := by omega
    by_cases hl6 : l.length ≤ 60
    · have hl6' : ¬ 60 < l.length := by omega
      have al := allN_len s
      obtain ⟨FR, hFR⟩ : ∃ FR, findI s i = FR := ⟨_, rfl⟩
      obtain ⟨AL, hAL⟩ : ∃ AL, allN s = AL := ⟨_, rfl⟩
      obtain ⟨EX, hEX⟩ : ∃ EX, expN l b = EX := ⟨_, rfl⟩
      obtain ⟨CK, hCK⟩ : ∃ CK, chkN l = CK := ⟨_, rfl⟩
      obtain ⟨SZ, hSZ⟩ : ∃ SZ, sizN l = SZ := ⟨_, rfl⟩
      have hF1 := fun w => Find_walk s i w (by omega)
      have hF2 := fun w => rFind_any s i w (by omega)
      have hA1 := fun w => All_pc s w (by omega)
      have hA2 := fun w => rAll_walk s w (by omega)
      rw [hFR] at hF1 hF2
      rw [hAL] at hA1 hA2 al
      have HF1 := Lib.hid hF1
      have HF2 := Lib.hid hF2
      have HA1 := Lib.hid hA1
      have HA2 := Lib.hid hA2
      clear hFR hAL hF1 hF2 hA1 hA2
      obtain ⟨FR1, FR2⟩ := FR
      obtain ⟨EX1, EX2⟩ := EX
      simp only at HF1 HF2
      have hE1 := fun v w (h : PcAt w v l) => Expand_walk v l b w h (by omega)
      have hE2 := fun w h => rExpand_walk (.slice ao l.length cap) l b w h (by omega)
      rw [hEX] at hE1 hE2
      have hC1 := fun w h => Check_walk (.slice ao l.length cap) l w h (by omega)
      have hC2 := fun w h => rCheck_walk (.slice ao l.length cap) l w h (by omega)
      rw [hCK] at hC1 hC2
      have hS1 := fun w h => Size_walk (.slice ao l.length cap) l w h (by omega)
      have hS2 := fun w h => rSize_walk (.slice ao l.length cap) l w h (by omega)
      rw [hSZ] at hS1 hS2
      have HE1 := Lib.hid hE1
      have HE2 := Lib.hid hE2
      have HC1 := Lib.hid hC1
      have HC2 := Lib.hid hC2
      have HS1 := Lib.hid hS1
      have HS2 := Lib.hid hS2
      clear hEX hCK hSZ hE1 hE2 hC1 hC2 hS1 hS2
      simp only at HE1 HE2
      generalize ByteArray.mk EX1.toArray = xt at *
      go_enter Try.func7, Try.ntmps7
      go_wp2_with fail
      refine (lives09 w).mono ?_
      rintro e w1 ⟨rfl, hx⟩
      have HX := Lib.hid hx
      clear hx
      go_wp2_with fail
      refine (HF1.out _).mono ?_
      rintro e w2 ⟨rfl, hx⟩
      have HX := Lib.hid (HX.out.trans hx)
      clear hx HF1
      go_wp2_with fail
      refine (HF2.out _).mono ?_
      rintro e w3 ⟨rfl, hx⟩
      have HX := Lib.hid (HX.out.trans hx)
      clear hx HF2
      go_wp2_with fail
      refine (Own_walk (.slice ao l.length cap) l _ ⟨HP.out.ext HX.out, HA.out.2⟩ (by omega)).mono ?_
      rintro e w4 ⟨v4, rfl, hx, hp4⟩
      have HX := Lib.hid (HX.out.trans hx)
      have HP4 := Lib.hid hp4
      clear hx hp4
      go_wp2_with fail
      refine (HE1.out _ _ HP4.out).mono ?_
      rintro e w5 ⟨rfl, hx⟩
      have HX := Lib.hid (HX.out.trans hx)
      clear hx HE1 HP4
      go_wp2_with fail
      refine (HE2.out _ (HP.out.ext HX.out)).mono ?_
      rintro e w6 ⟨rfl, hx⟩
      have HX := Lib.hid (HX.out.trans hx)
      clear hx HE2
      go_wp2_with fail
      refine (HA1.out _).mono ?_
      rintro e w7 ⟨v7, rfl, hx, hp7⟩
      have HX := Lib.hid (HX.out.trans hx)
      have HP7 := Lib.hid hp7
      clear hx hp7 HA1
      go_wp2_with fail
      refine (HA2.out _).mono ?_
      rintro e w8 ⟨v8, rfl, hx, hp8⟩
      have HX := Lib.hid (HX.out.trans hx)
      have HP7 := Lib.hid (HP7.out.ext hx)
      have HP8 := Lib.hid hp8
      clear hx hp8 HA2
      go_wp2_with fail
      refine (Same_walk v7 v8 AL AL _ HP7.out HP8.out (by omega) (by omega)).mono ?_
      rw [decide_eq_true rfl]
      rintro e w9 ⟨rfl, hx⟩
      have HX := Lib.hid (HX.out.trans hx)
      clear hx HP7 HP8
      go_wp2_with fail
      refine (HC1.out _ (HP.out.ext HX.out)).mono ?_
      rintro e w10 ⟨rfl, hx⟩
      have HX := Lib.hid (HX.out.trans hx)
      clear hx HC1
      go_wp2_with fail
      refine (HC2.out _ (HP.out.ext HX.out)).mono ?_
      rintro e w11 ⟨rfl, hx⟩
      have HX := Lib.hid (HX.out.trans hx)
      clear hx HC2
      go_wp2_with fail
      refine (HS1.out _ (HP.out.ext HX.out)).mono ?_
      rintro e w12 ⟨rfl, hx⟩
      have HX := Lib.hid (HX.out.trans hx)
      clear hx HS1
      go_wp2_with fail
      refine (HS2.out _ (HP.out.ext HX.out)).mono ?_
      rintro e w13 ⟨rfl, hx⟩
      have HX := Lib.hid (HX.out.trans hx)
      clear hx HS2
      go_wp2_with fail
      go_ret
      exact ⟨rfl, HX.out⟩
    · have hl6' : 60 < l.length := by omega
      go_enter Try.func7, Try.ntmps7
      go_wp2_with fail
      refine (lives09 w).mono ?_
      rintro e w1 ⟨rfl, hx1⟩
      go_wp2_with fail
      go_ret
      exact ⟨rfl, hx1⟩
  · have h6' : 600 < s.size := by omega
    go_enter Try.func7, Try.ntmps7
    go_wp2_with fail
    refine (lives09 w).mono ?_
    rintro e w1 ⟨rfl, hx1⟩
    go_wp2_with fail
    go_ret
    exact ⟨rfl, hx1⟩
end Go.Proofs.Ytngfhnpelchplaa.Mt
