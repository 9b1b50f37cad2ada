/-
  The law ZlibBack walked.
-/
import Derived.Test.YtnapnaaejignaaaGreatZlH
namespace Go.Proofs.YtnapnaaejignaaaGreat.De
open Go.RowKit Bt Hu If Mt

set_option maxHeartbeats 4000000 in
theorem begins11 (a b : ByteArray) (u : List UInt8) (w : World) (h : B a = B b ++ u) :
    Calls Tryz.prog 15 #[.string a, .string b] w fun e w' => e = .returned (.bool true) ∧ w = w' := by
  have h : a.data.toList = b.data.toList ++ u := h
  have e : a.extract 0 b.size = b := by
    apply ByteArray.ext
    apply Array.ext'
    rw [ext_data, h, List.take_left' (by simp)]
  have hle : b.size ≤ a.size := by
    have h1 : a.data.toList.length = a.size := by simp
    have h2 : b.data.toList.length = b.size := by simp
    rw [← h1, ← h2, h, List.length_append]
    omega
  have h1 : (b.size : Int) ≤ (a.size : Int) := by omega
  clear h
  go_enter Tryz.func15, Tryz.ntmps15
  go_wp2_with fail
  go_ret
  exact ⟨by simp, rfl⟩
set_option maxRecDepth 100000 in
set_option maxHeartbeats 8000000 in
theorem back11_law (s t : ByteArray) (n : Int) (w : World) (_hs : s.size ≤ maxLen) (_ht : t.size ≤ maxLen) (wn : (Lit.int .i64 n).wf = true) :
    Calls Tryz.prog 5 #[.string s, .string t, .int .i64 n] w fun e w' => e = .returned (.bool true) ∧ Ext [] w w' := by
  obtain ⟨n0, n1⟩ := Kt.wf_i64 wn
  clear wn
  by_cases hs : s.size ≤ 500
  · have hsn : ¬ (500 : Int) < (s.size : Int) := by omega
    by_cases ht : t.size ≤ 500
    · have htn : ¬ (500 : Int) < (t.size : Int) := by omega
      have hps := putZ_size s
      have hbz := best_small s (by omega)
      have hpw := fun w => zput_walk s w (by omega)
      have hcz := fun k => cut_get s k (by omega)
      have hbk := get_back s t (by omega)
      obtain ⟨P, hP⟩ : ∃ P, putZ s = P := ⟨_, rfl⟩
      simp only [hP] at hps hpw hcz hbk
      have hp0 : 0 < P.size := by omega
      obtain ⟨k, hk⟩ : ∃ k : Nat, n % (P.size : Int) = k := ⟨(n % (P.size : Int)).toNat, by have := Int.emod_nonneg n (show (P.size : Int) ≠ 0 by omega); omega⟩
      have hkl : k < P.size := by have := Int.emod_lt_of_pos n (show (0 : Int) < (P.size : Int) by omega); omega
      have HPK := Lib.hid (fun w => Kt.pick_any n (P.size : Int) w (by omega) (by omega) n0 n1)
      have HK := Lib.hid hk
      have hcut := hcz k hkl
      have hPP : (P ++ t).size = P.size + t.size := ByteArray.size_append
      have hXs := ext_size P k (by omega)
      obtain ⟨X, hX⟩ : ∃ X, P.extract 0 k = X := ⟨_, rfl⟩
      rw [hX] at hcut hXs
      have hgw := fun w => zget_walk X s.size w (by omega) (by omega)
      have hsw := fun w => zsal_walk X s.size w (by omega) (by omega)
      have hgp := fun w => zget_walk (P ++ t) s.size w (by omega) (by omega)
      have hsp := fun w => zsal_walk (P ++ t) s.size w (by omega) (by omega)
      rw [hbk.1] at hgp
      rw [hbk.2] at hsp
      obtain ⟨c1, c2, c3⟩ := hcut
      obtain ⟨⟨g1, g2⟩, hg⟩ : ∃ g, getZ X s.size = g := ⟨_, rfl⟩
      obtain ⟨⟨q1, q2⟩, hq⟩ : ∃ q, salZ X s.size = q := ⟨_, rfl⟩
      simp only [hg, hq] at c1 c2 c3 hgw hsw
      subst c1 c2
      have HW := Lib.hid (⟨hpw, hgp, hgw, hsw, hsp⟩ : _ ∧ _ ∧ _ ∧ _ ∧ _)
      have hb2 : k < 2 ∨ 2 ≤ k ∧ ∃ u, B s = B q1 ++ u := by
        by_cases h : k < 2
        · exact .inl h
        · exact .inr ⟨by omega, c3 (by omega)⟩
      have hP9 : P.size ≤ 1048576 := by omega
      have hk0 : (0 : Int) ≤ (k : Int) := by omega
      have hk1 : (k : Int) ≤ (P.size : Int) := by omega
      have HB2 := Lib.hid hb2
      have HX0 := Lib.hid hX
      clear hk hps hbz hpw hcz hbk hP n0 n1 hgw hsw hgp hsp hg hq c3 hb2 hX
      go_enter Tryz.func5, Tryz.ntmps5
      go_wp2_with fail
      refine (lives11 w).mono ?_
      rintro e w1 ⟨rfl, hx⟩
      have HX := Lib.hid hx
      clear hx
      go_wp2_with fail
      refine (HW.out.1 w1).mono ?_
      rintro e w2 ⟨rfl, hx⟩
      have HX := Lib.hid (HX.out.trans hx)
      clear hx
      go_wp2_with fail
      refine (HW.out.2.1 w2).mono ?_
      rintro e w3 ⟨rfl, hx⟩
      have HX := Lib.hid (HX.out.trans hx)
      clear hx
      go_wp2_with fail
      refine (HPK.out w3).mono ?_
      rintro e w4 ⟨rfl, rfl⟩
      rw [HK.out]
      go_wp2_with fail
      rw [HX0.out]
      refine (HW.out.2.2.1 w3).mono ?_
      rintro e w4 ⟨rfl, hx⟩
      have HX := Lib.hid (HX.out.trans hx)
      clear hx
      go_wp2_with fail
      rw [HX0.out]
      refine (HW.out.2.2.2.1 w4).mono ?_
      rintro e w5 ⟨rfl, hx⟩
      have HX := Lib.hid (HX.out.trans hx)
      clear hx
      go_wp2_with fail
      refine (HW.out.2.2.2.2 w5).mono ?_
      rintro e w6 ⟨rfl, hx⟩
      have HX := Lib.hid (HX.out.trans hx)
      clear hx
      rcases HB2.out with hk2 | ⟨hk2, u, hu⟩
      · have hkz : (k : Int) < 2 := by omega
        go_wp2_with fail
        go_ret
        exact ⟨rfl, HX.out⟩
      · have hkz : ¬ (k : Int) < 2 := by omega
        have HB := Lib.hid (fun w => begins11 s q1 u w hu)
        clear hu
        go_wp2_with fail
        refine (HB.out w6).mono ?_
        rintro e w7 ⟨rfl, rfl⟩
        go_wp2_with fail
        go_ret
        exact ⟨rfl, HX.out⟩
    · have htn : (500 : Int) < (t.size : Int) := by omega
      go_enter Tryz.func5, Tryz.ntmps5
      go_wp2_with fail
      refine (lives11 w).mono ?_
      rintro e w1 ⟨rfl, hx⟩
      have HX := Lib.hid hx
      clear hx
      go_wp2_with fail
      go_ret
      exact ⟨rfl, HX.out⟩
  · have hsn : (500 : Int) < (s.size : Int) := by omega
    go_enter Tryz.func5, Tryz.ntmps5
    go_wp2_with fail
    refine (lives11 w).mono ?_
    rintro e w1 ⟨rfl, hx⟩
    have HX := Lib.hid hx
    clear hx
    go_wp2_with fail
    go_ret
    exact ⟨rfl, HX.out⟩
end Go.Proofs.YtnapnaaejignaaaGreat.De
