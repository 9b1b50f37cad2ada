/-
  The law InflateSymbols walked.
-/
import Derived.Test.YtgjenpdppobpkaaInR
namespace Go.Proofs.Ytgjenpdppobpkaa.If
open Go.RowKit Bt Hu

theorem lastF_at (f : Nat → Nat) (n lo : Nat) : ∀ k, f lo ≤ n → f (lastF f n lo k) ≤ n ∧ lo ≤ lastF f n lo k ∧ lastF f n lo k ≤ lo + k ∧ (lastF f n lo k < lo + k → n < f (lastF f n lo k + 1))
  | 0, h => ⟨h, Nat.le_refl _, Nat.le_refl _, fun h => by rw [lastF] at h; omega⟩
  | k + 1, h => by
    rw [lastF]
    split
    · exact ⟨‹_›, by omega, by omega, fun h => by omega⟩
    · obtain ⟨h1, h2, h3, h4⟩ := lastF_at f n lo k h
      refine ⟨h1, h2, by omega, fun h5 => ?_⟩
      by_cases h6 : lastF f n lo k < lo + k
      · exact h4 h6
      · have e : lastF f n lo k + 1 = lo + (k + 1) := by omega
        rw [e]
        omega
theorem dst_next : ∀ d, d < 29 → dstB (d + 1) = dstB d + 2 ^ dstX d := by decide +kernel
theorem dst_end : dstB 29 + 2 ^ dstX 29 = 32769 := by decide +kernel
theorem len_next : ∀ n, n < 259 → 3 ≤ n → 257 ≤ lastF lenB n 257 28 ∧ lastF lenB n 257 28 ≤ 285 ∧ lenB (lastF lenB n 257 28) ≤ n ∧ n < lenB (lastF lenB n 257 28) + 2 ^ lenX (lastF lenB n 257 28) ∧ lenX (lastF lenB n 257 28) ≤ 5 ∧ (n = 258 → lastF lenB n 257 28 = 285) := by decide +kernel
theorem dst_of (n : Nat) (h1 : 1 ≤ n) (h2 : n ≤ 32768) : lastF dstB n 0 29 ≤ 29 ∧ dstB (lastF dstB n 0 29) ≤ n ∧ n < dstB (lastF dstB n 0 29) + 2 ^ dstX (lastF dstB n 0 29) ∧ dstX (lastF dstB n 0 29) ≤ 13 := by
  obtain ⟨a1, _, a3, a4⟩ := lastF_at dstB n 0 29 (show dstB 0 ≤ n from h1)
  refine ⟨by omega, a1, ?_, (dst_table _ (by omega)).1⟩
  by_cases h : lastF dstB n 0 29 < 29
  · have := a4 (by omega)
    rw [dst_next _ h] at this
    exact this
  · have e : lastF dstB n 0 29 = 29 := by omega
    rw [e, dst_end]
    omega
set_option maxRecDepth 100000 in
set_option maxHeartbeats 1600000 in
theorem syms_law (n : Int) (w : World) (_h0 : (Lit.int .i64 n).wf = true) :
    Calls Try.prog 8 #[.int .i64 n] w fun e w' => e = .returned (.bool true) ∧ Ext [] w w' := by
  have HL := Lib.hid (fun w => lenof_walk n w)
  have HD := Lib.hid (fun w => dstof_walk n w)
  by_cases hr : n < 1 ∨ 32768 < n
  · have e1 : lenOfZ n = -1 := by unfold lenOfZ; rw [if_pos (by omega)]
    have e2 : dstOfZ n = -1 := by unfold dstOfZ; rw [if_pos hr]
    rw [e1] at HL
    rw [e2] at HD
    clear e1 e2
    rcases hr with hr | hr
    · go_enter Try.func8, Try.ntmps8
      go_wp2_with fail
      refine (lives08 w).mono ?_
      rintro e w1 ⟨rfl, hx⟩
      have HX := Lib.hid hx
      clear hx
      go_wp2_with fail
      refine (HL.out w1).mono ?_
      rintro e w2 ⟨rfl, rfl⟩
      go_wp2_with fail
      refine (HD.out w1).mono ?_
      rintro e w2 ⟨rfl, rfl⟩
      go_wp2_with fail
      go_ret
      exact ⟨rfl, HX.out⟩
    · go_enter Try.func8, Try.ntmps8
      go_wp2_with fail
      refine (lives08 w).mono ?_
      rintro e w1 ⟨rfl, hx⟩
      have HX := Lib.hid hx
      clear hx
      go_wp2_with fail
      refine (HL.out w1).mono ?_
      rintro e w2 ⟨rfl, rfl⟩
      go_wp2_with fail
      refine (HD.out w1).mono ?_
      rintro e w2 ⟨rfl, rfl⟩
      go_wp2_with fail
      go_ret
      exact ⟨rfl, HX.out⟩
  · obtain ⟨m, rfl⟩ : ∃ m : Nat, n = m := ⟨n.toNat, by omega⟩
    have hm1 : 1 ≤ m := by omega
    have hm2 : m ≤ 32768 := by omega
    obtain ⟨d1, d2, d3, d4⟩ := dst_of m hm1 hm2
    have e2 : dstOfZ (m : Int) = (lastF dstB m 0 29 : Nat) := by unfold dstOfZ; rw [if_neg hr, Int.toNat_natCast]
    obtain ⟨d, hd⟩ : ∃ d, lastF dstB m 0 29 = d := ⟨_, rfl⟩
    rw [hd] at d1 d2 d3 d4 e2
    rw [e2] at HD
    have hdw := fun w => distance_walk (d : Int) w
    rw [(dstBZ_at d d1).1, (dstBZ_at d d1).2] at hdw
    obtain ⟨P, hP⟩ : ∃ P, dstB d = P := ⟨_, rfl⟩
    obtain ⟨X, hX⟩ : ∃ X, dstX d = X := ⟨_, rfl⟩
    rw [hP] at d2 d3 hdw
    rw [hX] at d3 d4 hdw
    have HDW := Lib.hid hdw
    have y1 : (m : Int) - (P : Int) < ((2 ^ X : Nat) : Int) := by omega
    have yb : 2 ^ X ≤ 2 ^ 13 := Nat.pow_le_pow_right (by omega) d4
    obtain ⟨Z, hZ⟩ : ∃ Z : Nat, 2 ^ X = Z := ⟨_, rfl⟩
    rw [hZ] at y1 yb
    have yz : (2 : Int) ^ X = (Z : Int) := by rw [← hZ]; push_cast; rfl
    have yc : (Z : Int) ≤ 8192 := by omega
    clear hZ yb
    have y2 : (m : Int) ≤ 32768 := by omega
    have y3 : (1 : Int) ≤ (m : Int) := by omega
    have y4 : (d : Int) ≤ 29 := by omega
    have y5 : (P : Int) ≤ (m : Int) := by omega
    have y6 : (X : Int) ≤ 13 := by omega
    clear hd e2 hdw hP hX hr _h0 d3
    by_cases hr : m < 3 ∨ 258 < m
    · have e1 : lenOfZ (m : Int) = -1 := by unfold lenOfZ; rw [if_pos (by omega)]
      rw [e1] at HL
      clear e1
      rcases hr with hr | hr
      · have y7 : (m : Int) < 3 := by omega
        go_enter Try.func8, Try.ntmps8
        go_wp2_with fail
        refine (lives08 w).mono ?_
        rintro e w1 ⟨rfl, hx⟩
        have HX := Lib.hid hx
        clear hx
        go_wp2_with fail
        refine (HL.out w1).mono ?_
        rintro e w2 ⟨rfl, rfl⟩
        go_wp2_with fail
        refine (HD.out w1).mono ?_
        rintro e w2 ⟨rfl, rfl⟩
        go_wp2_with fail
        refine (HDW.out w1).mono ?_
        rintro e w2 ⟨rfl, rfl⟩
        go_wp2_with fail
        go_ret
        exact ⟨rfl, HX.out⟩
      · have y7 : (258 : Int) < (m : Int) := by omega
        go_enter Try.func8, Try.ntmps8
        go_wp2_with fail
        refine (lives08 w).mono ?_
        rintro e w1 ⟨rfl, hx⟩
        have HX := Lib.hid hx
        clear hx
        go_wp2_with fail
        refine (HL.out w1).mono ?_
        rintro e w2 ⟨rfl, rfl⟩
        go_wp2_with fail
        refine (HD.out w1).mono ?_
        rintro e w2 ⟨rfl, rfl⟩
        go_wp2_with fail
        refine (HDW.out w1).mono ?_
        rintro e w2 ⟨rfl, rfl⟩
        go_wp2_with fail
        go_ret
        exact ⟨rfl, HX.out⟩
    · have hm3 : 3 ≤ m := by omega
      have hm258 : m ≤ 258 := by omega
      obtain ⟨a1, a2, a3, a4, a5, a6⟩ := len_next m (by omega) hm3
      have e1 : lenOfZ (m : Int) = (lastF lenB m 257 28 : Nat) := by unfold lenOfZ; rw [if_neg (by omega), Int.toNat_natCast]
      obtain ⟨q, hq⟩ : ∃ q, lastF lenB m 257 28 = q := ⟨_, rfl⟩
      rw [hq] at a1 a2 a3 a4 a5 a6 e1
      rw [e1] at HL
      have hlw := fun w => length_walk (q : Int) w
      rw [(lenBZ_at q a1 a2).1, (lenBZ_at q a1 a2).2] at hlw
      obtain ⟨T, hT⟩ : ∃ T, lenB q = T := ⟨_, rfl⟩
      obtain ⟨U, hU⟩ : ∃ U, lenX q = U := ⟨_, rfl⟩
      rw [hT] at a3 a4 hlw
      rw [hU] at a4 a5 hlw
      have HLW := Lib.hid hlw
      have z1 : (m : Int) - (T : Int) < ((2 ^ U : Nat) : Int) := by omega
      have zb : 2 ^ U ≤ 2 ^ 5 := Nat.pow_le_pow_right (by omega) a5
      obtain ⟨V, hV⟩ : ∃ V : Nat, 2 ^ U = V := ⟨_, rfl⟩
      rw [hV] at z1 zb
      have zz : (2 : Int) ^ U = (V : Int) := by rw [← hV]; push_cast; rfl
      have zd : (V : Int) ≤ 32 := by omega
      clear hV zb
      have z2 : (m : Int) ≤ 258 := by omega
      have z3 : (3 : Int) ≤ (m : Int) := by omega
      have z4 : (q : Int) ≤ 285 := by omega
      have z5 : (257 : Int) ≤ (q : Int) := by omega
      have z6 : (T : Int) ≤ (m : Int) := by omega
      have z7 : (U : Int) ≤ 5 := by omega
      have z8 : ((q : Int) == -1) = false := beq_eq_false_iff_ne.2 (by omega)
      have z9 : (0 : Int) ≤ (q : Int) := by omega
      clear e1 hq hlw hT hU a4 hr
      by_cases h258 : m = 258
      · have zq : q = 285 := a6 h258
        have zb : ((m : Int) == 258) = true := beq_iff_eq.2 (by omega)
        have zc : ((q : Int) != 285) = false := by rw [zq]; rfl
        clear h258 zq a6
        go_enter Try.func8, Try.ntmps8
        go_wp2_with fail
        refine (lives08 w).mono ?_
        rintro e w1 ⟨rfl, hx⟩
        have HX := Lib.hid hx
        clear hx
        go_wp2_with fail
        refine (HL.out w1).mono ?_
        rintro e w2 ⟨rfl, rfl⟩
        go_wp2_with fail
        refine (HD.out w1).mono ?_
        rintro e w2 ⟨rfl, rfl⟩
        go_wp2_with fail
        refine (HLW.out w1).mono ?_
        rintro e w2 ⟨rfl, rfl⟩
        go_wp2_with fail
        refine (HDW.out w1).mono ?_
        rintro e w2 ⟨rfl, rfl⟩
        go_wp2_with fail
        go_ret
        exact ⟨rfl, HX.out⟩
      · have zb : ((m : Int) == 258) = false := beq_eq_false_iff_ne.2 (by omega)
        clear h258 a6
        go_enter Try.func8, Try.ntmps8
        go_wp2_with fail
        refine (lives08 w).mono ?_
        rintro e w1 ⟨rfl, hx⟩
        have HX := Lib.hid hx
        clear hx
        go_wp2_with fail
        refine (HL.out w1).mono ?_
        rintro e w2 ⟨rfl, rfl⟩
        go_wp2_with fail
        refine (HD.out w1).mono ?_
        rintro e w2 ⟨rfl, rfl⟩
        go_wp2_with fail
        refine (HLW.out w1).mono ?_
        rintro e w2 ⟨rfl, rfl⟩
        go_wp2_with fail
        refine (HDW.out w1).mono ?_
        rintro e w2 ⟨rfl, rfl⟩
        go_wp2_with fail
        go_ret
        exact ⟨rfl, HX.out⟩
end Go.Proofs.Ytgjenpdppobpkaa.If
