/-
  inflate: the document's Length, Distance, LengthOf, DistanceOf, Order, dists, Fixed walked.
-/
import Derived.Test.YtgjenpdppobpkaaIpC
namespace Go.Proofs.Ytgjenpdppobpkaa.If
open Go.RowKit Bt Hu

theorem len_step : ∀ k, k < 19 → lenB (265 + (k + 1)) = lenB (265 + k) + 2 ^ ((4 + k) / 4) ∧ (4 + k) / 4 ≤ 5 ∧ lenX (265 + k) = (4 + k) / 4 ∧ lenB (265 + k) ≤ 258 := by decide +kernel
theorem len_last : lenX 284 = 5 ∧ lenB 284 = 227 := by decide
theorem dst_step : ∀ k, k < 25 → dstB (4 + (k + 1)) = dstB (4 + k) + 2 ^ ((2 + k) / 2) ∧ (2 + k) / 2 ≤ 13 ∧ dstX (4 + k) = (2 + k) / 2 ∧ dstB (4 + k) ≤ 24577 := by decide +kernel
theorem dst_last : dstX 29 = 13 ∧ dstB 29 = 24577 := by decide
set_option maxRecDepth 100000 in
set_option maxHeartbeats 4000000 in
theorem dlength_walk (x : Int) (w : World) : Calls Try.prog 21 #[.int .i64 x] w fun e w' => e = .returned (.tuple #[.int .i64 (lenBZ x), .int .i64 (lenXZ x)]) ∧ w = w' := by
  by_cases h1 : x < 257
  · have e1 : lenBZ x = 0 := by unfold lenBZ; rw [if_pos (.inl h1)]
    have e2 : lenXZ x = 0 := by unfold lenXZ; rw [if_pos (.inl h1)]
    rw [e1, e2]
    clear e1 e2
    go_enter Try.func21, Try.ntmps21
    go_wp2_with fail
    exact bodyPost_ret (results_tmp2 rfl _ _ _) rfl ⟨rfl, rfl⟩
  by_cases h2 : 285 < x
  · have e1 : lenBZ x = 0 := by unfold lenBZ; rw [if_pos (.inr h2)]
    have e2 : lenXZ x = 0 := by unfold lenXZ; rw [if_pos (.inr h2)]
    rw [e1, e2]
    clear e1 e2
    go_enter Try.func21, Try.ntmps21
    go_wp2_with fail
    exact bodyPost_ret (results_tmp2 rfl _ _ _) rfl ⟨rfl, rfl⟩
  by_cases h3 : x = 285
  · subst h3
    have e1 : lenBZ 285 = 258 := by decide
    have e2 : lenXZ 285 = 0 := by decide
    rw [e1, e2]
    clear e1 e2
    go_enter Try.func21, Try.ntmps21
    go_wp2_with fail
    exact bodyPost_ret (results_tmp2 rfl _ _ _) rfl ⟨rfl, rfl⟩
  have z3 : (x == 285) = false := beq_eq_false_iff_ne.2 h3
  by_cases h4 : x < 265
  · obtain ⟨n, rfl⟩ : ∃ n : Nat, x = n := ⟨x.toNat, by omega⟩
    have e1 : ((lenBZ n : Nat) : Int) = (n : Int) - 254 := by
      rw [(lenBZ_at n (by omega) (by omega)).1]
      unfold lenB
      rw [if_neg (by omega), if_pos (by omega)]
      omega
    have e2 : lenXZ n = 0 := by
      rw [(lenBZ_at n (by omega) (by omega)).2]
      unfold lenX
      rw [if_neg (by omega), if_pos (by omega)]
    rw [e1, e2]
    clear e1 e2
    go_enter Try.func21, Try.ntmps21
    go_wp2_with fail
    exact bodyPost_ret (results_tmp2 rfl _ _ _) rfl ⟨rfl, rfl⟩
  obtain ⟨n, rfl⟩ : ∃ n : Nat, x = ((265 + n : Nat) : Int) := ⟨(x - 265).toNat, by omega⟩
  have hn : n ≤ 19 := by omega
  rw [(lenBZ_at (265 + n) (by omega) (by omega)).1, (lenBZ_at (265 + n) (by omega) (by omega)).2]
  have e2 : ((lenX (265 + n) : Nat) : Int) = (4 + (n : Int)) / 4 := by
    by_cases hn19 : n = 19
    · subst hn19; rw [len_last.1]; rfl
    · rw [(len_step n (by omega)).2.2.1]; omega
  rw [e2]
  clear e2
  obtain ⟨R, hR⟩ : ∃ R, lenB (265 + n) = R := ⟨_, rfl⟩
  rw [hR]
  have HR := Lib.hid hR
  clear hR z3
  obtain ⟨x, hx⟩ : ∃ x : Int, x = ((265 + n : Nat) : Int) := ⟨_, rfl⟩
  rw [← hx]
  have hxq : (x - 261) / 4 = (4 + (n : Int)) / 4 := by omega
  have z1 : ¬ x < 257 := by omega
  have z2 : ¬ 285 < x := by omega
  have z3 : (x == 285) = false := beq_eq_false_iff_ne.2 (by omega)
  have z4 : ¬ x < 265 := by omega
  have z5 : x ≤ 284 := by omega
  have z6 : 265 ≤ x := by omega
  clear h1 h2 h3 h4
  rw [← hxq]
  clear hxq
  go_enter Try.func21, Try.ntmps21
  go_wp2_with fail
  clear z1 z2 z3 z4
  go_loopg [4, 5] n (fun g bv sv wr => ∃ k : Nat, g + k = n ∧ bv = .int .i64 (lenB (265 + k) : Nat) ∧ sv = .int .i64 ((265 + k : Nat) : Int) ∧ w = wr)
  case atStart => exact ⟨0, by omega, by have : lenB (265 + 0) = 11 := by decide
                                         rw [this]; rfl, rfl, rfl⟩
  case round =>
    obtain ⟨k, hk, rfl, rfl, rfl⟩ := hrel
    cases gk with
    | zero =>
      obtain rfl : k = n := by omega
      have hR := HR.out
      clear HR
      rw [hR]
      subst hx
      clear hR
      go_wp2_with fail
      exact bodyPost_ret (results_tmp2 rfl _ _ _) rfl ⟨by push_cast; rfl, rfl⟩
    | succ g =>
      obtain ⟨s1, s2, _, s4⟩ := len_step k (by omega)
      have HS1 := Lib.hid s1
      obtain ⟨P, hP⟩ : ∃ P, lenB (265 + k) = P := ⟨_, rfl⟩
      obtain ⟨X, hX⟩ : ∃ X, (4 + k) / 4 = X := ⟨_, rfl⟩
      rw [hP] at s4 HS1 ⊢
      rw [hX] at s2 HS1
      obtain ⟨Z, hZ⟩ : ∃ Z : Nat, 2 ^ X = Z := ⟨_, rfl⟩
      have hZ32 : Z ≤ 32 := by rw [← hZ]; exact Nat.le_trans (Nat.pow_le_pow_right (by omega) s2) (by decide)
      have yz : (2 : Int) ^ X = (Z : Int) := by rw [← hZ]; push_cast; rfl
      rw [hZ] at HS1
      obtain ⟨q, hq⟩ : ∃ q : Int, q = ((265 + k : Nat) : Int) := ⟨_, rfl⟩
      rw [← hq]
      have y1 : q < x := by omega
      have y2 : (q - 261) / 4 = (X : Int) := by omega
      have y3 : 265 ≤ q := by omega
      have HQ := Lib.hid (⟨hq, hk⟩ : _ ∧ _)
      clear s1 hP hX hZ hq
      go_wp2_with fail
      go_roundg g
      case measure => omega
      case rel => exact ⟨k + 1, by have := HQ.out.2; omega, by rw [HS1.out]; go_num, by have := HQ.out.1; go_num, rfl⟩
set_option maxRecDepth 100000 in
set_option maxHeartbeats 4000000 in
theorem ddistance_walk (x : Int) (w : World) : Calls Try.prog 22 #[.int .i64 x] w fun e w' => e = .returned (.tuple #[.int .i64 (dstBZ x), .int .i64 (dstXZ x)]) ∧ w = w' := by
  by_cases h1 : x < 0
  · have e1 : dstBZ x = 0 := by unfold dstBZ; rw [if_pos (.inl h1)]
    have e2 : dstXZ x = 0 := by unfold dstXZ; rw [if_pos (.inl h1)]
    rw [e1, e2]
    clear e1 e2
    go_enter Try.func22, Try.ntmps22
    go_wp2_with fail
    exact bodyPost_ret (results_tmp2 rfl _ _ _) rfl ⟨rfl, rfl⟩
  by_cases h2 : 29 < x
  · have e1 : dstBZ x = 0 := by unfold dstBZ; rw [if_pos (.inr h2)]
    have e2 : dstXZ x = 0 := by unfold dstXZ; rw [if_pos (.inr h2)]
    rw [e1, e2]
    clear e1 e2
    go_enter Try.func22, Try.ntmps22
    go_wp2_with fail
    exact bodyPost_ret (results_tmp2 rfl _ _ _) rfl ⟨rfl, rfl⟩
  by_cases h4 : x < 4
  · obtain ⟨n, rfl⟩ : ∃ n : Nat, x = n := ⟨x.toNat, by omega⟩
    have e1 : ((dstBZ n : Nat) : Int) = (n : Int) + 1 := by
      rw [(dstBZ_at n (by omega)).1]
      unfold dstB
      rw [if_pos (by omega)]
      omega
    have e2 : dstXZ n = 0 := by
      rw [(dstBZ_at n (by omega)).2]
      unfold dstX
      rw [if_pos (by omega)]
    rw [e1, e2]
    clear e1 e2
    go_enter Try.func22, Try.ntmps22
    go_wp2_with fail
    exact bodyPost_ret (results_tmp2 rfl _ _ _) rfl ⟨rfl, rfl⟩
  obtain ⟨n, rfl⟩ : ∃ n : Nat, x = ((4 + n : Nat) : Int) := ⟨(x - 4).toNat, by omega⟩
  have hn : n ≤ 25 := by omega
  rw [(dstBZ_at (4 + n) (by omega)).1, (dstBZ_at (4 + n) (by omega)).2]
  have e2 : ((dstX (4 + n) : Nat) : Int) = (2 + (n : Int)) / 2 := by
    by_cases hn25 : n = 25
    · subst hn25; rw [dst_last.1]; rfl
    · rw [(dst_step n (by omega)).2.2.1]; omega
  rw [e2]
  clear e2
  obtain ⟨R, hR⟩ : ∃ R, dstB (4 + n) = R := ⟨_, rfl⟩
  rw [hR]
  have HR := Lib.hid hR
  clear hR
  obtain ⟨x, hx⟩ : ∃ x : Int, x = ((4 + n : Nat) : Int) := ⟨_, rfl⟩
  rw [← hx]
  have hxq : (x - 2) / 2 = (2 + (n : Int)) / 2 := by omega
  have z1 : ¬ x < 0 := by omega
  have z2 : ¬ 29 < x := by omega
  have z4 : ¬ x < 4 := by omega
  have z5 : x ≤ 29 := by omega
  have z6 : 4 ≤ x := by omega
  clear h1 h2 h4
  rw [← hxq]
  clear hxq
  go_enter Try.func22, Try.ntmps22
  go_wp2_with fail
  clear z1 z2 z4
  go_loopg [4, 5] n (fun g bv sv wr => ∃ k : Nat, g + k = n ∧ bv = .int .i64 (dstB (4 + k) : Nat) ∧ sv = .int .i64 ((4 + k : Nat) : Int) ∧ w = wr)
  case atStart => exact ⟨0, by omega, by have : dstB (4 + 0) = 5 := by decide
                                         rw [this]; rfl, rfl, rfl⟩
  case round =>
    obtain ⟨k, hk, rfl, rfl, rfl⟩ := hrel
    cases gk with
    | zero =>
      obtain rfl : k = n := by omega
      have hR := HR.out
      clear HR
      rw [hR]
      subst hx
      clear hR
      go_wp2_with fail
      exact bodyPost_ret (results_tmp2 rfl _ _ _) rfl ⟨by push_cast; rfl, rfl⟩
    | succ g =>
      obtain ⟨s1, s2, _, s4⟩ := dst_step k (by omega)
      have HS1 := Lib.hid s1
      obtain ⟨P, hP⟩ : ∃ P, dstB (4 + k) = P := ⟨_, rfl⟩
      obtain ⟨X, hX⟩ : ∃ X, (2 + k) / 2 = X := ⟨_, rfl⟩
      rw [hP] at s4 HS1 ⊢
      rw [hX] at s2 HS1
      obtain ⟨Z, hZ⟩ : ∃ Z : Nat, 2 ^ X = Z := ⟨_, rfl⟩
      have hZ32 : Z ≤ 8192 := by rw [← hZ]; exact Nat.le_trans (Nat.pow_le_pow_right (by omega) s2) (by decide)
      have yz : (2 : Int) ^ X = (Z : Int) := by rw [← hZ]; push_cast; rfl
      rw [hZ] at HS1
      obtain ⟨q, hq⟩ : ∃ q : Int, q = ((4 + k : Nat) : Int) := ⟨_, rfl⟩
      rw [← hq]
      have y1 : q < x := by omega
      have y2 : (q - 2) / 2 = (X : Int) := by omega
      have y3 : 4 ≤ q := by omega
      have HQ := Lib.hid (⟨hq, hk⟩ : _ ∧ _)
      clear s1 hP hX hZ hq
      go_wp2_with fail
      go_roundg g
      case measure => omega
      case rel => exact ⟨k + 1, by have := HQ.out.2; omega, by rw [HS1.out]; go_num, by have := HQ.out.1; go_num, rfl⟩
theorem last_is (f : Nat → Nat) (n lo j : Nat) : ∀ k, j ≤ k → f (lo + j) ≤ n → (∀ i, j < i → i ≤ k → n < f (lo + i)) → lastF f n lo k = lo + j
  | 0, h1, _, _ => by rw [lastF, show j = 0 by omega]; rfl
  | k + 1, h1, h2, h3 => by
    rw [lastF]
    by_cases hj : j = k + 1
    · subst hj; rw [if_pos h2]
    · rw [if_neg (by have := h3 (k + 1) (by omega) (Nat.le_refl _); omega)]
      exact last_is f n lo j k (by omega) h2 (fun i a b => h3 i a (by omega))
theorem len_mono : ∀ i, i < 29 → ∀ j, j < 29 → i ≤ j → lenB (257 + i) ≤ lenB (257 + j) := by decide +kernel
theorem dst_mono : ∀ i, i < 30 → ∀ j, j < 30 → i ≤ j → dstB (0 + i) ≤ dstB (0 + j) := by decide +kernel
set_option maxRecDepth 100000 in
set_option maxHeartbeats 4000000 in
theorem dlenof_walk (n : Int) (w : World) : Calls Try.prog 24 #[.int .i64 n] w fun e w' => e = .returned (.int .i64 (lenOfZ n)) ∧ w = w' := by
  by_cases h1 : n < 3
  · have e1 : lenOfZ n = -1 := by unfold lenOfZ; rw [if_pos (.inl h1)]
    rw [e1]
    clear e1
    go_enter Try.func24, Try.ntmps24
    go_wp2_with fail
    go_ret
    exact ⟨rfl, rfl⟩
  by_cases h2 : 258 < n
  · have e1 : lenOfZ n = -1 := by unfold lenOfZ; rw [if_pos (.inr h2)]
    rw [e1]
    clear e1
    go_enter Try.func24, Try.ntmps24
    go_wp2_with fail
    go_ret
    exact ⟨rfl, rfl⟩
  by_cases h3 : n = 258
  · subst h3
    have e1 : lenOfZ 258 = 285 := by decide
    rw [e1]
    clear e1
    go_enter Try.func24, Try.ntmps24
    go_wp2_with fail
    go_ret
    exact ⟨rfl, rfl⟩
  obtain ⟨m, rfl⟩ : ∃ m : Nat, n = m := ⟨n.toNat, by omega⟩
  have z3 : ((m : Int) == 258) = false := beq_eq_false_iff_ne.2 (by omega)
  have e1 : lenOfZ (m : Int) = (lastF lenB m 257 28 : Nat) := by unfold lenOfZ; rw [if_neg (by omega), Int.toNat_natCast]
  have h285 : lenB (257 + 28) = 258 := by decide
  have h257 : lenB (257 + 0) = 3 := by decide
  rw [e1]
  obtain ⟨R, hR⟩ : ∃ R, lastF lenB m 257 28 = R := ⟨_, rfl⟩
  rw [hR]
  have HR := Lib.hid hR
  clear hR e1
  go_enter Try.func24, Try.ntmps24
  go_wp2_with fail
  clear z3
  go_loopg [3] 28 (fun g sv wr => ∃ k : Nat, g + k = 28 ∧ k ≤ 27 ∧ sv = .int .i64 ((257 + k : Nat) : Int) ∧ lenB (257 + k) ≤ m ∧ w = wr)
  case atStart => exact ⟨0, by omega, by omega, rfl, by omega, rfl⟩
  case round =>
    obtain ⟨k, hk, hk27, rfl, hle, rfl⟩ := hrel
    by_cases hk9 : k = 27
    · subst hk9
      have hR := HR.out
      rw [last_is lenB m 257 27 28 (by omega) hle (fun i a b => by (have e : i = 28 := by omega); subst e; omega)] at hR
      subst hR
      go_wp2_with fail
      go_ret
      exact ⟨rfl, rfl⟩
    · have hlw := dlength_walk ((257 + (k + 1) : Nat) : Int) w
      rw [(lenBZ_at (257 + (k + 1)) (by omega) (by omega)).1, (lenBZ_at (257 + (k + 1)) (by omega) (by omega)).2] at hlw
      have ht := len_table (257 + (k + 1)) (by omega)
      have hfin : m < lenB (257 + (k + 1)) → R = 257 + k := fun h => by
        rw [← HR.out]
        exact last_is lenB m 257 k 28 (by omega) hle (fun i a b => Nat.lt_of_lt_of_le h (len_mono (k + 1) (by omega) i (by omega) (by omega)))
      obtain ⟨P, hP⟩ : ∃ P, lenB (257 + (k + 1)) = P := ⟨_, rfl⟩
      obtain ⟨X, hX⟩ : ∃ X, lenX (257 + (k + 1)) = X := ⟨_, rfl⟩
      rw [hP] at hfin
      rw [hP, hX] at hlw ht
      obtain ⟨q, hq⟩ : ∃ q : Int, q = ((257 + k : Nat) : Int) := ⟨_, rfl⟩
      have hq1 : ((257 + (k + 1) : Nat) : Int) = q + 1 := by omega
      rw [hq1] at hlw
      rw [← hq]
      have HLW := Lib.hid hlw
      have hq2 : q < 284 := by omega
      have hq3 : 257 ≤ q := by omega
      have HQ := Lib.hid (⟨hq, hk, hP, hfin⟩ : _ ∧ _ ∧ _ ∧ _)
      clear hlw hP hX hq hk hq1 hle hfin
      by_cases hgt : m < P
      · have hgt' : (m : Int) < (P : Int) := by omega
        go_wp2_with fail
        refine HLW.out.mono ?_
        clear HLW
        rintro e w1 ⟨rfl, rfl⟩
        go_wp2_with fail
        go_ret
        have e9 : ((R : Nat) : Int) = q := by rw [HQ.out.2.2.2 hgt, HQ.out.1]
        exact ⟨by rw [e9]; rfl, rfl⟩
      · have hgt' : ¬ (m : Int) < (P : Int) := by omega
        go_wp2_with fail
        refine HLW.out.mono ?_
        clear HLW
        rintro e w1 ⟨rfl, rfl⟩
        go_wp2_with fail
        go_roundg (28 - (k + 1))
        case measure => have := HQ.out.2.1; omega
        case rel => exact ⟨k + 1, by have := HQ.out.2.1; omega, by omega, by have := HQ.out.1; go_num, by rw [HQ.out.2.2.1]; omega, rfl⟩
set_option maxRecDepth 100000 in
set_option maxHeartbeats 4000000 in
theorem ddstof_walk (n : Int) (w : World) : Calls Try.prog 25 #[.int .i64 n] w fun e w' => e = .returned (.int .i64 (dstOfZ n)) ∧ w = w' := by
  by_cases h1 : n < 1
  · have e1 : dstOfZ n = -1 := by unfold dstOfZ; rw [if_pos (.inl h1)]
    rw [e1]
    clear e1
    go_enter Try.func25, Try.ntmps25
    go_wp2_with fail
    go_ret
    exact ⟨rfl, rfl⟩
  by_cases h2 : 32768 < n
  · have e1 : dstOfZ n = -1 := by unfold dstOfZ; rw [if_pos (.inr h2)]
    rw [e1]
    clear e1
    go_enter Try.func25, Try.ntmps25
    go_wp2_with fail
    go_ret
    exact ⟨rfl, rfl⟩
  obtain ⟨m, rfl⟩ : ∃ m : Nat, n = m := ⟨n.toNat, by omega⟩
  have e1 : dstOfZ (m : Int) = (lastF dstB m 0 29 : Nat) := by unfold dstOfZ; rw [if_neg (by omega), Int.toNat_natCast]
  have h0 : dstB (0 + 0) = 1 := by decide
  rw [e1]
  obtain ⟨R, hR⟩ : ∃ R, lastF dstB m 0 29 = R := ⟨_, rfl⟩
  rw [hR]
  have HR := Lib.hid hR
  clear hR e1
  go_enter Try.func25, Try.ntmps25
  go_wp2_with fail
  go_loopg [3] 30 (fun g sv wr => ∃ k : Nat, g + k = 30 ∧ k ≤ 29 ∧ sv = .int .i64 ((0 + k : Nat) : Int) ∧ dstB (0 + k) ≤ m ∧ w = wr)
  case atStart => exact ⟨0, by omega, by omega, rfl, by omega, rfl⟩
  case round =>
    obtain ⟨k, hk, hk27, rfl, hle, rfl⟩ := hrel
    by_cases hk9 : k = 29
    · subst hk9
      have hR := HR.out
      rw [last_is dstB m 0 29 29 (by omega) hle (fun i a b => by omega)] at hR
      subst hR
      go_wp2_with fail
      go_ret
      exact ⟨rfl, rfl⟩
    · have hlw := ddistance_walk ((0 + (k + 1) : Nat) : Int) w
      rw [(dstBZ_at (0 + (k + 1)) (by omega)).1, (dstBZ_at (0 + (k + 1)) (by omega)).2] at hlw
      have ht := dst_table (0 + (k + 1)) (by omega)
      have hfin : m < dstB (0 + (k + 1)) → R = 0 + k := fun h => by
        rw [← HR.out]
        exact last_is dstB m 0 k 29 (by omega) hle (fun i a b => Nat.lt_of_lt_of_le h (dst_mono (k + 1) (by omega) i (by omega) (by omega)))
      obtain ⟨P, hP⟩ : ∃ P, dstB (0 + (k + 1)) = P := ⟨_, rfl⟩
      obtain ⟨X, hX⟩ : ∃ X, dstX (0 + (k + 1)) = X := ⟨_, rfl⟩
      rw [hP] at hfin
      rw [hP, hX] at hlw ht
      obtain ⟨q, hq⟩ : ∃ q : Int, q = ((0 + k : Nat) : Int) := ⟨_, rfl⟩
      have hq1 : ((0 + (k + 1) : Nat) : Int) = q + 1 := by omega
      rw [hq1] at hlw
      rw [← hq]
      have HLW := Lib.hid hlw
      have hq2 : q < 29 := by omega
      have hq3 : 0 ≤ q := by omega
      have HQ := Lib.hid (⟨hq, hk, hP, hfin⟩ : _ ∧ _ ∧ _ ∧ _)
      clear hlw hP hX hq hk hq1 hle hfin
      by_cases hgt : m < P
      · have hgt' : (m : Int) < (P : Int) := by omega
        go_wp2_with fail
        refine HLW.out.mono ?_
        clear HLW
        rintro e w1 ⟨rfl, rfl⟩
        go_wp2_with fail
        go_ret
        have e9 : ((R : Nat) : Int) = q := by rw [HQ.out.2.2.2 hgt, HQ.out.1]
        exact ⟨by rw [e9]; rfl, rfl⟩
      · have hgt' : ¬ (m : Int) < (P : Int) := by omega
        go_wp2_with fail
        refine HLW.out.mono ?_
        clear HLW
        rintro e w1 ⟨rfl, rfl⟩
        go_wp2_with fail
        go_roundg (30 - (k + 1))
        case measure => have := HQ.out.2.1; omega
        case rel => exact ⟨k + 1, by have := HQ.out.2.1; omega, by omega, by have := HQ.out.1; go_num, by rw [HQ.out.2.2.1]; omega, rfl⟩
end Go.Proofs.Ytgjenpdppobpkaa.If
