/-
  The walk of BitsParts: a number of bits is read at once as in two parts.
-/
import Derived.Test.YtcbmapbpggjblaaBitsLives
namespace Go.Proofs.Ytcbmapbpggjblaa.Bt
open Go.RowKit

theorem getv_lo_add (s : ByteArray) (a m : Nat) : ∀ n, getv s false a (m + n) = getv s false a m + getv s false (a + m) n * 2 ^ m
  | 0 => by simp [getv]
  | n + 1 => by
    have ih := getv_lo_add s a m n
    rw [show m + (n + 1) = (m + n) + 1 by omega]
    simp only [getv, Bool.false_eq_true, if_false]
    rw [ih, Nat.add_mul, Nat.add_assoc, Nat.add_assoc a m n, Nat.pow_add, Nat.mul_assoc (bit s false (a + (m + n))), Nat.mul_comm (2 ^ n)]
theorem getv_hi_add (s : ByteArray) (a m : Nat) : ∀ n, getv s true a (m + n) = getv s true a m * 2 ^ n + getv s true (a + m) n
  | 0 => by simp [getv]
  | n + 1 => by
    have ih := getv_hi_add s a m n
    rw [show m + (n + 1) = (m + n) + 1 by omega]
    simp only [getv, if_true]
    rw [ih, Nat.add_assoc a m n, Nat.pow_succ]
    generalize getv s true a m = x
    generalize getv s true (a + m) n = y
    rw [← Nat.mul_assoc, Nat.mul_add]
    generalize x * 2 ^ n = z
    omega
theorem want_lo (s : ByteArray) (a m n : Nat) (hm : m < 16) (hn : n < 16) :
    bits BinOp.or IntKind.u32 (getv s false a m : Int) (IntKind.u32.wrap ((getv s false (a + m) n : Int) * 2 ^ m)) = (getv s false a (m + n) : Int) := by
  have h1 := getv_lt s false a m
  have h2 := getv_lt s false (a + m) n
  have p1 : 2 ^ m ≤ 2 ^ 15 := Nat.pow_le_pow_right (by omega) (by omega)
  have p2 : 2 ^ n ≤ 2 ^ 15 := Nat.pow_le_pow_right (by omega) (by omega)
  have h3 : getv s false (a + m) n * 2 ^ m ≤ 2 ^ 15 * 2 ^ 15 := Nat.mul_le_mul (by omega) p1
  have e : ((getv s false (a + m) n : Int) * 2 ^ m) = ((getv s false (a + m) n * 2 ^ m : Nat) : Int) := by push_cast; rfl
  rw [e, IntWalk.u32_in _ (by omega), u32_or_nat _ _ (by omega) (by omega), getv_lo_add]
  congr 1
  have := Nat.two_pow_add_eq_or_of_lt h1 (getv s false (a + m) n)
  rw [Nat.or_comm, Nat.mul_comm (getv s false (a + m) n), ← this]; omega
theorem want_hi (s : ByteArray) (a m n : Nat) (hm : m < 16) (hn : n < 16) :
    bits BinOp.or IntKind.u32 (IntKind.u32.wrap ((getv s true a m : Int) * 2 ^ n)) (getv s true (a + m) n : Int) = (getv s true a (m + n) : Int) := by
  have h1 := getv_lt s true a m
  have h2 := getv_lt s true (a + m) n
  have p1 : 2 ^ m ≤ 2 ^ 15 := Nat.pow_le_pow_right (by omega) (by omega)
  have p2 : 2 ^ n ≤ 2 ^ 15 := Nat.pow_le_pow_right (by omega) (by omega)
  have h3 : getv s true a m * 2 ^ n ≤ 2 ^ 15 * 2 ^ 15 := Nat.mul_le_mul (by omega) p2
  have e : ((getv s true a m : Int) * 2 ^ n) = ((getv s true a m * 2 ^ n : Nat) : Int) := by push_cast; rfl
  rw [e, IntWalk.u32_in _ (by omega), u32_or_nat _ _ (by omega) (by omega), getv_hi_add]
  congr 1
  rw [Nat.mul_comm (getv s true a m)]
  exact (Nat.two_pow_add_eq_or_of_lt h2 (getv s true a m)).symm

set_option maxHeartbeats 4000000 in
theorem bitsParts_core (s : ByteArray) (hi : Bool) (at_ m n : Int) (A M N : Nat) (w : World) (hA : A < 32) (hM : M < 16) (hN : N < 16)
    (ha : Hid (at_ % 32 = (A : Int))) (hm : Hid (m % 16 = (M : Int))) (hn : Hid (n % 16 = (N : Int)))
    (a0 : -9223372036854775808 ≤ at_) (a1 : at_ ≤ 9223372036854775807) (m0 : -9223372036854775808 ≤ m) (m1 : m ≤ 9223372036854775807) (n0 : -9223372036854775808 ≤ n) (n1 : n ≤ 9223372036854775807) (hs : s.size ≤ 300) :
    Calls Try.prog 3 #[.string s, .bool hi, .int .i64 at_, .int .i64 m, .int .i64 n] w fun e w' => e = .returned (.bool true) ∧ Ext [] w w' := by
  have hs2 : ¬ 300 < s.size := by omega
  go_enter Try.func3, Try.ntmps3
  go_wp2_with fail
  refine (lives_any w).mono ?_; rintro e w1 ⟨rfl, hx⟩
  have S := (Sep.start w).quiet hx
  clear hx
  go_wp2_with fail
  refine (pick_any at_ 32 _ (by decide) (by decide) a0 a1).mono ?_; rintro e w2 ⟨rfl, rfl⟩; rw [ha.out]
  go_wp2_with fail
  refine (pick_any m 16 _ (by decide) (by decide) m0 m1).mono ?_; rintro e w2 ⟨rfl, rfl⟩; rw [hm.out]
  go_wp2_with fail
  refine (pick_any n 16 _ (by decide) (by decide) n0 n1).mono ?_; rintro e w2 ⟨rfl, rfl⟩; rw [hn.out]
  clear a0 a1 m0 m1 n0 n1 ha hm hn
  go_wp2_with fail
  refine (sRnew s hi S).mono ?_; clear S; rintro e w3 ⟨b1, rfl, S⟩
  go_wp2_with fail
  refine (sRnew s hi S).mono ?_; clear S; rintro e w4 ⟨b2, rfl, S⟩
  go_wp2_with fail
  by_cases c1 : A ≤ 8 * s.size
  · refine (sGet (n := A) 1 S rfl (by omega) (by omega) (by omega)).mono ?_; clear S; rintro e w5 ⟨rfl, S⟩
    go_wp2_with fail
    refine (sGet (n := A) 0 S rfl (by omega) (by omega) (by omega)).mono ?_; clear S; rintro e w6 ⟨rfl, S⟩
    go_wp2_with fail
    rw [show ((M : Int) + (N : Int)) = ((M + N : Nat) : Int) from by omega]
    by_cases c2 : A + (M + N) ≤ 8 * s.size
    · refine (sGet (n := M + N) 1 S rfl (by omega) (by omega) (by omega)).mono ?_; clear S; rintro e w7 ⟨rfl, S⟩
      go_wp2_with fail
      refine (sGet (n := M) 0 S rfl (by omega) (by omega) (by omega)).mono ?_; clear S; rintro e w8 ⟨rfl, S⟩
      go_wp2_with fail
      refine (sGet (n := N) 0 S rfl (by omega) (by omega) (by omega)).mono ?_; clear S; rintro e w9 ⟨rfl, S⟩
      have q1 : (A : Int) + ((M : Int) + (N : Int)) = (A : Int) + (M : Int) + (N : Int) := by omega
      have q2 : (A : Int) + (M : Int) + (N : Int) + (8 * (s.size : Int) - ((A : Int) + (M : Int) + (N : Int))) = 8 * (s.size : Int) := by omega
      cases hi
      · have e := want_lo s A M N hM hN
        rw [IntKind.wrap_u32] at e
        go_wp2_with (first
          | (go_at_call 14; first | (refine (sAt 1 S rfl).mono ?_; clear S; rintro e w10 ⟨rfl, S⟩) | (refine (sAt 0 S rfl).mono ?_; clear S; rintro e w10 ⟨rfl, S⟩))
          | (go_at_call 15; refine (sLeft 1 S rfl (by omega) (by omega)).mono ?_; clear S; rintro e w10 ⟨rfl, S⟩))
        go_ret
        exact ⟨rfl, S.ext⟩
      · have e := want_hi s A M N hM hN
        rw [IntKind.wrap_u32] at e
        go_wp2_with (first
          | (go_at_call 14; first | (refine (sAt 1 S rfl).mono ?_; clear S; rintro e w10 ⟨rfl, S⟩) | (refine (sAt 0 S rfl).mono ?_; clear S; rintro e w10 ⟨rfl, S⟩))
          | (go_at_call 15; refine (sLeft 1 S rfl (by omega) (by omega)).mono ?_; clear S; rintro e w10 ⟨rfl, S⟩))
        go_ret
        exact ⟨rfl, S.ext⟩
    · refine (sGetMore (n := M + N) 1 S rfl (by omega) (by omega) (by omega) (by omega)).mono ?_; clear S; rintro e w7 ⟨rfl, S⟩
      have hlt : 8 * (s.size : Int) < A + M + N := by omega
      go_wp2_with fail
      go_ret
      exact ⟨rfl, S.ext⟩
  · refine (sGetMore (n := A) 1 S rfl (by omega) (by omega) (by omega) (by omega)).mono ?_; clear S; rintro e w5 ⟨rfl, S⟩
    go_wp2_with fail
    refine (sGetMore (n := A) 0 S rfl (by omega) (by omega) (by omega) (by omega)).mono ?_; clear S; rintro e w6 ⟨rfl, S⟩
    have hlt : 8 * (s.size : Int) < A + M + N := by omega
    go_wp2_with fail
    rw [show ((M : Int) + (N : Int)) = ((M + N : Nat) : Int) from by omega]
    by_cases c2 : M + N ≤ 8 * s.size
    · refine (sGet (n := M + N) 1 S rfl (by omega) (by omega) (by omega)).mono ?_; clear S; rintro e w7 ⟨rfl, S⟩
      go_wp2_with fail
      go_ret
      exact ⟨rfl, S.ext⟩
    · refine (sGetMore (n := M + N) 1 S rfl (by omega) (by omega) (by omega) (by omega)).mono ?_; clear S; rintro e w7 ⟨rfl, S⟩
      go_wp2_with fail
      go_ret
      exact ⟨rfl, S.ext⟩

theorem i64_bounds {n : Int} (h : (Lit.int .i64 n).wf = true) : -9223372036854775808 ≤ n ∧ n ≤ 9223372036854775807 := by
  simpa [Lit.wf, IntKind.min, IntKind.max, IntKind.signed, IntKind.bits] using h
theorem bitsParts_walk (s : ByteArray) (hi : Bool) (at_ m n : Int) (w : World) (_hs : s.size ≤ maxLen) (ha : (Lit.int .i64 at_).wf = true) (hm : (Lit.int .i64 m).wf = true) (hn : (Lit.int .i64 n).wf = true) :
    Calls Try.prog 3 #[.string s, .bool hi, .int .i64 at_, .int .i64 m, .int .i64 n] w fun e w' => e = .returned (.bool true) ∧ Ext [] w w' := by
  by_cases h : s.size ≤ 300
  · have ⟨a0, a1⟩ := i64_bounds ha
    have ⟨m0, m1⟩ := i64_bounds hm
    have ⟨n0, n1⟩ := i64_bounds hn
    exact bitsParts_core s hi at_ m n (at_ % 32).toNat (m % 16).toNat (n % 16).toNat w (by omega) (by omega) (by omega) (show at_ % 32 = _ by omega) (show m % 16 = _ by omega) (show n % 16 = _ by omega) a0 a1 m0 m1 n0 n1 h
  · have h' : 300 < s.size := by omega
    go_enter Try.func3, Try.ntmps3
    go_wp2_with fail
    refine (lives_any w).mono ?_; rintro e w1 ⟨rfl, hx⟩
    go_wp2_with fail
    go_ret
    exact ⟨rfl, hx⟩
end Go.Proofs.Ytcbmapbpggjblaa.Bt
