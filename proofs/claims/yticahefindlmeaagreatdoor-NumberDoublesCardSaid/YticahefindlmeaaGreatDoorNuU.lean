/-
  doubles, plain: what rounding does to a number of a middling size. No program is in sight here.
-/
import Derived.Test.YticahefindlmeaaGreatDoorNuQ
namespace Go.Proofs.YticahefindlmeaaGreatDoor.Nu
open Go.RowKit

abbrev F64 : Ieee.Format := FloatKind.f64.format
theorem f_sw : F64.signWeight = 9223372036854775808 := by kernel_rfl
theorem f_bin : F64.binade = 4503599627370496 := by kernel_rfl
theorem f_inf : F64.infRung = 9218868437227405312 := by kernel_rfl
theorem f_least : F64.leastPlace = -1074 := by kernel_rfl
theorem f_frac : F64.fractionBits = 52 := by kernel_rfl
/-- 'x' is the word of (±) m / 2^e, with 53 digits -/
structure Fn (x : Nat) (s : Bool) (m e : Nat) : Prop where
  low : 4503599627370496 ≤ m
  high : m < 9007199254740992
  few : e ≤ 1000
  word : x = (if s then 9223372036854775808 else 0) + ((1074 - e) * 4503599627370496 + m)
theorem read_fn {x : Nat} {s : Bool} {m e : Nat} (h : Fn x s m e) : F64.read x = .number s m (-(e : Int)) := by
  obtain ⟨h1, h2, h3, h4⟩ := h
  obtain ⟨g, hg⟩ : ∃ g, (1074 - e) * 4503599627370496 + m = g := ⟨_, rfl⟩
  rw [hg] at h4
  have hr : x % 9223372036854775808 = g := by
    cases s <;> simp at h4 <;> omega
  have hs : (x / 9223372036854775808 % 2 == 1) = s := by
    cases s <;> simp at h4 ⊢ <;> omega
  unfold Ieee.Format.read
  simp only [f_sw, f_bin, f_inf, f_least, hr, hs]
  rw [if_neg (by omega), if_pos (by omega)]
  have a1 : 4503599627370496 + g % 4503599627370496 = m := by omega
  have a2 : (-1074 : Int) + ((g / 4503599627370496 - 1 : Nat) : Int) = -(e : Int) := by omega
  rw [a1, a2]
theorem cut_zero (s : Bool) (n : Nat) : Ieee.Toward.even.cut s n 0 = n := by
  unfold Ieee.Toward.cut
  simp [Nat.mod_one]
/-- cutting 'd' digits off: as near as can be -/
theorem cut_even (s : Bool) (n d : Nat) (hd : d ≤ n.log2 + 2) : ∃ k, Ieee.Toward.even.cut s n d = k ∧ 2 * (k * 2 ^ d) ≤ 2 * n + 2 ^ d ∧ 2 * n ≤ 2 * (k * 2 ^ d) + 2 ^ d := by
  refine ⟨_, rfl, ?_⟩
  unfold Ieee.Toward.cut
  simp only [Nat.min_eq_left hd, Nat.one_shiftLeft]
  have hp : 0 < 2 ^ d := Nat.two_pow_pos d
  have hdm := Nat.div_add_mod n (2 ^ d)
  have hlt := Nat.mod_lt n hp
  generalize 2 ^ d = g at *
  generalize n / g = q at *
  generalize n % g = r at *
  rw [Nat.mul_comm] at hdm
  generalize hq : q * g = qg at *
  obtain ⟨b, hb⟩ : ∃ b, (decide (g < 2 * r) || (g == 2 * r && q % 2 == 1)) = b := ⟨_, rfl⟩
  rw [hb]
  cases b with
  | true =>
    rw [Bool.or_eq_true, Bool.and_eq_true] at hb
    have : g ≤ 2 * r := hb.elim (fun h => Nat.le_of_lt (of_decide_eq_true h)) (fun h => Nat.le_of_eq (eq_of_beq h.1))
    rw [Bool.toNat_true, Nat.add_mul, Nat.one_mul, hq]
    omega
  | false =>
    rw [Bool.or_eq_false_iff] at hb
    have := of_decide_eq_false hb.1
    rw [Bool.toNat_false, Nat.add_zero, hq]
    omega
theorem log_le {m : Nat} (h : m ≠ 0) : 2 ^ m.log2 ≤ m := Nat.log2_self_le h
theorem log_lt {m : Nat} : m < 2 ^ (m.log2 + 1) := Nat.lt_log2_self
theorem pw52 : (2 : Nat) ^ 52 = 4503599627370496 := by decide
theorem pw53 : (2 : Nat) ^ 53 = 9007199254740992 := by decide
/-- a whole number of at most 53 digits over a power of two: its word is exact -/
theorem near_exact (s : Bool) (mag P e : Nat) (h0 : mag ≠ 0) (hL : mag.log2 ≤ 52) (he : e + mag.log2 = P + 52) (hf : e ≤ 1000) :
    Fn (F64.nearest s mag (-(P : Int))) s (mag * 2 ^ (52 - mag.log2)) e := by
  have h1 : 2 ^ mag.log2 * 2 ^ (52 - mag.log2) = 4503599627370496 := by rw [← Nat.pow_add, ← pw52]; congr 1; omega
  have h2 : 2 ^ (mag.log2 + 1) * 2 ^ (52 - mag.log2) = 9007199254740992 := by rw [← Nat.pow_add, ← pw53]; congr 1; omega
  have hp : 0 < 2 ^ (52 - mag.log2) := Nat.two_pow_pos _
  have l1 : 4503599627370496 ≤ mag * 2 ^ (52 - mag.log2) := by rw [← h1]; exact Nat.mul_le_mul_right _ (log_le h0)
  have l2 : mag * 2 ^ (52 - mag.log2) < 9007199254740992 := by rw [← h2]; exact (Nat.mul_lt_mul_right hp).2 log_lt
  refine ⟨l1, l2, hf, ?_⟩
  unfold Ieee.Format.nearest
  rw [if_neg h0]
  have hlast : max (-(P : Int) + (mag.log2 : Nat) - (F64.fractionBits : Nat)) F64.leastPlace = -(e : Int) := by
    rw [f_frac, f_least]
    omega
  simp only [hlast]
  have a1 : (-(P : Int) - -(e : Int)).toNat = 52 - mag.log2 := by omega
  have a2 : (-(e : Int) - -(P : Int)).toNat = 0 := by omega
  rw [a1, a2, cut_zero, Nat.shiftLeft_eq, f_least, f_bin, f_inf]
  have a3 : (-(e : Int) - -1074).toNat = 1074 - e := by omega
  rw [a3, Nat.min_eq_left (by omega)]
  unfold Ieee.Format.word
  rw [f_sw]
  cases s <;> simp
theorem up_le (k D W m c c' : Nat) (h : k * D * c ≤ m * c') : k * (D * W) * c ≤ m * W * c' := by
  have h2 := Nat.mul_le_mul_right W h
  rwa [show k * D * c * W = k * (D * W) * c by simp only [Nat.mul_comm, Nat.mul_left_comm], Nat.mul_right_comm m] at h2
theorem up_ge (k D W m c c' : Nat) (h : m * c' ≤ k * D * c) : m * W * c' ≤ k * (D * W) * c := by
  have h2 := Nat.mul_le_mul_right W h
  rwa [show k * D * c * W = k * (D * W) * c by simp only [Nat.mul_comm, Nat.mul_left_comm], Nat.mul_right_comm m] at h2
theorem half_le (k D W m c c' : Nat) (h : (2 * k) * D * c ≤ m * c') : k * (D * (W * 2)) * c ≤ m * W * c' := by
  have h2 := up_le (2 * k) D W m c c' h
  rwa [show 2 * k * (D * W) * c = k * (D * (W * 2)) * c by simp only [Nat.mul_assoc, Nat.mul_comm, Nat.mul_left_comm]] at h2
theorem half_ge (k D W m c c' : Nat) (h : m * c' ≤ (2 * k) * D * c) : m * W * c' ≤ k * (D * (W * 2)) * c := by
  have h2 := up_ge (2 * k) D W m c c' h
  rwa [show 2 * k * (D * W) * c = k * (D * (W * 2)) * c by simp only [Nat.mul_assoc, Nat.mul_comm, Nat.mul_left_comm]] at h2
theorem errs1 (K m D : Nat) (h : 2 * K ≤ 2 * m + D) (g : 4503599627370496 * D ≤ m) : K * 9007199254740992 ≤ m * 9007199254740993 := by omega
theorem errs2 (K m D : Nat) (h : 2 * m ≤ 2 * K + D) (g : 4503599627370496 * D ≤ m) : m * 9007199254740991 ≤ K * 9007199254740992 := by omega
/-- a longer one: rounded to the nearest -/
theorem near_round (s : Bool) (mag P e : Nat) (hL : 52 < mag.log2) (he : e + mag.log2 = P + 52) (h1 : 1 ≤ e) (hf : e ≤ 1000) :
    ∃ m e', Fn (F64.nearest s mag (-(P : Int))) s m e' ∧ e' ≤ e ∧ e ≤ e' + 1 ∧
      m * 2 ^ P * 9007199254740992 ≤ mag * 2 ^ e' * 9007199254740993 ∧ mag * 2 ^ e' * 9007199254740991 ≤ m * 2 ^ P * 9007199254740992 := by
  have h0 : mag ≠ 0 := by rintro rfl; simp at hL
  obtain ⟨d, hd⟩ : ∃ d, mag.log2 = d + 52 := ⟨mag.log2 - 52, by omega⟩
  have hPe : P = d + e := by omega
  obtain ⟨k, hk, k1, k2⟩ := cut_even s mag d (by omega)
  have g1 := log_le h0
  have g2 := log_lt (m := mag)
  rw [hd] at g1 g2
  have q1 : (2 : Nat) ^ (d + 52) = 4503599627370496 * 2 ^ d := by rw [Nat.pow_add, pw52, Nat.mul_comm]
  have q2 : (2 : Nat) ^ (d + 52 + 1) = 9007199254740992 * 2 ^ d := by
    show (2 : Nat) ^ (d + 53) = _
    rw [Nat.pow_add, pw53, Nat.mul_comm]
  rw [q1] at g1
  rw [q2] at g2
  have hp : 0 < 2 ^ d := Nat.two_pow_pos d
  have hP : (2 : Nat) ^ P = 2 ^ d * 2 ^ e := by rw [hPe, Nat.pow_add]
  have klo : 4503599627370496 ≤ k := by
    have : 4503599627370496 < k + 1 := by
      refine Nat.lt_of_mul_lt_mul_right (a := 2 ^ d) ?_
      rw [Nat.add_mul, Nat.one_mul]
      omega
    omega
  have khi : k ≤ 9007199254740992 := by
    have : k < 9007199254740992 + 1 := by
      refine Nat.lt_of_mul_lt_mul_right (a := 2 ^ d) ?_
      omega
    omega
  have hw : F64.nearest s mag (-(P : Int)) = (if s then 9223372036854775808 else 0) + ((1074 - e) * 4503599627370496 + k) := by
    unfold Ieee.Format.nearest
    rw [if_neg h0]
    have hlast : max (-(P : Int) + (mag.log2 : Nat) - (F64.fractionBits : Nat)) F64.leastPlace = -(e : Int) := by
      rw [f_frac, f_least]
      omega
    simp only [hlast]
    have a1 : (-(P : Int) - -(e : Int)).toNat = 0 := by omega
    have a2 : (-(e : Int) - -(P : Int)).toNat = d := by omega
    rw [a1, a2, Nat.shiftLeft_zero, hk, f_least, f_bin, f_inf]
    have a3 : (-(e : Int) - -1074).toNat = 1074 - e := by omega
    rw [a3, Nat.min_eq_left (by omega)]
    unfold Ieee.Format.word
    rw [f_sw]
    cases s <;> simp
  -- the error, ahead of the power 2 ^ e
  have e1 := errs1 _ _ _ k1 g1
  have e2 := errs2 _ _ _ k2 g1
  by_cases hk2 : k < 9007199254740992
  · refine ⟨k, e, ⟨klo, hk2, hf, hw⟩, Nat.le_refl _, Nat.le_succ _, ?_, ?_⟩
    · rw [hP]; exact up_le _ _ _ _ _ _ e1
    · rw [hP]; exact up_ge _ _ _ _ _ _ e2
  · obtain rfl : k = 2 * 4503599627370496 := by omega
    obtain ⟨e', rfl⟩ : ∃ e', e = e' + 1 := ⟨e - 1, by omega⟩
    refine ⟨4503599627370496, e', ⟨Nat.le_refl _, by decide, by omega, ?_⟩, by omega, Nat.le_refl _, ?_, ?_⟩
    · have a4 : (1074 - (e' + 1)) * 4503599627370496 + 2 * 4503599627370496 = (1074 - e') * 4503599627370496 + 4503599627370496 := by omega
      rw [hw, a4]
    · rw [hP, Nat.pow_succ]; exact half_le _ _ _ _ _ _ e1
    · rw [hP, Nat.pow_succ]; exact half_ge _ _ _ _ _ _ e2
end Go.Proofs.YticahefindlmeaaGreatDoor.Nu
