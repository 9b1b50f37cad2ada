/-
  doubles, plain: the quotient, the product, what is told of them.
-/
import Derived.Test.YticahefindlmeaaGreatDoorNuV
namespace Go.Proofs.YticahefindlmeaaGreatDoor.Nu
open Go.RowKit

theorem stick (X r y M st : Nat) (hr : r < y) (hst : st = (r != 0).toNat) (hM : M = 2 * X + st * y) (hy : y * 18014398509481984 ≤ M) :
    M * 18014398509481983 ≤ 2 * (X + r) * 18014398509481984 ∧ 2 * (X + r) * 18014398509481984 ≤ M * 18014398509481985 := by
  by_cases h0 : r = 0
  · subst h0
    have : st = 0 := hst
    subst this
    rw [Nat.zero_mul] at hM
    omega
  · have h1 : (r != 0) = true := by simp [h0]
    rw [h1] at hst
    have : st = 1 := hst
    subst this
    rw [Nat.one_mul] at hM
    omega
theorem pw54 : (2 : Nat) ^ 54 = 18014398509481984 := by decide
theorem pw55 : (2 : Nat) ^ 55 = 36028797018963968 := by decide
theorem pw56 : (2 : Nat) ^ 56 = 72057594037927936 := by decide
theorem quo_fn {x y N T u t : Nat} (hx : Fn x false (N * 2 ^ u) u) (hy : Fn y false (T * 2 ^ t) t) (hu : 23 ≤ u) (hu2 : u ≤ 52) (ht : t ≤ 52) :
    ∃ q m e, F64.div x y = some q ∧ Fn q false m e ∧ 22 ≤ e ∧ e ≤ 200 ∧ m * T * 4503599627370496 ≤ N * 2 ^ e * 4503599627370497 ∧ N * 2 ^ e * 4503599627370495 ≤ m * T * 4503599627370496 := by
  obtain ⟨P, hP⟩ : ∃ P, P + t = u + 55 := ⟨u + 55 - t, by omega⟩
  have hd := div_is hx hy hP
  have a1 := hx.low
  have a2 := hx.high
  have b1 := hy.low
  have b2 := hy.high
  have hND : N * 2 ^ u * 2 ^ 54 * 2 = N * 2 ^ P * 2 ^ t := by
    rw [Nat.mul_assoc, Nat.mul_assoc N, Nat.mul_assoc N, ← Nat.pow_add 2 P, hP, Nat.mul_comm _ 2, ← Nat.pow_succ', ← Nat.pow_add]
  obtain ⟨Y, hY⟩ : ∃ Y, T * 2 ^ t = Y := ⟨_, rfl⟩
  obtain ⟨A, hA⟩ : ∃ A, N * 2 ^ u = A := ⟨_, rfl⟩
  rw [hY, hA] at hd
  rw [hY] at b1 b2
  rw [hA] at a1 a2 hND
  obtain ⟨D, hD⟩ : ∃ D, A * 2 ^ 54 = D := ⟨_, rfl⟩
  rw [hD] at hd hND
  rw [pw54] at hD
  have hY0 : 0 < Y := by omega
  have q1 : 9007199254740992 ≤ D / Y := (Nat.le_div_iff_mul_le hY0).2 (by omega)
  have q2 : D / Y < 36028797018963968 := (Nat.div_lt_iff_lt_mul hY0).2 (by omega)
  have hdm := Nat.div_add_mod D Y
  have hr := Nat.mod_lt D hY0
  generalize D / Y = Q at *
  generalize D % Y = r at *
  obtain ⟨st, hst⟩ : ∃ st, (r != 0).toNat = st := ⟨_, rfl⟩
  rw [hst] at hd
  have hs1 : st ≤ 1 := by rw [← hst]; cases (r != 0) <;> decide
  obtain ⟨mag, hmag⟩ : ∃ mag, 2 * Q + st = mag := ⟨_, rfl⟩
  rw [hmag] at hd
  have g0 : mag ≠ 0 := by omega
  have g1 : 54 ≤ mag.log2 := (Nat.le_log2 g0).2 (by rw [pw54]; omega)
  have g2 : mag.log2 < 56 := (Nat.log2_lt g0).2 (by rw [pw56]; omega)
  obtain ⟨m, e, hq, e1, e2, n1, n2⟩ := near_round false mag P (P + 52 - mag.log2) (by omega) (by omega) (by omega) (by omega)
  refine ⟨_, m, e, hd, hq, by omega, by omega, ?_⟩
  have hM : mag * Y = 2 * (Y * Q) + st * Y := by rw [← hmag, Nat.add_mul, Nat.mul_assoc, Nat.mul_comm Q]
  have hgt : Y * 18014398509481984 ≤ mag * Y := by rw [Nat.mul_comm]; exact Nat.mul_le_mul_right _ (by omega)
  obtain ⟨s1, s2⟩ := stick (Y * Q) r Y (mag * Y) st hr hst.symm hM hgt
  rw [hdm, Nat.mul_comm 2, hND, ← hY, ← Nat.mul_assoc] at s1 s2
  have s1 : mag * T * 18014398509481983 ≤ N * 2 ^ P * 18014398509481984 := by
    refine Nat.le_of_mul_le_mul_right (c := 2 ^ t) ?_ (Nat.two_pow_pos t)
    rw [Nat.mul_right_comm, Nat.mul_right_comm (N * 2 ^ P)]
    exact s1
  have s2 : N * 2 ^ P * 18014398509481984 ≤ mag * T * 18014398509481985 := by
    refine Nat.le_of_mul_le_mul_right (c := 2 ^ t) ?_ (Nat.two_pow_pos t)
    rw [Nat.mul_right_comm, Nat.mul_right_comm (mag * T)]
    exact s2
  have S1 := Nat.mul_le_mul_right (2 ^ e) s1
  have S2 := Nat.mul_le_mul_right (2 ^ e) s2
  have N1 := Nat.mul_le_mul_right T n1
  have N2 := Nat.mul_le_mul_right T n2
  have hp := Nat.two_pow_pos P
  generalize 2 ^ P = p at *
  generalize 2 ^ e = w at *
  obtain ⟨AA, hAA⟩ : ∃ AA, m * T * p = AA := ⟨_, rfl⟩
  obtain ⟨BB, hBB⟩ : ∃ BB, mag * w * T = BB := ⟨_, rfl⟩
  obtain ⟨CC, hCC⟩ : ∃ CC, N * w * p = CC := ⟨_, rfl⟩
  have r1 : ∀ c, m * p * c * T = AA * c := fun c => by rw [← hAA]; simp only [Nat.mul_comm, Nat.mul_left_comm]
  have r2 : ∀ c, mag * w * c * T = BB * c := fun c => by rw [← hBB]; simp only [Nat.mul_comm, Nat.mul_left_comm]
  have r3 : ∀ c, mag * T * c * w = BB * c := fun c => by rw [← hBB]; simp only [Nat.mul_comm, Nat.mul_left_comm]
  have r4 : ∀ c, N * p * c * w = CC * c := fun c => by rw [← hCC]; simp only [Nat.mul_comm, Nat.mul_left_comm]
  rw [r1, r2] at N1 N2
  rw [r3, r4] at S1 S2
  obtain ⟨f1, f2⟩ := chain1 AA BB CC N1 N2 S1 S2
  rw [← hAA, ← hCC] at f1 f2
  exact ⟨Nat.le_of_mul_le_mul_right (c := p) (by rw [Nat.mul_right_comm, Nat.mul_right_comm (N * w)]; exact f1) hp,
    Nat.le_of_mul_le_mul_right (c := p) (by rw [Nat.mul_right_comm, Nat.mul_right_comm (m * T)]; exact f2) hp⟩
end Go.Proofs.YticahefindlmeaaGreatDoor.Nu
