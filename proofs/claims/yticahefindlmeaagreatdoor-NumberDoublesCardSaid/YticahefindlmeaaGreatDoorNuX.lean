/-
  doubles, plain: the product and the whole number that is nearest to it.
-/
import Derived.Test.YticahefindlmeaaGreatDoorNuW
namespace Go.Proofs.YticahefindlmeaaGreatDoor.Nu
open Go.RowKit

theorem mul_fn {x y : Nat} {s : Bool} {m e t T Z N n : Nat} (hx : Fn x s m e) (hy : Fn y false (T * Z * 2 ^ t) t) (he : 22 ≤ e) (he2 : e ≤ 200) (ht : 33 ≤ t) (ht2 : t ≤ 52)
    (f1 : m * T * 4503599627370496 ≤ N * 2 ^ e * 4503599627370497) (f2 : N * 2 ^ e * 4503599627370495 ≤ m * T * 4503599627370496) (hn : N * Z = n) (hn9 : n ≤ 1000000000) :
    ∃ r p g, F64.mul x y = some r ∧ Fn r s p g ∧ 4 * p ≤ 4 * (n * 2 ^ g) + 2 ^ g ∧ 4 * (n * 2 ^ g) ≤ 4 * p + 2 ^ g := by
  have hmul := mul_is hx hy
  have a1 := hx.low
  have a2 := hx.high
  have b1 := hy.low
  have b2 := hy.high
  have hE : (2 : Nat) ^ (e + t) = 2 ^ e * 2 ^ t := Nat.pow_add ..
  have m1 : 4503599627370496 * 4503599627370496 ≤ m * (T * Z * 2 ^ t) := Nat.mul_le_mul a1 b1
  have m2 : m * (T * Z * 2 ^ t) < 9007199254740992 * 9007199254740992 := Nat.mul_lt_mul'' a2 b2
  have hmg : m * (T * Z * 2 ^ t) = m * T * Z * 2 ^ t := by simp only [Nat.mul_assoc]
  obtain ⟨mag, hmag⟩ : ∃ mag, m * (T * Z * 2 ^ t) = mag := ⟨_, rfl⟩
  rw [hmag] at hmul m1 m2 hmg
  have g0 : mag ≠ 0 := by omega
  have g1 : 104 ≤ mag.log2 := (Nat.le_log2 g0).2 (by rw [show (2 : Nat) ^ 104 = 4503599627370496 * 4503599627370496 by decide]; exact m1)
  have g2 : mag.log2 < 106 := (Nat.log2_lt g0).2 (by rw [show (2 : Nat) ^ 106 = 9007199254740992 * 9007199254740992 by decide]; exact m2)
  obtain ⟨p, g, hq, e1, e2, n1, n2⟩ := near_round s mag (e + t) (e + t + 52 - mag.log2) (by omega) (by omega) (by omega) (by omega)
  refine ⟨_, p, g, hmul, hq, ?_⟩
  clear hmul hq hx hy a1 a2 b1 b2 m1 m2 g0 g1 g2 e1 e2 he he2 ht ht2 hmag
  rw [hmg, hE] at n1 n2
  have hp := Nat.two_pow_pos e
  have hpt := Nat.two_pow_pos t
  clear hmg hE
  generalize 2 ^ t = D at *
  generalize 2 ^ e = E at *
  generalize 2 ^ g = W at *
  obtain ⟨AA, hAA⟩ : ∃ AA, p * E = AA := ⟨_, rfl⟩
  obtain ⟨BB, hBB⟩ : ∃ BB, m * T * Z * W = BB := ⟨_, rfl⟩
  obtain ⟨CC, hCC⟩ : ∃ CC, n * W * E = CC := ⟨_, rfl⟩
  have r1 : ∀ c, p * (E * D) * c = AA * c * D := fun c => by rw [← hAA]; simp only [Nat.mul_comm, Nat.mul_left_comm]
  have r2 : ∀ c, m * T * Z * D * W * c = BB * c * D := fun c => by rw [← hBB]; simp only [Nat.mul_comm, Nat.mul_left_comm]
  rw [r1, r2] at n1 n2
  have n1 := Nat.le_of_mul_le_mul_right n1 hpt
  have n2 := Nat.le_of_mul_le_mul_right n2 hpt
  have S1 := Nat.mul_le_mul_right (Z * W) f1
  have S2 := Nat.mul_le_mul_right (Z * W) f2
  have r3 : ∀ c, m * T * c * (Z * W) = BB * c := fun c => by rw [← hBB]; simp only [Nat.mul_comm, Nat.mul_left_comm]
  have r4 : ∀ c, N * E * c * (Z * W) = CC * c := fun c => by rw [← hCC, ← hn]; simp only [Nat.mul_comm, Nat.mul_left_comm]
  rw [r3, r4] at S1 S2
  obtain ⟨k1, k2⟩ := chain2 AA BB CC n1 n2 S1 S2
  rw [← hAA, ← hCC] at k1 k2
  refine chain3 p n W ?_ ?_ hn9
  · exact Nat.le_of_mul_le_mul_right (c := E) (by rw [Nat.mul_right_comm, Nat.mul_right_comm (n * W)]; exact k1) hp
  · exact Nat.le_of_mul_le_mul_right (c := E) (by rw [Nat.mul_right_comm, Nat.mul_right_comm p]; exact k2) hp
theorem whole {s : Bool} {m e n : Nat} (hm : m < 9007199254740992) (hm1 : 4503599627370496 ≤ m) (h1 : 4 * m ≤ 4 * (n * 2 ^ e) + 2 ^ e) (h2 : 4 * (n * 2 ^ e) ≤ 4 * m + 2 ^ e) (hn : n ≠ 0) :
    (Ieee.Datum.number s m (-(e : Int))).integral .even = .number s n 0 := by
  have hl := log52 hm1 hm
  have hN : 2 ^ e ≤ n * 2 ^ e := Nat.le_mul_of_pos_left _ (by omega)
  have he : e ≤ 54 := by
    refine Nat.le_of_not_lt fun hc => ?_
    have : 2 ^ 55 ≤ 2 ^ e := Nat.pow_le_pow_right (by decide) hc
    rw [pw55] at this
    omega
  obtain ⟨k, hk, k1, k2⟩ := cut_even s m e (by omega)
  show Ieee.Datum.number s (Ieee.Toward.even.cut s (m <<< (-(e : Int)).toNat) (-(-(e : Int))).toNat) 0 = _
  have a1 : (-(e : Int)).toNat = 0 := by omega
  have a2 : (-(-(e : Int))).toNat = e := by omega
  rw [a1, a2, Nat.shiftLeft_zero, hk]
  have hkn : k = n := by
    have hp := Nat.two_pow_pos e
    generalize 2 ^ e = G at *
    refine Nat.le_antisymm (Nat.le_of_not_lt fun hc => ?_) (Nat.le_of_not_lt fun hc => ?_)
    · have := Nat.mul_le_mul_right G (Nat.succ_le_of_lt hc)
      rw [Nat.succ_mul] at this
      omega
    · have := Nat.mul_le_mul_right G (Nat.succ_le_of_lt hc)
      rw [Nat.succ_mul] at this
      omega
  rw [hkn]
end Go.Proofs.YticahefindlmeaaGreatDoor.Nu
