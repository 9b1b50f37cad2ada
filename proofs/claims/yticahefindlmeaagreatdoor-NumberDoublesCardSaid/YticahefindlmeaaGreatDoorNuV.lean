/-
  doubles, plain: a quotient by a power of ten, multiplied back, is next to the number it came from.
-/
import Derived.Test.YticahefindlmeaaGreatDoorNuU
namespace Go.Proofs.YticahefindlmeaaGreatDoor.Nu
open Go.RowKit

theorem chain1 (A B C : Nat) (h1 : A * 9007199254740992 ≤ B * 9007199254740993) (h2 : B * 9007199254740991 ≤ A * 9007199254740992) (h3 : B * 18014398509481983 ≤ C * 18014398509481984) (h4 : C * 18014398509481984 ≤ B * 18014398509481985) :
    A * 4503599627370496 ≤ C * 4503599627370497 ∧ C * 4503599627370495 ≤ A * 4503599627370496 := by omega
theorem chain2 (A B C : Nat) (h1 : A * 9007199254740992 ≤ B * 9007199254740993) (h2 : B * 9007199254740991 ≤ A * 9007199254740992) (h3 : B * 4503599627370496 ≤ C * 4503599627370497) (h4 : C * 4503599627370495 ≤ B * 4503599627370496) :
    A * 1125899906842624 ≤ C * 1125899906842625 ∧ C * 1125899906842623 ≤ A * 1125899906842624 := by omega
theorem chain3 (m n W : Nat) (h1 : m * 1125899906842624 ≤ n * W * 1125899906842625) (h2 : n * W * 1125899906842623 ≤ m * 1125899906842624) (hn : n ≤ 1000000000) :
    4 * m ≤ 4 * (n * W) + W ∧ 4 * (n * W) ≤ 4 * m + W := by
  have := Nat.mul_le_mul_right W hn
  generalize n * W = nW at *
  omega
theorem log52 {m : Nat} (h1 : 4503599627370496 ≤ m) (h2 : m < 9007199254740992) : m.log2 = 52 := by
  have h0 : m ≠ 0 := by omega
  have a := (Nat.log2_lt h0 (k := 53)).2 (by rw [pw53]; exact h2)
  have b := (Nat.le_log2 h0 (k := 52)).2 (by rw [pw52]; exact h1)
  omega
theorem int_fn (N : Nat) (h0 : N ≠ 0) (hN : N < 4503599627370496) : Fn (floatOfInt .f64 (N : Int)) false (N * 2 ^ (52 - N.log2)) (52 - N.log2) := by
  have hl : N.log2 ≤ 52 := by
    have a := (Nat.log2_lt h0 (k := 52)).2 (by rw [pw52]; exact hN)
    omega
  have h := near_exact false N 0 (52 - N.log2) h0 hl (by omega) (by omega)
  have e : floatOfInt .f64 (N : Int) = F64.nearest false N (-((0 : Nat) : Int)) := by
    show F64.nearest (decide ((N : Int) < 0)) (N : Int).natAbs 0 = _
    rw [decide_eq_false (by omega)]
    rfl
  rw [e]
  exact h
theorem ten_int : ∀ k, k < 7 → tenW.getD k 0 = F64.nearest false (10 ^ k) (-((0 : Nat) : Int)) := by decide +kernel
theorem ten_log : ∀ k, k < 7 → (10 ^ k).log2 ≤ 19 := by decide +kernel
theorem ten_fn (k : Nat) (hk : k < 7) : ∃ t, 33 ≤ t ∧ t ≤ 52 ∧ Fn (tenW.getD k 0) false (10 ^ k * 2 ^ t) t := by
  have h1 := ten_log k hk
  refine ⟨52 - (10 ^ k).log2, by omega, by omega, ?_⟩
  rw [ten_int k hk]
  exact near_exact false (10 ^ k) 0 _ (Nat.ne_of_gt (Nat.pow_pos (by decide))) (by omega) (by omega) (by omega)
theorem mul_is {x y : Nat} {s : Bool} {m e n t : Nat} (hx : Fn x s m e) (hy : Fn y false n t) :
    F64.mul x y = some (F64.nearest s (m * n) (-((e + t : Nat) : Int))) := by
  unfold Ieee.Format.mul
  rw [read_fn hx, read_fn hy]
  show some (F64.nearest (s ^^ false) (m * n) (-(e : Int) + -(t : Int))) = _
  rw [Bool.xor_false]
  congr 2
  omega
theorem div_is {x y : Nat} {m e n t P : Nat} (hx : Fn x false m e) (hy : Fn y false n t) (hP : P + t = e + 55) :
    F64.div x y = some (F64.nearest false (2 * (m * 2 ^ 54 / n) + (m * 2 ^ 54 % n != 0).toNat) (-(P : Int))) := by
  unfold Ieee.Format.div
  rw [read_fn hx, read_fn hy]
  have h1 := log52 hx.low hx.high
  have h2 := log52 hy.low hy.high
  have h3 := hy.low
  unfold Ieee.Datum.quotient
  simp only [h1, h2, f_frac, Nat.shiftLeft_eq]
  rw [if_neg (by omega)]
  show some (F64.nearest (false ^^ false) (2 * (m * 2 ^ 54 / n) + (m * 2 ^ 54 % n != 0).toNat) (-(e : Int) - -(t : Int) - ((54 : Nat) : Int) - 1)) = _
  congr 2
  omega
end Go.Proofs.YticahefindlmeaaGreatDoor.Nu
