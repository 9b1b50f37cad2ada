/-
  doubles, plain: all that Of asks of the double next to a real of few digits.
-/
import Derived.Test.YticahefindlmeaaGreatDoorNuY
namespace Go.Proofs.YticahefindlmeaaGreatDoor.Nu
open Go.RowKit

theorem cut_zero_way (s : Bool) (n d : Nat) (hd : d ≤ n.log2 + 2) : Ieee.Toward.zero.cut s n d = n / 2 ^ d := by
  unfold Ieee.Toward.cut
  simp only [Nat.min_eq_left hd, Nat.one_shiftLeft, Bool.toNat_false, Nat.add_zero]
theorem to_int {s : Bool} {n : Nat} (h0 : n ≠ 0) (hn : n ≤ 1000000000) : floatToIntVal .f64 (F64.nearest s n 0) .i64 = some (if s then -(n : Int) else (n : Int)) := by
  have hl : n.log2 < 30 := (Nat.log2_lt h0).2 (Nat.lt_of_le_of_lt hn (by decide))
  have h := near_exact s n 0 (52 - n.log2) h0 (by omega) (by omega) (by omega)
  have hr := read_fn h
  have hlog := log52 h.low h.high
  unfold floatToIntVal
  have e : FloatKind.f64.decode (F64.nearest s n 0) = .number s (n * 2 ^ (52 - n.log2)) (-((52 - n.log2 : Nat) : Int)) := hr
  rw [e]
  have e2 : (Ieee.Datum.number s (n * 2 ^ (52 - n.log2)) (-((52 - n.log2 : Nat) : Int))).toInt .zero = some (if s then -(n : Int) else (n : Int)) := by
    show some (Ieee.signed s (Ieee.Toward.zero.cut s ((n * 2 ^ (52 - n.log2)) <<< (-((52 - n.log2 : Nat) : Int)).toNat) (-(-((52 - n.log2 : Nat) : Int))).toNat) 0) = _
    have a1 : (-((52 - n.log2 : Nat) : Int)).toNat = 0 := by omega
    have a2 : (-(-((52 - n.log2 : Nat) : Int))).toNat = 52 - n.log2 := by omega
    rw [a1, a2, Nat.shiftLeft_zero, cut_zero_way _ _ _ (by omega), Nat.mul_div_cancel _ (Nat.two_pow_pos _)]
    unfold Ieee.signed
    rw [Nat.shiftLeft_zero]
  rw [e2]
  show (if IntKind.i64.min ≤ _ ∧ _ ≤ IntKind.i64.max then _ else _) = _
  have m1 : IntKind.i64.min = -9223372036854775808 := by kernel_rfl
  have m2 : IntKind.i64.max = 9223372036854775807 := by kernel_rfl
  rw [m1, m2, if_pos]
  cases s <;> simp <;> omega
theorem dbl (N k z : Nat) (hN : N ≠ 0) (hn : N * 10 ^ z ≤ 1000000000) (hpl : k + z ≤ 6) :
    ∃ q m e, F64.div (floatOfInt .f64 (N : Int)) (tenW.getD k 0) = some q ∧ Fn q false m e ∧ ∀ (s : Bool) (x : Nat), Fn x s m e → OfOk x (k + z) (if s then -((N * 10 ^ z : Nat) : Int) else ((N * 10 ^ z : Nat) : Int)) := by
  have hz1 : 1 ≤ 10 ^ z := Nat.one_le_pow _ _ (by decide)
  have hN9 : N ≤ 1000000000 := Nat.le_trans (Nat.le_mul_of_pos_right _ hz1) hn
  have hl : N.log2 < 30 := (Nat.log2_lt hN).2 (Nat.lt_of_le_of_lt hN9 (by decide))
  have hx := int_fn N hN (by omega)
  obtain ⟨t, _, t2, hy⟩ := ten_fn k (by omega)
  obtain ⟨q, m, e, hq, hf, he, he2, f1, f2⟩ := quo_fn hx hy (by omega) (by omega) t2
  refine ⟨q, m, e, hq, hf, fun s x hX => ?_⟩
  obtain ⟨t', u1, u2, hy'⟩ := ten_fn (k + z) (by omega)
  rw [Nat.pow_add] at hy'
  obtain ⟨r, p, g, hr, hp, p1, p2⟩ := mul_fn hX hy' he he2 u1 u2 f1 f2 rfl hn
  have hn0 : N * 10 ^ z ≠ 0 := Nat.mul_ne_zero hN (by omega)
  generalize N * 10 ^ z = n at *
  refine ⟨by omega, by rw [ord_self hX]; rfl, abs_fn hX, ord_lo hX he, ord_hi hX he, ⟨r, F64.nearest s n 0, s, p, -(g : Int), hr, read_fn hp, ?_, to_int hn0 hn⟩, ?_⟩
  · rw [whole hp.high hp.low p1 p2 hn0]
    rfl
  · cases s <;> simp <;> omega
end Go.Proofs.YticahefindlmeaaGreatDoor.Nu
