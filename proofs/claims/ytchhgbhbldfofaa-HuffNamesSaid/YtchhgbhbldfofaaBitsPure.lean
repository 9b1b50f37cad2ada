/-
  Bits of a text, as plain functions on numbers; what 'and', 'or' come to on them. No program is in sight here.
-/
import Derived.Test.YtchhgbhbldfofaaBase
namespace Go.Proofs.Ytchhgbhbldfofaa.Bt
open Go.RowKit

def byteAt (s : ByteArray) (i : Nat) : Nat := (s.data.toList.getD i 0).toNat
def bitOf (hi : Bool) (x j : Nat) : Nat := if hi then x / 2 ^ (7 - j) % 2 else x / 2 ^ j % 2
def bit (s : ByteArray) (hi : Bool) (p : Nat) : Nat := bitOf hi (byteAt s (p / 8)) (p % 8)
def getv (s : ByteArray) (hi : Bool) (at_ : Nat) : Nat → Nat
  | 0 => 0
  | n + 1 => if hi then 2 * getv s hi at_ n + bit s hi (at_ + n) else getv s hi at_ n + bit s hi (at_ + n) * 2 ^ n

theorem byteAt_eq (s : ByteArray) (i : Nat) (h : i < s.size) : (s[i]'h).toNat = byteAt s i := by
  unfold byteAt
  rw [List.getD_eq_getElem?_getD, List.getElem?_eq_getElem (by simpa using h)]
  rfl
theorem byteAt_lt (s : ByteArray) (i : Nat) : byteAt s i < 256 := by
  unfold byteAt; exact UInt8.toNat_lt _
theorem bitOf_le (hi : Bool) (x j : Nat) : bitOf hi x j ≤ 1 := by
  unfold bitOf; split <;> omega
theorem bit_le (s : ByteArray) (hi : Bool) (p : Nat) : bit s hi p ≤ 1 := bitOf_le _ _ _
theorem getv_lt (s : ByteArray) (hi : Bool) (at_ : Nat) : ∀ n, getv s hi at_ n < 2 ^ n
  | 0 => by simp [getv]
  | n + 1 => by
    have ih := getv_lt s hi at_ n
    have hb := bit_le s hi (at_ + n)
    unfold getv
    have h2 : 2 ^ (n + 1) = 2 * 2 ^ n := by rw [Nat.pow_succ]; omega
    split
    · omega
    · have : bit s hi (at_ + n) * 2 ^ n ≤ 1 * 2 ^ n := Nat.mul_le_mul_right _ hb
      omega

theorem and_one (x : Nat) (h : x < 2 ^ 64) : bits BinOp.and IntKind.u64 (x : Int) 1 = ((x % 2 : Nat) : Int) := by
  have h1 := bits_and_u64_nat x 1 (by omega) (by omega)
  rw [Nat.and_one_is_mod] at h1
  exact h1
theorem or_dbl (v b : Nat) (hv : 2 * v < 2 ^ 64) (hb : b ≤ 1) : bits BinOp.or IntKind.u64 ((2 * v : Nat) : Int) (b : Int) = ((2 * v + b : Nat) : Int) := by
  have h1 := bits_or_u64_nat (2 * v) b (by omega) (by omega)
  have h2 : 2 * v ||| b = 2 * v + b := by
    have := Nat.two_pow_add_eq_or_of_lt (i := 1) (b := b) (by omega) v
    simpa using this.symm
  rw [h2] at h1; exact h1
theorem or_shl (v b n : Nat) (hn : n < 32) (hv : v < 2 ^ n) (hb : b ≤ 1) : bits BinOp.or IntKind.u64 (v : Int) ((b * 2 ^ n : Nat) : Int) = ((v + b * 2 ^ n : Nat) : Int) := by
  have hp : 2 ^ n ≤ 2 ^ 31 := Nat.pow_le_pow_right (by omega) (by omega)
  have hbp : b * 2 ^ n ≤ 2 ^ 31 := by have := Nat.mul_le_mul hb hp; omega
  have h1 := bits_or_u64_nat v (b * 2 ^ n) (by omega) (by omega)
  have h2 : v ||| b * 2 ^ n = v + b * 2 ^ n := by
    have := Nat.two_pow_add_eq_or_of_lt hv b
    rw [Nat.or_comm, Nat.mul_comm b, ← this]; omega
  rw [h2] at h1; exact h1
/-- how many bits are ahead of the next byte -/
def gap (n : Nat) : Nat := (8 - n % 8) % 8
theorem gap_lt (n : Nat) : gap n < 8 := by unfold gap; omega
theorem neg_and (n : Nat) : bits BinOp.and IntKind.i64 (-(n : Int)) 7 = ((gap n : Nat) : Int) := by
  have h7 : (BitVec.ofInt 64 7).toNat = 7 := by decide
  have hx : (BitVec.ofInt 64 (-(n : Int))).toNat % 8 = gap n := by
    rw [BitVec.toNat_ofInt]
    unfold gap
    omega
  have h8 : (BitVec.ofInt 64 (-(n : Int)) &&& BitVec.ofInt 64 7).toNat = gap n := by
    rw [BitVec.toNat_and, h7, ← hx]
    exact Nat.and_two_pow_sub_one_eq_mod _ 3
  have hg := gap_lt n
  show IntKind.i64.wrap ((BitVec.ofInt 64 (-(n : Int)) &&& BitVec.ofInt 64 7).toNat : Int) = _
  rw [h8, IntKind.wrap_i64]
  omega

theorem bit_hi (s : ByteArray) (p : Nat) (h : p / 8 < s.size) : bits BinOp.and IntKind.u64 (((s[p / 8]'h).toNat : Int) / 2 ^ (7 - p % 8)) 1 = ((bit s true p : Nat) : Int) := by
  have h1 := and_one ((s[p / 8]'h).toNat / 2 ^ (7 - p % 8)) (Nat.lt_of_le_of_lt (Nat.div_le_self _ _) (by have := (s[p / 8]'h).toNat_lt; omega))
  have h2 : ((((s[p / 8]'h).toNat / 2 ^ (7 - p % 8) : Nat)) : Int) = ((s[p / 8]'h).toNat : Int) / 2 ^ (7 - p % 8) := by push_cast; rfl
  rw [h2] at h1
  rw [h1, byteAt_eq]
  simp [bit, bitOf]
theorem bit_lo (s : ByteArray) (p : Nat) (h : p / 8 < s.size) : bits BinOp.and IntKind.u64 (((s[p / 8]'h).toNat : Int) / 2 ^ (p % 8)) 1 = ((bit s false p : Nat) : Int) := by
  have h1 := and_one ((s[p / 8]'h).toNat / 2 ^ (p % 8)) (Nat.lt_of_le_of_lt (Nat.div_le_self _ _) (by have := (s[p / 8]'h).toNat_lt; omega))
  have h2 : ((((s[p / 8]'h).toNat / 2 ^ (p % 8) : Nat)) : Int) = ((s[p / 8]'h).toNat : Int) / 2 ^ (p % 8) := by push_cast; rfl
  rw [h2] at h1
  rw [h1, byteAt_eq]
  simp [bit, bitOf]
end Go.Proofs.Ytchhgbhbldfofaa.Bt
