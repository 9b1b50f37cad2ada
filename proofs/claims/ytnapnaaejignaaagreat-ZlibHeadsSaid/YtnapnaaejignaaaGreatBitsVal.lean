/-
  A number that was put as bits is read back. No program is in sight here.
-/
import Derived.Test.YtnapnaaejignaaaGreatPkB
namespace Go.Proofs.YtnapnaaejignaaaGreat.Bv
open Go.RowKit Bt

def valOf (hi : Bool) (f : Nat → Nat) : Nat → Nat
  | 0 => 0
  | n + 1 => if hi then 2 * valOf hi f n + f n else valOf hi f n + f n * 2 ^ n
theorem valOf_getv (s : ByteArray) (hi : Bool) (a : Nat) (f : Nat → Nat) : ∀ n, (∀ i, i < n → f i = bit s hi (a + i)) → valOf hi f n = getv s hi a n
  | 0, _ => rfl
  | n + 1, h => by
    unfold valOf getv
    rw [valOf_getv s hi a f n (fun i hi' => h i (by omega)), h n (by omega)]
theorem valOf_congr (hi : Bool) (f g : Nat → Nat) : ∀ n, (∀ i, i < n → f i = g i) → valOf hi f n = valOf hi g n
  | 0, _ => rfl
  | n + 1, h => by unfold valOf; rw [valOf_congr hi f g n (fun i hi' => h i (by omega)), h n (by omega)]
theorem valOf_zero (hi : Bool) : ∀ n, valOf hi (fun _ => 0) n = 0
  | 0 => rfl
  | n + 1 => by unfold valOf; rw [valOf_zero hi n]; simp
theorem valOf_lo (v : Nat) : ∀ m, valOf false (fun i => v / 2 ^ i % 2) m = v % 2 ^ m
  | 0 => by simp [valOf, Nat.mod_one]
  | m + 1 => by
    unfold valOf
    rw [valOf_lo v m, Nat.pow_succ, Nat.mod_mul, Nat.mul_comm (2 ^ m)]
    simp
theorem valOf_hi (v n : Nat) (hv : v < 2 ^ n) : ∀ m, m ≤ n → valOf true (fun i => v / 2 ^ (n - 1 - i) % 2) m = v / 2 ^ (n - m)
  | 0, _ => by simp [valOf, Nat.div_eq_of_lt hv]
  | m + 1, h => by
    unfold valOf
    rw [valOf_hi v n hv m (by omega), show n - m = (n - (m + 1)) + 1 by omega, Nat.pow_succ, ← Nat.div_div_eq_div_mul, show n - 1 - m = n - (m + 1) by omega]
    simp
    omega
theorem bitsOf_getD (hi : Bool) (v n i : Nat) (h : i < n) : (bitsOf hi v n).getD i 0 = if hi then v / 2 ^ (n - 1 - i) % 2 else v / 2 ^ i % 2 := by
  simp [bitsOf, List.getD_eq_getElem?_getD, h]
theorem valOf_bitsOf (hi : Bool) (v n : Nat) (hv : v < 2 ^ n) : valOf hi (fun i => (bitsOf hi v n).getD i 0) n = v := by
  cases hi
  · rw [valOf_congr false _ (fun i => v / 2 ^ i % 2) n (fun i h => by rw [bitsOf_getD _ _ _ _ h]; simp), valOf_lo, Nat.mod_eq_of_lt hv]
  · rw [valOf_congr true _ (fun i => v / 2 ^ (n - 1 - i) % 2) n (fun i h => by rw [bitsOf_getD _ _ _ _ h]; simp), valOf_hi v n hv n (Nat.le_refl _), Nat.sub_self]
    simp

/-- a number that was put is read back -/
theorem getv_put (hi : Bool) (L A R : List Nat) (v n : Nat) (hB : Bin L) (hv : v < 2 ^ n) (h : L = A ++ bitsOf hi v n ++ R) : getv (txt (packB hi L)) hi A.length n = v := by
  have hl : L.length = A.length + n + R.length := by rw [h]; simp [bitsOf_length]; omega
  rw [← valOf_getv _ hi A.length (fun i => (bitsOf hi v n).getD i 0) n (fun i hin => ?_)]
  · exact valOf_bitsOf hi v n hv
  · rw [bit_txt hi L hB _ (by omega), h]
    rw [List.append_assoc, List.getD_eq_getElem?_getD, List.getD_eq_getElem?_getD, List.getElem?_append_right (by omega), Nat.add_sub_cancel_left, List.getElem?_append_left (by rw [bitsOf_length]; omega)]
/-- the bits behind are noughts -/
theorem getv_behind (hi : Bool) (L : List Nat) (n : Nat) (hB : Bin L) (hn : L.length + n = 8 * ((L.length + 7) / 8)) : getv (txt (packB hi L)) hi L.length n = 0 := by
  rw [← valOf_getv _ hi L.length (fun _ => 0) n (fun i hin => ?_)]
  · exact valOf_zero hi n
  · rw [bit_txt hi L hB _ (by omega), List.getD_eq_getElem?_getD, List.getElem?_eq_none (by omega)]
    rfl

end Go.Proofs.YtnapnaaejignaaaGreat.Bv
