/-
  The walk of BitsBytes: bytes that are put as numbers of eight bits are those bytes, from either end; so they are read.
-/
import Derived.Test.YtcbllkopolbhaaaBitsLives
namespace Go.Proofs.Ytcbllkopolbhaaa.Bt
open Go.RowKit

def allBits (s : ByteArray) (hi : Bool) (n : Nat) : List Nat := (List.range n).map (bit s hi)
theorem allBits_length (s : ByteArray) (hi : Bool) (n : Nat) : (allBits s hi n).length = n := by simp [allBits]
theorem allBits_bin (s : ByteArray) (hi : Bool) (n : Nat) : Bin (allBits s hi n) := fun x hx => by
  obtain ⟨i, _, rfl⟩ := List.mem_map.1 hx
  exact bit_le _ _ _
theorem allBits_getD (s : ByteArray) (hi : Bool) (n i : Nat) (h : i < n) : (allBits s hi n).getD i 0 = bit s hi i := by
  simp [allBits, List.getD_eq_getElem?_getD, h]
theorem bit_at (s : ByteArray) (hi : Bool) (k i : Nat) (h : i < 8) : bit s hi (8 * k + i) = bitOf hi (byteAt s k) i := by
  unfold bit; rw [show (8 * k + i) / 8 = k by omega, show (8 * k + i) % 8 = i by omega]
theorem allBits_byte (s : ByteArray) (hi : Bool) (k : Nat) : allBits s hi (8 * (k + 1)) = allBits s hi (8 * k) ++ bitsOf hi (byteAt s k) 8 := by
  have e : 8 * (k + 1) = 8 * k + 8 := by omega
  unfold allBits bitsOf
  rw [e, List.range_add, List.map_append, List.map_map]
  congr 1
  refine List.map_congr_left fun i hi' => ?_
  have hi8 : i < 8 := List.mem_range.1 hi'
  show bit s hi (8 * k + i) = _
  rw [bit_at _ _ _ _ hi8]
  unfold bitOf
  rfl
theorem getv_byte (s : ByteArray) (hi : Bool) (k : Nat) : getv s hi (8 * k) 8 = byteAt s k := by
  have hx := byteAt_lt s k
  have b0 := bit_at s hi k 0 (by omega); have b1 := bit_at s hi k 1 (by omega); have b2 := bit_at s hi k 2 (by omega); have b3 := bit_at s hi k 3 (by omega)
  have b4 := bit_at s hi k 4 (by omega); have b5 := bit_at s hi k 5 (by omega); have b6 := bit_at s hi k 6 (by omega); have b7 := bit_at s hi k 7 (by omega)
  simp only [getv, b0, b1, b2, b3, b4, b5, b6, b7]
  generalize byteAt s k = x at *
  clear b0 b1 b2 b3 b4 b5 b6 b7
  cases hi <;> simp [bitOf] <;> omega
theorem byteOf_all (s : ByteArray) (hi : Bool) (n j : Nat) (h : j < n) : byteOf hi (allBits s hi (8 * n)) j = byteAt s j := by
  have hx := byteAt_lt s j
  have b0 := bit_at s hi j 0 (by omega); have b1 := bit_at s hi j 1 (by omega); have b2 := bit_at s hi j 2 (by omega); have b3 := bit_at s hi j 3 (by omega)
  have b4 := bit_at s hi j 4 (by omega); have b5 := bit_at s hi j 5 (by omega); have b6 := bit_at s hi j 6 (by omega); have b7 := bit_at s hi j 7 (by omega)
  unfold byteOf
  rw [allBits_getD _ _ _ _ (by omega), allBits_getD _ _ _ _ (by omega), allBits_getD _ _ _ _ (by omega), allBits_getD _ _ _ _ (by omega), allBits_getD _ _ _ _ (by omega), allBits_getD _ _ _ _ (by omega), allBits_getD _ _ _ _ (by omega), allBits_getD _ _ _ _ (by omega)]
  rw [Nat.add_zero] at b0
  rw [b0, b1, b2, b3, b4, b5, b6, b7]
  generalize byteAt s j = x at *
  clear b0 b1 b2 b3 b4 b5 b6 b7
  cases hi <;> simp [bitOf, wt] <;> omega
theorem txt_all (s : ByteArray) (hi : Bool) : txt (packB hi (allBits s hi (8 * s.size))) = s := by
  have e : packB hi (allBits s hi (8 * s.size)) = (List.range s.size).map (byteAt s) := by
    unfold packB
    rw [allBits_length, show (8 * s.size + 7) / 8 = s.size by omega]
    exact List.map_congr_left fun j hj => byteOf_all s hi s.size j (List.mem_range.1 hj)
  rw [e]
  have e2 : ((List.range s.size).map (byteAt s)).map UInt8.ofNat = s.data.toList := by
    apply List.ext_getElem?
    intro i
    rw [List.map_map, List.getElem?_map]
    rcases Nat.lt_or_ge i s.size with h | h
    · rw [List.getElem?_range h, List.getElem?_eq_getElem (by simpa using h)]
      simp only [Option.map_some, Function.comp_apply, byteAt]
      rw [List.getD_eq_getElem?_getD, List.getElem?_eq_getElem (by simpa using h)]
      simp
    · rw [List.getElem?_eq_none (by simpa using h), List.getElem?_eq_none (by simpa using h)]
      rfl
  unfold txt
  rw [e2]

end Go.Proofs.Ytcbllkopolbhaaa.Bt
