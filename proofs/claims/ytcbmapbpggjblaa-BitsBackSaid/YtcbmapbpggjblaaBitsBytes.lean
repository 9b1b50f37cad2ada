/-
  The walk of BitsBytes: bytes that are put as numbers of eight bits are those bytes, from either end; so they are read.
-/
import Derived.Test.YtcbmapbpggjblaaBitsLives
namespace Go.Proofs.Ytcbmapbpggjblaa.Bt
open Go.RowKit

def allBits (s : ByteArray) (hi : Bool) (n : Nat) : List Nat := (List.range n).map (bit s hi)
theorem allBits_length (s : ByteArray) (hi : Bool) (n : Nat) : (allBits s hi n).length = n := by simp [allBits]
theorem allBits_bin (s : ByteArray) (hi : Bool) (n : Nat) : Bin (allBits s hi n) := fun x hx => by
  obtain ⟨i, _, rfl⟩ := List.mem_map.1 hx
  exact bit_le _ _ _
theorem allBits_getD (s : ByteArray) (hi : Bool) (n i : Nat) (h : i < n) : (allBits s hi n).getD i 0 = bit s hi i := by
  simp [allBits, List.getD_eq_getElem?_getD, h]
theorem bit_at (s : ByteArray) (hi : Bool) (k i : Nat) (h : i < 8) : bit s hi (8 * k + i) = bitOf hi (byteAt s k) i := by
  unfold bit; rw [show (8 * k + i) / 8 = k by omega, show (8 * k + i) % 8 = i by omega]
theorem allBits_byte (s : ByteArray) (hi : Bool) (k : Nat) : allBits s hi (8 * (k + 1)) = allBits s hi (8 * k) ++ bitsOf hi (byteAt s k) 8 := by
  have e : 8 * (k + 1) = 8 * k + 8 := by omega
  unfold allBits bitsOf
  rw [e, List.range_add, List.map_append, List.map_map]
  congr 1
  refine List.map_congr_left fun i hi' => ?_
  have hi8 : i < 8 := List.mem_range.1 hi'
  show bit s hi (8 * k + i) = _
  rw [bit_at _ _ _ _ hi8]
  unfold bitOf
  rfl
theorem getv_byte (s : ByteArray) (hi : Bool) (k : Nat) : getv s hi (8 * k) 8 = byteAt s k := by
  have hx := byteAt_lt s k
  have b0 := bit_at s hi k 0 (by omega); have b1 := bit_at s hi k 1 (by omega); have b2 := bit_at s hi k 2 (by omega); have b3 := bit_at s hi k 3 (by omega)
  have b4 := bit_at s hi k 4 (by omega); have b5 := bit_at s hi k 5 (by omega); have b6 := bit_at s hi k 6 (by omega); have b7 := bit_at s hi k 7 (by omega)
  simp only [getv, b0, b1, b2, b3, b4, b5, b6, b7]
  generalize byteAt s k = x at *
  clear b0 b1 b2 b3 b4 b5 b6 b7
  cases hi <;> simp [bitOf] <;> omega
theorem byteOf_all (s : ByteArray) (hi : Bool) (n j : Nat) (h : j < n) : byteOf hi (allBits s hi (8 * n)) j = byteAt s j := by
  have hx := byteAt_lt s j
  have b0 := bit_at s hi j 0 (by omega); have b1 := bit_at s hi j 1 (by omega); have b2 := bit_at s hi j 2 (by omega); have b3 := bit_at s hi j 3 (by omega)
  have b4 := bit_at s hi j 4 (by omega); have b5 := bit_at s hi j 5 (by omega); have b6 := bit_at s hi j 6 (by omega); have b7 := bit_at s hi j 7 (by omega)
  unfold byteOf
  rw [allBits_getD _ _ _ _ (by omega), allBits_getD _ _ _ _ (by omega), allBits_getD _ _ _ _ (by omega), allBits_getD _ _ _ _ (by omega), allBits_getD _ _ _ _ (by omega), allBits_getD _ _ _ _ (by omega), allBits_getD _ _ _ _ (by omega), allBits_getD _ _ _ _ (by omega)]
  rw [Nat.add_zero] at b0
  rw [b0, b1, b2, b3, b4, b5, b6, b7]
  generalize byteAt s j = x at *
  clear b0 b1 b2 b3 b4 b5 b6 b7
  cases hi <;> simp [bitOf, wt] <;> omega
theorem txt_all (s : ByteArray) (hi : Bool) : txt (packB hi (allBits s hi (8 * s.size))) = s := by
  have e : packB hi (allBits s hi (8 * s.size)) = (List.range s.size).map (byteAt s) := by
    unfold packB
    rw [allBits_length, show (8 * s.size + 7) / 8 = s.size by omega]
    exact List.map_congr_left fun j hj => byteOf_all s hi s.size j (List.mem_range.1 hj)
  rw [e]
  have e2 : ((List.range s.size).map (byteAt s)).map UInt8.ofNat = s.data.toList := by
    apply List.ext_getElem?
    intro i
    rw [List.map_map, List.getElem?_map]
    rcases Nat.lt_or_ge i s.size with h | h
    · rw [List.getElem?_range h, List.getElem?_eq_getElem (by simpa using h)]
      simp only [Option.map_some, Function.comp_apply, byteAt]
      rw [List.getD_eq_getElem?_getD, List.getElem?_eq_getElem (by simpa using h)]
      simp
    · rw [List.getElem?_eq_none (by simpa using h), List.getElem?_eq_none (by simpa using h)]
      rfl
  unfold txt
  rw [e2]

set_option maxHeartbeats 4000000 in
theorem bitsBytes_walk (s : ByteArray) (hi : Bool) (w : World) (_hs : s.size ≤ maxLen) :
    Calls Try.prog 6 #[.string s, .bool hi] w fun e w' => e = .returned (.bool true) ∧ Ext [] w w' := by
  by_cases h : s.size ≤ 300
  · have h' : ¬ 300 < s.size := by omega
    go_enter Try.func6, Try.ntmps6
    go_wp2_with fail
    refine (lives_any w).mono ?_; rintro e w1 ⟨rfl, hx⟩
    have S := (Sep.start w).quiet hx
    clear hx
    go_wp2_with fail
    refine (sWnew hi S).mono ?_; clear S; rintro e w3 ⟨b1, rfl, S⟩
    go_wp2_with fail
    refine (sRnew s hi S).mono ?_; clear S; rintro e w4 ⟨b2, rfl, S⟩
    go_wp2_with fail
    go_loopg [7] s.size (fun g i wr => ∃ k : Nat, g + k = s.size ∧ i = .int .i64 k ∧ ∃ F, Sep w wr [oR b2 s (8 * k) hi, oW b1 F hi (allBits s hi (8 * k))])
    case atStart => exact ⟨0, by omega, rfl, _, S⟩
    case round =>
      clear S
      obtain ⟨k, hk, rfl, F, S⟩ := hrel
      by_cases hkn : k < s.size
      · have eb : ((s[k]'hkn).toNat : Int) = (byteAt s k : Int) := by rw [byteAt_eq]
        have eg := getv_byte s hi k
        have hb := byteAt_lt s k
        have ll := allBits_length s hi (8 * k)
        go_wp2_with fail
        refine (sGet (n := 8) 0 S rfl (by omega) (by omega) (by omega)).mono ?_; clear S; rintro e w5 ⟨rfl, S⟩; rw [eg]
        have hll : (allBits s hi (8 * k)).length < 2 ^ 39 := by omega
        clear eg ll
        go_wp2_with fail
        refine (sPut (n := 8) 1 S rfl hll (by omega) (by omega) (by omega)).mono ?_; clear S; rintro e w6 ⟨rfl, F2, S⟩
        rw [← allBits_byte] at S
        go_wp2_with fail
        go_roundg (s.size - (k + 1))
        case measure => omega
        case rel => exact ⟨k + 1, by omega, by go_num, F2, S⟩
      · have e : k = s.size := by omega
        subst e
        go_wp2_with fail
        refine (sGetMore (n := 1) 0 S rfl (by omega) (by omega) (by omega) (by omega)).mono ?_; clear S; rintro e w5 ⟨rfl, S⟩
        go_wp2_with fail
        refine (sText 1 S rfl).mono ?_; rintro e w6 ⟨rfl, rfl⟩
        rw [txt_all]
        go_wp2_with fail
        refine (sLen 1 S rfl).mono ?_; rintro e w7 ⟨rfl, rfl⟩
        rw [allBits_length, show ((8 * s.size : Nat) : Int) = 8 * (s.size : Int) from by omega]
        have hll : (allBits s hi (8 * s.size)).length < 2 ^ 40 := by rw [allBits_length]; omega
        have hg : gap (allBits s hi (8 * s.size)).length = 0 := by rw [allBits_length]; unfold gap; omega
        go_wp2_with fail
        refine (sWAlign 1 S rfl hll).mono ?_; clear S; rintro e w7 ⟨rfl, S⟩; rw [hg]
        clear hg hll
        go_wp2_with fail
        refine (sLeft 0 S rfl (by omega) (by omega)).mono ?_; clear S; rintro e w8 ⟨rfl, S⟩
        rw [show 8 * (s.size : Int) - ((8 * s.size : Nat) : Int) = 0 from by omega]
        go_wp2_with fail
        go_ret
        exact ⟨rfl, S.ext⟩
  · have h' : 300 < s.size := by omega
    go_enter Try.func6, Try.ntmps6
    go_wp2_with fail
    refine (lives_any w).mono ?_; rintro e w1 ⟨rfl, hx⟩
    go_wp2_with fail
    go_ret
    exact ⟨rfl, hx⟩
end Go.Proofs.Ytcbmapbpggjblaa.Bt
