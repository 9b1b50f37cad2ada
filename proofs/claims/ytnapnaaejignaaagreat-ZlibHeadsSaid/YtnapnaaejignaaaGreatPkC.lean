/-
  BitsLives, BitsBytes, BitsRef, BitsRefW, BitsRefT, in one text.
-/
import Derived.Test.YtnapnaaejignaaaGreatPkB
import Derived.Test.YtnapnaaejignaaaGreatPkA
/-! BitsLives: The chapter's examples come out as the statements' 'lives' asks (layer 6, bits). -/
namespace Go.Proofs.YtnapnaaejignaaaGreat.Bt
open Go.RowKit

theorem g3lo : getv ⟨#[180]⟩ false 0 3 = 4 := by decide
theorem g3hi : getv ⟨#[180]⟩ true 0 3 = 5 := by decide
theorem t3lo : txt (packB false ([] ++ bitsOf false 1 1 ++ bitsOf false 2 2)) = ⟨#[5]⟩ := by decide
theorem t3hi : txt (packB true ([] ++ bitsOf true 1 1 ++ bitsOf true 2 2)) = ⟨#[192]⟩ := by decide

end Go.Proofs.YtnapnaaejignaaaGreat.Bt

/-! BitsBytes: The walk of BitsBytes: bytes that are put as numbers of eight bits are those bytes, from either end; so they are read. -/
namespace Go.Proofs.YtnapnaaejignaaaGreat.Bt
open Go.RowKit

def allBits (s : ByteArray) (hi : Bool) (n : Nat) : List Nat := (List.range n).map (bit s hi)
theorem allBits_length (s : ByteArray) (hi : Bool) (n : Nat) : (allBits s hi n).length = n := by simp [allBits]
theorem allBits_bin (s : ByteArray) (hi : Bool) (n : Nat) : Bin (allBits s hi n) := fun x hx => by
  obtain ⟨i, _, rfl⟩ := List.mem_map.1 hx
  exact bit_le _ _ _
theorem allBits_getD (s : ByteArray) (hi : Bool) (n i : Nat) (h : i < n) : (allBits s hi n).getD i 0 = bit s hi i := by
  simp [allBits, List.getD_eq_getElem?_getD, h]
theorem bit_at (s : ByteArray) (hi : Bool) (k i : Nat) (h : i < 8) : bit s hi (8 * k + i) = bitOf hi (byteAt s k) i := by
  unfold bit; rw [show (8 * k + i) / 8 = k by omega, show (8 * k + i) % 8 = i by omega]
theorem allBits_byte (s : ByteArray) (hi : Bool) (k : Nat) : allBits s hi (8 * (k + 1)) = allBits s hi (8 * k) ++ bitsOf hi (byteAt s k) 8 := by
  have e : 8 * (k + 1) = 8 * k + 8 := by omega
  unfold allBits bitsOf
  rw [e, List.range_add, List.map_append, List.map_map]
  congr 1
  refine List.map_congr_left fun i hi' => ?_
  have hi8 : i < 8 := List.mem_range.1 hi'
  show bit s hi (8 * k + i) = _
  rw [bit_at _ _ _ _ hi8]
  unfold bitOf
  rfl
theorem getv_byte (s : ByteArray) (hi : Bool) (k : Nat) : getv s hi (8 * k) 8 = byteAt s k := by
  have hx := byteAt_lt s k
  have b0 := bit_at s hi k 0 (by omega); have b1 := bit_at s hi k 1 (by omega); have b2 := bit_at s hi k 2 (by omega); have b3 := bit_at s hi k 3 (by omega)
  have b4 := bit_at s hi k 4 (by omega); have b5 := bit_at s hi k 5 (by omega); have b6 := bit_at s hi k 6 (by omega); have b7 := bit_at s hi k 7 (by omega)
  simp only [getv, b0, b1, b2, b3, b4, b5, b6, b7]
  generalize byteAt s k = x at *
  clear b0 b1 b2 b3 b4 b5 b6 b7
  cases hi <;> simp [bitOf] <;> omega
theorem byteOf_all (s : ByteArray) (hi : Bool) (n j : Nat) (h : j < n) : byteOf hi (allBits s hi (8 * n)) j = byteAt s j := by
  have hx := byteAt_lt s j
  have b0 := bit_at s hi j 0 (by omega); have b1 := bit_at s hi j 1 (by omega); have b2 := bit_at s hi j 2 (by omega); have b3 := bit_at s hi j 3 (by omega)
  have b4 := bit_at s hi j 4 (by omega); have b5 := bit_at s hi j 5 (by omega); have b6 := bit_at s hi j 6 (by omega); have b7 := bit_at s hi j 7 (by omega)
  unfold byteOf
  rw [allBits_getD _ _ _ _ (by omega), allBits_getD _ _ _ _ (by omega), allBits_getD _ _ _ _ (by omega), allBits_getD _ _ _ _ (by omega), allBits_getD _ _ _ _ (by omega), allBits_getD _ _ _ _ (by omega), allBits_getD _ _ _ _ (by omega), allBits_getD _ _ _ _ (by omega)]
  rw [Nat.add_zero] at b0
  rw [b0, b1, b2, b3, b4, b5, b6, b7]
  generalize byteAt s j = x at *
  clear b0 b1 b2 b3 b4 b5 b6 b7
  cases hi <;> simp [bitOf, wt] <;> omega
theorem txt_all (s : ByteArray) (hi : Bool) : txt (packB hi (allBits s hi (8 * s.size))) = s := by
  have e : packB hi (allBits s hi (8 * s.size)) = (List.range s.size).map (byteAt s) := by
    unfold packB
    rw [allBits_length, show (8 * s.size + 7) / 8 = s.size by omega]
    exact List.map_congr_left fun j hj => byteOf_all s hi s.size j (List.mem_range.1 hj)
  rw [e]
  have e2 : ((List.range s.size).map (byteAt s)).map UInt8.ofNat = s.data.toList := by
    apply List.ext_getElem?
    intro i
    rw [List.map_map, List.getElem?_map]
    rcases Nat.lt_or_ge i s.size with h | h
    · rw [List.getElem?_range h, List.getElem?_eq_getElem (by simpa using h)]
      simp only [Option.map_some, Function.comp_apply, byteAt]
      rw [List.getD_eq_getElem?_getD, List.getElem?_eq_getElem (by simpa using h)]
      simp
    · rw [List.getElem?_eq_none (by simpa using h), List.getElem?_eq_none (by simpa using h)]
      rfl
  unfold txt
  rw [e2]

end Go.Proofs.YtnapnaaejignaaaGreat.Bt

/-! BitsRef: What the reference's bit reader does, function by function (pagemenderref06: NewReader, Left, Align, value, Get). -/
namespace Go.Proofs.YtnapnaaejignaaaGreat.Bt
open Go.RowKit

theorem bit8_hi (s : ByteArray) (i k : Nat) (h : i < s.size) (hk : k < 8) : bits BinOp.and IntKind.u8 (((s[i]'h).toNat : Int) / 2 ^ (7 - k)) 1 = ((bit s true (8 * i + k) : Nat) : Int) := by
  have hx : (s[i]'h).toNat < 256 := (s[i]'h).toNat_lt
  have h1 := u8_and_nat ((s[i]'h).toNat / 2 ^ (7 - k)) 1 (Nat.lt_of_le_of_lt (Nat.div_le_self _ _) hx) (by omega)
  rw [Nat.and_one_is_mod] at h1
  have h2 : ((((s[i]'h).toNat / 2 ^ (7 - k) : Nat)) : Int) = ((s[i]'h).toNat : Int) / 2 ^ (7 - k) := by push_cast; rfl
  rw [h2] at h1
  refine h1.trans ?_
  rw [bit_at _ _ _ _ hk, byteAt_eq]
  simp [bitOf]
theorem bit8_lo (s : ByteArray) (i k : Nat) (h : i < s.size) (hk : k < 8) : bits BinOp.and IntKind.u8 (((s[i]'h).toNat : Int) / 2 ^ k) 1 = ((bit s false (8 * i + k) : Nat) : Int) := by
  have hx : (s[i]'h).toNat < 256 := (s[i]'h).toNat_lt
  have h1 := u8_and_nat ((s[i]'h).toNat / 2 ^ k) 1 (Nat.lt_of_le_of_lt (Nat.div_le_self _ _) hx) (by omega)
  rw [Nat.and_one_is_mod] at h1
  have h2 : ((((s[i]'h).toNat / 2 ^ k : Nat)) : Int) = ((s[i]'h).toNat : Int) / 2 ^ k := by push_cast; rfl
  rw [h2] at h1
  refine h1.trans ?_
  rw [bit_at _ _ _ _ hk, byteAt_eq]
  simp [bitOf]
theorem allBits_succ (s : ByteArray) (hi : Bool) (n : Nat) : allBits s hi (n + 1) = allBits s hi n ++ [bit s hi n] := by
  simp [allBits, List.range_succ]

theorem getv_u32 (s : ByteArray) (hi : Bool) (a n : Nat) (hn : n ≤ 32) : getv s hi a n < 2 ^ 32 :=
  Nat.lt_of_lt_of_le (getv_lt s hi a n) (Nat.pow_le_pow_right (by omega) hn)
/-- the bits l[a], l[a + 1] .. as a number -/
def valOf (hi : Bool) (f : Nat → Nat) : Nat → Nat
  | 0 => 0
  | n + 1 => if hi then 2 * valOf hi f n + f n else valOf hi f n + f n * 2 ^ n
theorem valOf_getv (s : ByteArray) (hi : Bool) (a : Nat) (f : Nat → Nat) : ∀ n, (∀ i, i < n → f i = bit s hi (a + i)) → valOf hi f n = getv s hi a n
  | 0, _ => rfl
  | n + 1, h => by
    unfold valOf getv
    rw [valOf_getv s hi a f n (fun i hi' => h i (by omega)), h n (by omega)]
theorem valOf_lt (hi : Bool) (f : Nat → Nat) (h : ∀ i, f i ≤ 1) : ∀ n, valOf hi f n < 2 ^ n
  | 0 => by simp [valOf]
  | n + 1 => by
    have ih := valOf_lt hi f h n
    have hb := h n
    have h2 : 2 ^ (n + 1) = 2 * 2 ^ n := by rw [Nat.pow_succ]; omega
    have : f n * 2 ^ n ≤ 1 * 2 ^ n := Nat.mul_le_mul_right _ hb
    unfold valOf
    split <;> omega

theorem Calls.same_ext {P : Program} {f : FuncId} {args : Array Value} {w : World} {v : Value} (h : Calls P f args w fun e w' => e = .returned v ∧ w = w') : Calls P f args w fun e w' => e = .returned v ∧ Ext [] w w' :=
  h.mono fun _ _ ⟨he, hw⟩ => ⟨he, hw ▸ Ext.refl _ _⟩
end Go.Proofs.YtnapnaaejignaaaGreat.Bt

/-! BitsRefW: What the reference's bit writer does, function by function (pagemenderref06: Put, Align, Text). -/
namespace Go.Proofs.YtnapnaaejignaaaGreat.Bt
open Go.RowKit

end Go.Proofs.YtnapnaaejignaaaGreat.Bt

/-! BitsRefT: What the reference's bit writer tells as its text (pagemenderref06: Writer.Text). -/
namespace Go.Proofs.YtnapnaaejignaaaGreat.Bt
open Go.RowKit

theorem cut_getD (L : List Nat) (a k i : Nat) : ((L.drop a).take k).getD i 0 = if i < k then L.getD (a + i) 0 else 0 := by
  simp only [List.getD_eq_getElem?_getD, List.getElem?_take, List.getElem?_drop]
  split <;> rfl
def part (hi : Bool) (L : List Nat) (j k : Nat) : Nat := byteOf hi ((L.drop (8 * j)).take k) 0
theorem part_zero (hi : Bool) (L : List Nat) (j : Nat) : part hi L j 0 = 0 := by simp [part, byteOf]
theorem part_succ (hi : Bool) (L : List Nat) (j k : Nat) (hB : Bin L) (hk : k < 8) (h : 8 * j + k < L.length) : part hi L j (k + 1) = part hi L j k ||| L.getD (8 * j + k) 0 * wt hi k := by
  have hl : ((L.drop (8 * j)).take k).length = k := by simp; omega
  have e : (L.drop (8 * j)).take (k + 1) = (L.drop (8 * j)).take k ++ [L.getD (8 * j + k) 0] := by
    rw [List.take_succ_eq_append_getElem (by simp; omega)]
    simp [List.getD_eq_getElem?_getD, h]
  have h1 := byteOf_snoc_new hi ((L.drop (8 * j)).take k) (L.getD (8 * j + k) 0) (fun x hx => hB x (List.mem_of_mem_drop (List.mem_of_mem_take hx))) (hB.getD _)
  rw [hl, show k / 8 = 0 by omega, show k % 8 = k by omega] at h1
  unfold part
  rw [e, h1]
theorem part_end (hi : Bool) (L : List Nat) (j k : Nat) (h : 8 ≤ k ∨ L.length ≤ 8 * j + k) : part hi L j k = byteOf hi L j := by
  have hz : ∀ i, i < 8 → ((L.drop (8 * j)).take k).getD (8 * 0 + i) 0 = L.getD (8 * j + i) 0 := fun i hi8 => by
    rw [cut_getD]
    split
    · rw [Nat.mul_zero, Nat.zero_add]
    · rw [getD_ge _ _ (by omega)]
  have h0 := hz 0 (by omega)
  rw [Nat.add_zero, Nat.add_zero] at h0
  unfold part byteOf
  rw [h0, hz 1 (by omega), hz 2 (by omega), hz 3 (by omega), hz 4 (by omega), hz 5 (by omega), hz 6 (by omega), hz 7 (by omega)]
theorem part_lt (hi : Bool) (L : List Nat) (j k : Nat) (hB : Bin L) : part hi L j k < 256 := byteOf_lt _ _ (fun x hx => hB x (List.mem_of_mem_drop (List.mem_of_mem_take hx))) _
theorem packB_take (hi : Bool) (L : List Nat) (j : Nat) (h : 8 * j < L.length) : (packB hi L).take (j + 1) = (packB hi L).take j ++ [byteOf hi L j] := by
  rw [List.take_succ_eq_append_getElem (by rw [packB_length]; omega)]
  have := packB_get hi L j (by omega)
  rw [List.getElem?_eq_getElem (by rw [packB_length]; omega)] at this
  rw [Option.some.inj this]

theorem shl_hi (x r : Nat) (hb : x ≤ 1) : (x : Int) * 2 ^ (7 - r) % 256 = ((x * wt true r : Nat) : Int) := by
  have hp : 2 ^ (7 - r) ≤ 2 ^ 7 := Nat.pow_le_pow_right (by omega) (by omega)
  have h1 : x * 2 ^ (7 - r) ≤ 128 := by have := Nat.mul_le_mul hb hp; omega
  have e : ((x : Int) * 2 ^ (7 - r)) = ((x * 2 ^ (7 - r) : Nat) : Int) := by push_cast; rfl
  rw [e]
  simp only [wt, if_true]
  omega
theorem shl_lo (x r : Nat) (hb : x ≤ 1) (hr : r < 8) : (x : Int) * 2 ^ r % 256 = ((x * wt false r : Nat) : Int) := by
  have hp : 2 ^ r ≤ 2 ^ 7 := Nat.pow_le_pow_right (by omega) (by omega)
  have h1 : x * 2 ^ r ≤ 128 := by have := Nat.mul_le_mul hb hp; omega
  have e : ((x : Int) * 2 ^ r) = ((x * 2 ^ r : Nat) : Int) := by push_cast; rfl
  rw [e]
  simp only [wt, Bool.false_eq_true, if_false]
  omega
end Go.Proofs.YtnapnaaejignaaaGreat.Bt
