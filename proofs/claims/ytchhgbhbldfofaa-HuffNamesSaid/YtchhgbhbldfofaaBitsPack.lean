/-
  Bits packed into bytes, and read again: plain facts on lists of numbers. No program is in sight here.
-/
import Derived.Test.YtchhgbhbldfofaaBitsPure
namespace Go.Proofs.Ytchhgbhbldfofaa.Bt
open Go.RowKit

def wt (hi : Bool) (k : Nat) : Nat := if hi then 2 ^ (7 - k) else 2 ^ k
def byteOf (hi : Bool) (l : List Nat) (j : Nat) : Nat :=
  l.getD (8 * j) 0 * wt hi 0 + l.getD (8 * j + 1) 0 * wt hi 1 + l.getD (8 * j + 2) 0 * wt hi 2 + l.getD (8 * j + 3) 0 * wt hi 3 +
  l.getD (8 * j + 4) 0 * wt hi 4 + l.getD (8 * j + 5) 0 * wt hi 5 + l.getD (8 * j + 6) 0 * wt hi 6 + l.getD (8 * j + 7) 0 * wt hi 7
def packB (hi : Bool) (l : List Nat) : List Nat := (List.range ((l.length + 7) / 8)).map (byteOf hi l)
def Bin (l : List Nat) : Prop := ∀ x ∈ l, x ≤ 1

theorem Bin.getD {l : List Nat} (h : Bin l) (i : Nat) : l.getD i 0 ≤ 1 := by
  rw [List.getD_eq_getElem?_getD]
  cases hi : l[i]? with
  | none => simp
  | some x => exact h x (List.mem_of_getElem? hi)
theorem Bin.append {l r : List Nat} (h : Bin l) (h' : Bin r) : Bin (l ++ r) := fun x hx => by
  rcases List.mem_append.1 hx with hx | hx
  · exact h x hx
  · exact h' x hx
theorem Bin.zeros (n : Nat) : Bin (List.replicate n 0) := fun x hx => by rw [List.eq_of_mem_replicate hx]; omega
theorem Bin.one {b : Nat} (h : b ≤ 1) : Bin [b] := fun x hx => by rw [List.mem_singleton.1 hx]; exact h

theorem packB_length (hi : Bool) (l : List Nat) : (packB hi l).length = (l.length + 7) / 8 := by simp [packB]
theorem packB_get (hi : Bool) (l : List Nat) (j : Nat) (h : j < (l.length + 7) / 8) : (packB hi l)[j]? = some (byteOf hi l j) := by
  simp [packB, h]
theorem byteOf_lt (hi : Bool) (l : List Nat) (h : Bin l) (j : Nat) : byteOf hi l j < 256 := by
  have h0 := h.getD (8 * j); have h1 := h.getD (8 * j + 1); have h2 := h.getD (8 * j + 2); have h3 := h.getD (8 * j + 3)
  have h4 := h.getD (8 * j + 4); have h5 := h.getD (8 * j + 5); have h6 := h.getD (8 * j + 6); have h7 := h.getD (8 * j + 7)
  unfold byteOf wt
  cases hi <;> simp only [Bool.false_eq_true, if_false, if_true] <;> omega
theorem getD_ge (l : List Nat) (i : Nat) (h : l.length ≤ i) : l.getD i 0 = 0 := by
  rw [List.getD_eq_getElem?_getD, List.getElem?_eq_none h]; rfl
theorem getD_snoc_lt (l : List Nat) (b i : Nat) (h : i < l.length) : (l ++ [b]).getD i 0 = l.getD i 0 := by
  simp [List.getD_eq_getElem?_getD, List.getElem?_append_left h]
theorem getD_snoc_eq (l : List Nat) (b : Nat) : (l ++ [b]).getD l.length 0 = b := by
  simp [List.getD_eq_getElem?_getD]
theorem getD_snoc_gt (l : List Nat) (b i : Nat) (h : l.length < i) : (l ++ [b]).getD i 0 = l.getD i 0 := by
  rw [getD_ge _ _ (by simp; omega), getD_ge _ _ (by omega)]
theorem getD_snoc (l : List Nat) (b i : Nat) : (l ++ [b]).getD i 0 = if i = l.length then b else l.getD i 0 := by
  split
  · subst i; exact getD_snoc_eq _ _
  · rcases Nat.lt_or_ge i l.length with h | h
    · exact getD_snoc_lt _ _ _ h
    · exact getD_snoc_gt _ _ _ (by omega)

/-- a byte ahead of the last one is as it was -/
theorem byteOf_snoc_old (hi : Bool) (l : List Nat) (b j : Nat) (h : j < l.length / 8) : byteOf hi (l ++ [b]) j = byteOf hi l j := by
  unfold byteOf
  rw [getD_snoc_lt _ _ _ (by omega), getD_snoc_lt _ _ _ (by omega), getD_snoc_lt _ _ _ (by omega), getD_snoc_lt _ _ _ (by omega),
    getD_snoc_lt _ _ _ (by omega), getD_snoc_lt _ _ _ (by omega), getD_snoc_lt _ _ _ (by omega), getD_snoc_lt _ _ _ (by omega)]

theorem or_hi (r q b : Nat) (hr : r < 8) (hb : b ≤ 1) : 2 ^ (8 - r) * q ||| b * 2 ^ (7 - r) = 2 ^ (8 - r) * q + b * 2 ^ (7 - r) := by
  have h : b * 2 ^ (7 - r) < 2 ^ (8 - r) := by
    have e : 2 ^ (8 - r) = 2 * 2 ^ (7 - r) := by rw [show 8 - r = (7 - r) + 1 by omega, Nat.pow_succ]; omega
    have : b * 2 ^ (7 - r) ≤ 1 * 2 ^ (7 - r) := Nat.mul_le_mul_right _ hb
    have h0 : 0 < 2 ^ (7 - r) := Nat.two_pow_pos _
    omega
  exact (Nat.two_pow_add_eq_or_of_lt h q).symm
theorem or_lo (r x b : Nat) (hx : x < 2 ^ r) : x ||| b * 2 ^ r = x + b * 2 ^ r := by
  rw [Nat.or_comm, Nat.mul_comm b, ← Nat.two_pow_add_eq_or_of_lt hx b]; omega

/-- the byte that is being written -/
theorem byteOf_snoc_new (hi : Bool) (l : List Nat) (b : Nat) (h : Bin l) (hb : b ≤ 1) :
    byteOf hi (l ++ [b]) (l.length / 8) = byteOf hi l (l.length / 8) ||| b * wt hi (l.length % 8) := by
  generalize hj : l.length / 8 = j
  have hlen : l.length = 8 * j + l.length % 8 := by omega
  generalize hr : l.length % 8 = r at hlen
  have hr8 : r < 8 := by omega
  clear hr hj
  have hs : ∀ k, (l ++ [b]).getD (8 * j + k) 0 = if k = r then b else l.getD (8 * j + k) 0 := fun k => by
    rw [getD_snoc, hlen]
    by_cases hk : k = r
    · subst hk; rw [if_pos rfl, if_pos rfl]
    · rw [if_neg (by omega), if_neg hk]
  have hz : ∀ k, r ≤ k → l.getD (8 * j + k) 0 = 0 := fun k hk => getD_ge _ _ (by omega)
  have hs0 := hs 0; have hs1 := hs 1; have hs2 := hs 2; have hs3 := hs 3; have hs4 := hs 4; have hs5 := hs 5; have hs6 := hs 6; have hs7 := hs 7
  have h0 := h.getD (8 * j); have h1 := h.getD (8 * j + 1); have h2 := h.getD (8 * j + 2); have h3 := h.getD (8 * j + 3)
  have h4 := h.getD (8 * j + 4); have h5 := h.getD (8 * j + 5); have h6 := h.getD (8 * j + 6); have h7 := h.getD (8 * j + 7)
  have z0 := hz 0; have z1 := hz 1; have z2 := hz 2; have z3 := hz 3; have z4 := hz 4; have z5 := hz 5; have z6 := hz 6; have z7 := hz 7
  simp only [Nat.add_zero] at hs0 z0
  clear hs hz hlen h
  unfold byteOf
  rw [hs0, hs1, hs2, hs3, hs4, hs5, hs6, hs7]
  clear hs0 hs1 hs2 hs3 hs4 hs5 hs6 hs7
  generalize l.getD (8 * j) 0 = a0 at *
  generalize l.getD (8 * j + 1) 0 = a1 at *
  generalize l.getD (8 * j + 2) 0 = a2 at *
  generalize l.getD (8 * j + 3) 0 = a3 at *
  generalize l.getD (8 * j + 4) 0 = a4 at *
  generalize l.getD (8 * j + 5) 0 = a5 at *
  generalize l.getD (8 * j + 6) 0 = a6 at *
  generalize l.getD (8 * j + 7) 0 = a7 at *
  unfold wt
  cases hi
  · simp only [Bool.false_eq_true, if_false]
    rw [or_lo]
    · have hc : r = 0 ∨ r = 1 ∨ r = 2 ∨ r = 3 ∨ r = 4 ∨ r = 5 ∨ r = 6 ∨ r = 7 := by omega
      rcases hc with rfl | rfl | rfl | rfl | rfl | rfl | rfl | rfl <;> simp at * <;> omega
    · have hc : r = 0 ∨ r = 1 ∨ r = 2 ∨ r = 3 ∨ r = 4 ∨ r = 5 ∨ r = 6 ∨ r = 7 := by omega
      rcases hc with rfl | rfl | rfl | rfl | rfl | rfl | rfl | rfl <;> simp at * <;> omega
  · simp only [if_true]
    have key : ∃ q, a0 * 2 ^ (7 - 0) + a1 * 2 ^ (7 - 1) + a2 * 2 ^ (7 - 2) + a3 * 2 ^ (7 - 3) + a4 * 2 ^ (7 - 4) + a5 * 2 ^ (7 - 5) + a6 * 2 ^ (7 - 6) + a7 * 2 ^ (7 - 7) = 2 ^ (8 - r) * q := by
      have hc : r = 0 ∨ r = 1 ∨ r = 2 ∨ r = 3 ∨ r = 4 ∨ r = 5 ∨ r = 6 ∨ r = 7 := by omega
      rcases hc with rfl | rfl | rfl | rfl | rfl | rfl | rfl | rfl <;> simp at *
      · exact ⟨0, by omega⟩
      · exact ⟨a0, by omega⟩
      · exact ⟨a0 * 2 + a1, by omega⟩
      · exact ⟨a0 * 4 + a1 * 2 + a2, by omega⟩
      · exact ⟨a0 * 8 + a1 * 4 + a2 * 2 + a3, by omega⟩
      · exact ⟨a0 * 16 + a1 * 8 + a2 * 4 + a3 * 2 + a4, by omega⟩
      · exact ⟨a0 * 32 + a1 * 16 + a2 * 8 + a3 * 4 + a4 * 2 + a5, by omega⟩
      · exact ⟨a0 * 64 + a1 * 32 + a2 * 16 + a3 * 8 + a4 * 4 + a5 * 2 + a6, by omega⟩
    obtain ⟨q, hq⟩ := key
    rw [hq, or_hi r q b hr8 hb, ← hq]
    clear hq
    have hc : r = 0 ∨ r = 1 ∨ r = 2 ∨ r = 3 ∨ r = 4 ∨ r = 5 ∨ r = 6 ∨ r = 7 := by omega
    rcases hc with rfl | rfl | rfl | rfl | rfl | rfl | rfl | rfl <;> simp at * <;> omega

/-- the bytes ahead of the bit that is put: a new nought where a byte begins -/
def baseB (hi : Bool) (l : List Nat) : List Nat := if l.length % 8 = 0 then packB hi l ++ [0] else packB hi l
theorem baseB_length (hi : Bool) (l : List Nat) : (baseB hi l).length = l.length / 8 + 1 := by
  unfold baseB; split <;> simp [packB_length] <;> omega
theorem byteOf_end (hi : Bool) (l : List Nat) (h : l.length % 8 = 0) : byteOf hi l (l.length / 8) = 0 := by
  unfold byteOf
  rw [getD_ge _ _ (by omega), getD_ge _ _ (by omega), getD_ge _ _ (by omega), getD_ge _ _ (by omega), getD_ge _ _ (by omega), getD_ge _ _ (by omega), getD_ge _ _ (by omega), getD_ge _ _ (by omega)]
  omega
theorem baseB_get (hi : Bool) (l : List Nat) (j : Nat) (h : j < l.length / 8 + 1) : (baseB hi l)[j]? = some (byteOf hi l j) := by
  unfold baseB
  split
  · rename_i h8
    rcases Nat.lt_or_ge j ((l.length + 7) / 8) with hj | hj
    · rw [List.getElem?_append_left (by rw [packB_length]; exact hj)]; exact packB_get _ _ _ hj
    · obtain rfl : j = l.length / 8 := by omega
      rw [List.getElem?_append_right (by rw [packB_length]; omega), packB_length, show l.length / 8 - (l.length + 7) / 8 = 0 by omega, byteOf_end _ _ h8]
      rfl
  · exact packB_get _ _ _ (by omega)
theorem packB_snoc (hi : Bool) (l : List Nat) (b : Nat) (h : Bin l) (hb : b ≤ 1) :
    packB hi (l ++ [b]) = (baseB hi l).set (l.length / 8) (byteOf hi l (l.length / 8) ||| b * wt hi (l.length % 8)) := by
  apply List.ext_getElem?
  intro j
  rcases Nat.lt_or_ge j (l.length / 8 + 1) with hj | hj
  · rw [packB_get _ _ _ (by simp; omega), List.getElem?_set]
    by_cases hjl : l.length / 8 = j
    · subst hjl
      rw [if_pos rfl, if_pos (by rw [baseB_length]; omega), byteOf_snoc_new _ _ _ h hb]
    · rw [if_neg hjl, baseB_get _ _ _ hj, byteOf_snoc_old _ _ _ _ (by omega)]
  · rw [List.getElem?_eq_none (by rw [packB_length]; simp; omega), List.getElem?_eq_none (by rw [List.length_set, baseB_length]; omega)]

theorem byteOf_zeros (hi : Bool) (l : List Nat) (n j : Nat) : byteOf hi (l ++ List.replicate n 0) j = byteOf hi l j := by
  have h : ∀ i, (l ++ List.replicate n 0).getD i 0 = l.getD i 0 := fun i => by
    rcases Nat.lt_or_ge i l.length with hi | hi
    · simp [List.getD_eq_getElem?_getD, List.getElem?_append_left hi]
    · rw [getD_ge l _ hi, List.getD_eq_getElem?_getD, List.getElem?_append_right hi, List.getElem?_replicate]
      split <;> rfl
  unfold byteOf
  rw [h, h, h, h, h, h, h, h]
theorem packB_gap (hi : Bool) (l : List Nat) : packB hi (l ++ List.replicate (gap l.length) 0) = packB hi l := by
  have e : (l ++ List.replicate (gap l.length) 0).length = l.length + gap l.length := by rw [List.length_append, List.length_replicate]
  have e2 : (l.length + gap l.length + 7) / 8 = (l.length + 7) / 8 := by unfold gap; omega
  unfold packB
  rw [e, e2]
  exact List.map_congr_left fun j _ => byteOf_zeros _ _ _ _

/-- a bit is read as it was put -/
theorem bitOf_byteOf (hi : Bool) (l : List Nat) (h : Bin l) (j k : Nat) (hk : k < 8) : bitOf hi (byteOf hi l j) k = l.getD (8 * j + k) 0 := by
  have h0 := h.getD (8 * j); have h1 := h.getD (8 * j + 1); have h2 := h.getD (8 * j + 2); have h3 := h.getD (8 * j + 3)
  have h4 := h.getD (8 * j + 4); have h5 := h.getD (8 * j + 5); have h6 := h.getD (8 * j + 6); have h7 := h.getD (8 * j + 7)
  have hc : k = 0 ∨ k = 1 ∨ k = 2 ∨ k = 3 ∨ k = 4 ∨ k = 5 ∨ k = 6 ∨ k = 7 := by omega
  have hg : l.getD (8 * j + k) 0 = if k = 0 then l.getD (8 * j) 0 else if k = 1 then l.getD (8 * j + 1) 0 else if k = 2 then l.getD (8 * j + 2) 0 else if k = 3 then l.getD (8 * j + 3) 0
      else if k = 4 then l.getD (8 * j + 4) 0 else if k = 5 then l.getD (8 * j + 5) 0 else if k = 6 then l.getD (8 * j + 6) 0 else l.getD (8 * j + 7) 0 := by
    rcases hc with rfl | rfl | rfl | rfl | rfl | rfl | rfl | rfl <;> rfl
  rw [hg]
  unfold byteOf wt bitOf
  clear hg
  generalize l.getD (8 * j) 0 = a0 at *
  generalize l.getD (8 * j + 1) 0 = a1 at *
  generalize l.getD (8 * j + 2) 0 = a2 at *
  generalize l.getD (8 * j + 3) 0 = a3 at *
  generalize l.getD (8 * j + 4) 0 = a4 at *
  generalize l.getD (8 * j + 5) 0 = a5 at *
  generalize l.getD (8 * j + 6) 0 = a6 at *
  generalize l.getD (8 * j + 7) 0 = a7 at *
  cases hi <;> rcases hc with rfl | rfl | rfl | rfl | rfl | rfl | rfl | rfl <;> simp <;> omega

/-- the bits of a number, as they are put -/
def bitsOf (hi : Bool) (v n : Nat) : List Nat := (List.range n).map fun i => if hi then v / 2 ^ (n - 1 - i) % 2 else v / 2 ^ i % 2
theorem bitsOf_length (hi : Bool) (v n : Nat) : (bitsOf hi v n).length = n := by simp [bitsOf]
theorem bitsOf_bin (hi : Bool) (v n : Nat) : Bin (bitsOf hi v n) := fun x hx => by
  obtain ⟨i, _, rfl⟩ := List.mem_map.1 hx
  split <;> omega

/-- the text that a list of bytes is -/
def txt (l : List Nat) : ByteArray := ⟨(l.map UInt8.ofNat).toArray⟩
theorem txt_size (l : List Nat) : (txt l).size = l.length := by simp [txt, ByteArray.size]
theorem byteAt_txt (l : List Nat) (i x : Nat) (h : l[i]? = some x) (hx : x < 256) : byteAt (txt l) i = x := by
  unfold byteAt txt
  rw [List.getD_eq_getElem?_getD]
  simp [h, Nat.mod_eq_of_lt hx]
theorem bit_txt (hi : Bool) (l : List Nat) (h : Bin l) (p : Nat) (hp : p < 8 * ((l.length + 7) / 8)) : bit (txt (packB hi l)) hi p = l.getD p 0 := by
  unfold bit
  rw [byteAt_txt _ _ _ (packB_get hi l (p / 8) (by omega)) (byteOf_lt _ _ h _), bitOf_byteOf _ _ h _ _ (by omega), show 8 * (p / 8) + p % 8 = p by omega]
end Go.Proofs.Ytchhgbhbldfofaa.Bt
