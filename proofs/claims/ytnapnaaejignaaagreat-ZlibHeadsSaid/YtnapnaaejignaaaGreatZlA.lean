/-
  zlib, plain: sums, frames. No program is in sight here.
-/
import Derived.Test.YtnapnaaejignaaaGreatDfD
import Derived.Test.YtnapnaaejignaaaGreatPkQ
namespace Go.Proofs.YtnapnaaejignaaaGreat.De
open Go.RowKit Bt Hu If Mt

theorem txt_nB (s : ByteArray) : txt (nB (B s)) = s := by
  unfold txt nB B
  apply ByteArray.ext
  apply Array.ext'
  simp only [List.map_map]
  conv => rhs; rw [← List.map_id s.data.toList]
  apply List.map_congr_left
  intro x _
  simp
/-! ### sums -/
def sumA : Nat → Nat → List UInt8 → Nat × Nat
  | a, b, [] => (a, b)
  | a, b, x :: l => sumA (a + x.toNat) (b + (a + x.toNat)) l
theorem sumA_app : ∀ (l m : List UInt8) (a b : Nat), sumA a b (l ++ m) = sumA (sumA a b l).1 (sumA a b l).2 m
  | [], _, _, _ => rfl
  | _ :: l, m, _, _ => sumA_app l m _ _
theorem sumA_mod : ∀ (l : List UInt8) (a b c d : Nat), a % 65521 = c % 65521 → b % 65521 = d % 65521 → (sumA a b l).1 % 65521 = (sumA c d l).1 % 65521 ∧ (sumA a b l).2 % 65521 = (sumA c d l).2 % 65521
  | [], a, b, c, d, h1, h2 => ⟨h1, h2⟩
  | x :: l, a, b, c, d, h1, h2 => sumA_mod l _ _ _ _ (by omega) (by omega)
theorem sumA_le : ∀ (l : List UInt8) (a b : Nat), (sumA a b l).1 ≤ a + 255 * l.length ∧ (sumA a b l).2 ≤ b + (a + 255 * l.length) * l.length
  | [], a, b => by simp [sumA]
  | x :: l, a, b => by
    have hx := x.toNat_lt
    obtain ⟨h1, h2⟩ := sumA_le l (a + x.toNat) (b + (a + x.toNat))
    rw [sumA, List.length_cons]
    refine ⟨by omega, Nat.le_trans h2 ?_⟩
    have h3 : (a + x.toNat + 255 * l.length) * l.length ≤ (a + 255 * (l.length + 1)) * l.length := Nat.mul_le_mul_right _ (by omega)
    rw [Nat.mul_add (a + 255 * (l.length + 1)) l.length 1, Nat.mul_one]
    omega
/-- the sum with more bytes (at most one piece) -/
def moreN (n : Nat) (l : List UInt8) : Nat :=
  if l = [] then n else ((sumA (n % 65536) (n / 65536) l).2 % 65521) * 65536 + (sumA (n % 65536) (n / 65536) l).1 % 65521
def adlN (l : List UInt8) : Nat := moreN 1 l
theorem moreN_nil (n : Nat) : moreN n [] = n := if_pos rfl
theorem moreN_lt (n : Nat) (l : List UInt8) (hn : n < 4294967296) : moreN n l < 4294967296 := by
  unfold moreN
  split
  · exact hn
  · omega
theorem more_app (s t : List UInt8) : moreN (adlN s) t = adlN (s ++ t) := by
  unfold adlN
  by_cases hs : s = []
  · rw [hs, moreN_nil]; rfl
  by_cases ht : t = []
  · rw [ht, moreN_nil, List.append_nil]
  have h1 : moreN 1 s = ((sumA 1 0 s).2 % 65521) * 65536 + (sumA 1 0 s).1 % 65521 := if_neg hs
  have h2 : moreN 1 (s ++ t) = ((sumA 1 0 (s ++ t)).2 % 65521) * 65536 + (sumA 1 0 (s ++ t)).1 % 65521 := if_neg (fun h => hs (List.append_eq_nil_iff.1 h).1)
  rw [h2, sumA_app, h1]
  unfold moreN
  rw [if_neg ht]
  have e1 : ((sumA 1 0 s).2 % 65521 * 65536 + (sumA 1 0 s).1 % 65521) % 65536 = (sumA 1 0 s).1 % 65521 := by omega
  have e2 : ((sumA 1 0 s).2 % 65521 * 65536 + (sumA 1 0 s).1 % 65521) / 65536 = (sumA 1 0 s).2 % 65521 := by omega
  rw [e1, e2]
  obtain ⟨g1, g2⟩ := sumA_mod t ((sumA 1 0 s).1 % 65521) ((sumA 1 0 s).2 % 65521) (sumA 1 0 s).1 (sumA 1 0 s).2 (by omega) (by omega)
  rw [g1, g2]
/-! ### the way that Best takes -/
theorem short_is (a b : ByteArray) : shortN a b = a ∨ shortN a b = b := by
  unfold shortN
  split
  · exact .inr rfl
  · exact .inl rfl
theorem best_is (s : ByteArray) : bestN s = storedN s ∨ bestN s = fixedN s ∨ bestN s = dynN s := by
  unfold bestN
  rcases short_is (shortN (storedN s) (fixedN s)) (dynN s) with h | h
  · rw [h]
    rcases short_is (storedN s) (fixedN s) with h | h
    · exact .inl h
    · exact .inr (.inl h)
  · exact .inr (.inr h)
theorem best_run (s : ByteArray) (hs : s.size ≤ 65535) : ∃ bits, (bits + 7) / 8 = (bestN s).size ∧ ∀ t Bg, s.size ≤ Bg → runR (bestN s ++ t) Bg = .ok () bits (nB (B s)) := by
  rcases best_is s with h | h | h <;> rw [h]
  · exact ⟨_, by omega, fun t Bg hb => stored_run s t Bg hs hb⟩
  · exact ⟨_, (fixedN_size s).symm, fun t Bg hb => fixed_run s t Bg hb⟩
  · exact ⟨_, (dynN_size s).symm, fun t Bg hb => dyn_run s t Bg (by omega) hb⟩
/-! ### frames -/
def be4 (n : Nat) : List Nat := [n / 16777216 % 256, n / 65536 % 256, n / 256 % 256, n % 256]
def putZ (s : ByteArray) : ByteArray := txt [120, 156] ++ bestN s ++ txt (be4 (adlN (B s)))
/-- may a head be -/
def frB (s : ByteArray) : Bool := decide (2 ≤ s.size ∧ byteAt s 0 % 16 = 8 ∧ byteAt s 0 / 16 ≤ 7 ∧ (256 * byteAt s 0 + byteAt s 1) % 31 = 0 ∧ byteAt s 1 / 32 % 2 = 0)
def num4 (s : ByteArray) : Nat := byteAt s 0 * 16777216 + byteAt s 1 * 65536 + byteAt s 2 * 256 + byteAt s 3
def tailB (s : ByteArray) (k : Nat) : ByteArray := s.extract k s.size
def getZ (s : ByteArray) (b : Int) : ByteArray × Int :=
  if b < 0 then (txt [], 2) else if s.size < 2 then (txt [], 8) else if frB s = false then (txt [], 4) else
  if eOf (runR (tailB s 2) b.toNat) ≠ 0 then (txt [], eOf (runR (tailB s 2) b.toNat)) else
  if (tailB s 2).size - nOf (runR (tailB s 2) b.toNat) < 4 then (txt [], 8) else
  if num4 (tailB (tailB s 2) (nOf (runR (tailB s 2) b.toNat))) ≠ adlN (B (txt (outOf (runR (tailB s 2) b.toNat)))) then (txt [], 4) else
  (txt (outOf (runR (tailB s 2) b.toNat)), 0)
def salT (s : ByteArray) : ByteArray := if frB s then tailB s 2 else s
def salZ (s : ByteArray) (b : Int) : ByteArray × Bool :=
  if (getZ s b).2 = 0 then ((getZ s b).1, true) else if b < 0 then (txt [], false) else (txt (outOf (runR (salT s) b.toNat)), false)
theorem byteAt_left (a t : ByteArray) (i : Nat) (h : i < a.size) : byteAt (a ++ t) i = byteAt a i := by
  unfold byteAt
  rw [ByteArray.data_append, Array.toList_append, List.getD_eq_getElem?_getD, List.getElem?_append_left (by rw [Array.length_toList]; exact h), ← List.getD_eq_getElem?_getD]
theorem byteAt_right (a t : ByteArray) (i : Nat) : byteAt (a ++ t) (a.size + i) = byteAt t i := by
  unfold byteAt
  rw [ByteArray.data_append, Array.toList_append, List.getD_eq_getElem?_getD, List.getElem?_append_right (by rw [Array.length_toList]; show a.size ≤ _; omega), Array.length_toList, show a.size + i - a.data.size = i by show a.size + i - a.size = i; omega, ← List.getD_eq_getElem?_getD]
theorem tail_app (a t : ByteArray) : tailB (a ++ t) a.size = t := by
  unfold tailB
  apply ByteArray.ext
  apply Array.ext'
  rw [ByteArray.data_extract, Array.toList_extract, ByteArray.data_append, Array.toList_append]
  have h1 : a.data.toList.length = a.size := by simp
  have h2 : t.data.toList.length = t.size := by simp
  simp only [List.extract]
  rw [← h1, List.drop_left, ByteArray.size_append, ← h1, ← h2, Nat.add_sub_cancel_left, List.take_length]
theorem be4_num (n : Nat) (h : n < 4294967296) (t : ByteArray) : num4 (txt (be4 n) ++ t) = n := by
  have hz : (txt (be4 n)).size = 4 := by rw [txt_size]; rfl
  unfold num4
  rw [byteAt_left _ _ _ (by omega), byteAt_left _ _ _ (by omega), byteAt_left _ _ _ (by omega), byteAt_left _ _ _ (by omega)]
  rw [byteAt_txt (be4 n) 0 (n / 16777216 % 256) rfl (by omega), byteAt_txt (be4 n) 1 (n / 65536 % 256) rfl (by omega), byteAt_txt (be4 n) 2 (n / 256 % 256) rfl (by omega), byteAt_txt (be4 n) 3 (n % 256) rfl (by omega)]
  omega
theorem putZ_app (s t : ByteArray) : putZ s ++ t = txt [120, 156] ++ (bestN s ++ (txt (be4 (adlN (B s))) ++ t)) := by
  unfold putZ
  simp only [ByteArray.append_assoc]
end Go.Proofs.YtnapnaaejignaaaGreat.De
