/-
  inflate, plain: a stored block is read.
-/
import Derived.Test.YtgjenpdppobpkaaInX
namespace Go.Proofs.Ytgjenpdppobpkaa.If
open Bt Hu

theorem getv_split (s : ByteArray) (p n : Nat) : ∀ m, getv s false p (n + m) = getv s false p n + getv s false (p + n) m * 2 ^ n
  | 0 => by simp [getv]
  | m + 1 => by
    rw [← Nat.add_assoc, getv, getv, getv_split s p n m, if_neg (by decide), if_neg (by decide), Nat.add_mul, Nat.pow_add, Nat.add_assoc p n m, Nat.add_assoc, Nat.mul_assoc, Nat.mul_comm (2 ^ m) (2 ^ n)]
theorem getv_two (s : ByteArray) (k : Nat) : getv s false (8 * k) 16 = byteAt s k + byteAt s (k + 1) * 256 := by
  have h := getv_split s (8 * k) 8 8
  rw [getv_byte, show 8 * k + 8 = 8 * (k + 1) by omega, getv_byte] at h
  exact h
theorem byteAt_lt (s : ByteArray) (k : Nat) : byteAt s k < 256 := by
  rw [← getv_byte s false k]
  exact getv_lt s false (8 * k) 8
theorem head_bits (s : ByteArray) (k : Nat) (h : byteAt s k ≤ 1) : getv s false (8 * k) 1 = byteAt s k ∧ getv s false (8 * k + 1) 2 = 0 := by
  have h1 := getv_split s (8 * k) 1 7
  have h2 : getv s false (8 * k + 1) 7 = getv s false (8 * k + 1) 2 + getv s false (8 * k + 1 + 2) 5 * 2 ^ 2 := getv_split s (8 * k + 1) 2 5
  rw [getv_byte] at h1
  have h3 := getv_lt s false (8 * k) 1
  omega
/-- so many bytes of a stored block are put -/
theorem storeL_bytes (s : ByteArray) (B : Nat) : ∀ (n k : Nat) (out : List Nat), k + n ≤ s.size → out.length + n ≤ B → storeL s B n (8 * k) out = .ok () (8 * (k + n)) (out ++ (List.range n).map fun i => byteAt s (k + i))
  | 0, k, out, _, _ => by simp [storeL]
  | n + 1, k, out, h1, h2 => by
    rw [storeL]
    unfold getR putR
    rw [if_pos (by omega), Rs.bind_ok, if_neg (by omega), Rs.bind_ok, getv_byte, show 8 * k + 8 = 8 * (k + 1) by omega, storeL_bytes s B n (k + 1) _ (by omega) (by rw [List.length_append, List.length_singleton]; omega)]
    congr 1
    · omega
    · rw [List.range_succ_eq_map, List.map_cons, List.map_map, List.append_assoc]
      congr 2
      simp only [List.singleton_append, Nat.add_zero]
      congr 1
      apply List.map_congr_left
      intro i _
      simp only [Function.comp_apply, Nat.succ_eq_add_one]
      congr 1
      omega
def bytesAt (s : ByteArray) (k n : Nat) : List Nat := (List.range n).map fun i => byteAt s (k + i)
/-- a stored block stands at byte k -/
structure BlkAt (s : ByteArray) (k last n : Nat) : Prop where
  h0 : byteAt s k = last
  h1 : byteAt s (k + 1) = n
  h2 : byteAt s (k + 2) = 0
  h3 : byteAt s (k + 3) = 255 - n
  h4 : byteAt s (k + 4) = 255
  fit : k + 5 + n ≤ s.size
  small : last ≤ 1 ∧ n ≤ 100
theorem one_block {s : ByteArray} {B k last n : Nat} (h : BlkAt s k last n) (g : Nat) (out : List Nat) (hB : out.length + n ≤ B) :
    allF s B (g + 1) (8 * k) out = if last = 0 then allF s B g (8 * (k + 5 + n)) (out ++ bytesAt s (k + 5) n) else .ok () (8 * (k + 5 + n)) (out ++ bytesAt s (k + 5) n) := by
  obtain ⟨h0, h1, h2, h3, h4, hf, hs⟩ := h
  obtain ⟨b1, b2⟩ := head_bits s k (by omega)
  have g1 : getR s 1 (8 * k) out = .ok last (8 * k + 1) out := by unfold getR; rw [if_pos (by omega), b1, h0]
  have g2 : getR s 2 (8 * k + 1) out = .ok 0 (8 * k + 1 + 2) out := by unfold getR; rw [if_pos (by omega), b2]
  have hgap : 8 * k + 1 + 2 + gap (8 * k + 1 + 2) = 8 * (k + 1) := by unfold gap; omega
  have g3 : getR s 16 (8 * k + 1 + 2 + gap (8 * k + 1 + 2)) out = .ok n (8 * (k + 3)) out := by
    unfold getR
    rw [hgap, if_pos (by omega), getv_two, h1, show k + 1 + 1 = k + 2 by omega, h2]
    congr 1
  have g4 : getR s 16 (8 * (k + 3)) out = .ok (65535 - n) (8 * (k + 5)) out := by
    unfold getR
    rw [if_pos (by omega), getv_two, h3, show k + 3 + 1 = k + 4 by omega, h4]
    congr 1
    omega
  have g5 : blockR s B 0 (8 * k + 1 + 2) out = .ok () (8 * (k + 5 + n)) (out ++ bytesAt s (k + 5) n) := by
    show storedR s B (8 * k + 1 + 2) out = _
    unfold storedR
    rw [g3, Rs.bind_ok, g4, Rs.bind_ok, if_pos rfl, storeL_bytes s B n (k + 5) out (by omega) hB]
    rfl
  rw [allF, g1, Rs.bind_ok, g2, Rs.bind_ok, g5, Rs.bind_ok]
end Go.Proofs.Ytgjenpdppobpkaa.If
