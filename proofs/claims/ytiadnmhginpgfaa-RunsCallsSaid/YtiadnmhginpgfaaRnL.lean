/-
  runs, plain: one byte many times; bytes told in parts. No program is in sight here.
-/
import Derived.Test.YtiadnmhginpgfaaRunsJoin
namespace Go.Proofs.Ytiadnmhginpgfaa.Rn
open Go.RowKit

theorem sameF_rep (c : UInt8) (n : Nat) : ∀ j k, j + k = 128 → 1 ≤ k → k ≤ n → sameF (List.replicate n c) k = min n 128
  | 0, k, h, _, hk => by rw [sameF_stop _ _ (by omega)]; omega
  | j + 1, k, h, h1, hk => by
    by_cases hkn : k < n
    · rw [sameF_more _ _ ⟨by omega, by simpa using hkn, by rw [List.getElem?_replicate_of_lt hkn, List.getElem?_replicate_of_lt (by omega)]⟩]
      exact sameF_rep c n j (k + 1) (by omega) (by omega) (by omega)
    · rw [sameF_stop _ _ (by simp; omega)]; omega
theorem same_rep (c : UInt8) (n : Nat) (h : 1 ≤ n) : same (List.replicate n c) = min n 128 := sameF_rep c n 127 1 rfl (by omega) h
theorem cut_rep (c : UInt8) (n : Nat) (h : 1 ≤ n) : cut (List.replicate n c) = min n 128 := by
  unfold cut
  rw [same_rep c n h]
  by_cases h1 : n = 1
  · subst h1
    rw [if_neg (by omega), plainF_stop _ _ (by simp)]
    rfl
  · rw [if_pos (by omega)]
theorem rep_pieces (c : UInt8) : ∀ (m n : Nat), n ≤ m → ((pieces (List.replicate n c)).flatMap enc).length = 2 * ((n + 127) / 128)
  | m, 0, _ => by rw [List.replicate_zero, pieces_nil]; rfl
  | 0, n + 1, h => by omega
  | m + 1, n + 1, h => by
    rw [pieces_cons _ (by simp), cut_rep c (n + 1) (by omega), List.flatMap_cons, List.length_append, List.drop_replicate, rep_pieces c m _ (by omega)]
    have he : (enc (List.take (min (n + 1) 128) (List.replicate (n + 1) c), many (List.replicate (n + 1) c))).length = 2 := by
      unfold many enc
      rw [same_rep c (n + 1) (by omega), List.take_replicate]
      by_cases h1 : n = 0
      · subst h1; simp
      · have : decide (1 < min (n + 1) 128) = true := decide_eq_true (by omega)
        rw [this]; rfl
    rw [he]
    omega
theorem putL_rep (c : UInt8) (n : Nat) : (putL (List.replicate n c)).length = 2 * ((n + 127) / 128) + 1 := by
  unfold putL
  rw [List.length_append, rep_pieces c n n (Nat.le_refl _)]
  rfl
theorem putL_last (l : List UInt8) : (putL l)[(putL l).length - 1]? = some 128 := by
  unfold putL
  rw [List.length_append, List.getElem?_append_right (by simp)]
  simp

/-- parts of k bytes, as they are -/
def parts (k : Nat) (l : List UInt8) : List Piece := if _h : 0 < l.length ∧ 0 < k then (l.take k, false) :: parts k (l.drop k) else []
termination_by l.length
decreasing_by simp; omega
theorem parts_stop (k : Nat) (l : List UInt8) (h : l.length = 0) : parts k l = [] := by rw [parts, dif_neg (by omega)]
theorem parts_more (k : Nat) (l : List UInt8) (h : 0 < l.length) (hk : 0 < k) : parts k l = (l.take k, false) :: parts k (l.drop k) := by rw [parts, dif_pos ⟨h, hk⟩]
theorem parts_all (k : Nat) (hk : 0 < k) : ∀ (m : Nat) (l : List UInt8), l.length ≤ m → (parts k l).flatMap (·.1) = l
  | 0, l, h => by rw [parts_stop k l (by omega), List.eq_nil_of_length_eq_zero (by omega : l.length = 0)]; rfl
  | m + 1, l, h => by
    by_cases h0 : 0 < l.length
    · rw [parts_more k l h0 hk, List.flatMap_cons, parts_all k hk m _ (by simp; omega)]; simp
    · rw [parts_stop k l (by omega), List.eq_nil_of_length_eq_zero (by omega : l.length = 0)]; rfl
theorem parts_ok (k : Nat) (hk : 0 < k) (hk2 : k ≤ 128) : ∀ (m : Nat) (l : List UInt8), l.length ≤ m → ∀ x ∈ parts k l, Ok x
  | 0, l, h, x, hx => by rw [parts_stop k l (by omega)] at hx; simp at hx
  | m + 1, l, h, x, hx => by
    by_cases h0 : 0 < l.length
    · rw [parts_more k l h0 hk] at hx
      rcases List.mem_cons.1 hx with rfl | hx
      · exact ⟨by simp; omega, by simp; omega, by simp⟩
      · exact parts_ok k hk hk2 m _ (by simp; omega) x hx
    · rw [parts_stop k l (by omega)] at hx; simp at hx
def twos (l : List UInt8) : List Piece := l.map fun c => ([c, c], true)
theorem twos_ok (l : List UInt8) : ∀ x ∈ twos l, Ok x := by
  intro x hx
  obtain ⟨c, _, rfl⟩ := List.mem_map.1 hx
  refine ⟨by simp, by simp, fun _ => ⟨by simp, fun i hi => ?_⟩⟩
  match i, hi with
  | 0, _ => rfl
  | 1, _ => rfl
theorem pieces_law (b : Int) (L : List Piece) (h : ∀ x ∈ L, Ok x) (hb : ((L.flatMap (·.1)).length : Int) ≤ b) : getA b (L.flatMap enc ++ [128]) = (L.flatMap (·.1), 0) := by
  unfold getA
  rw [if_neg (by omega), getL_pieces b L _ [] h (by simpa using hb), getL_end, List.nil_append]
theorem plain_law (k : Nat) (hk : 0 < k) (hk2 : k ≤ 128) (l : List UInt8) : getA (l.length : Int) ((parts k l).flatMap enc ++ [128]) = (l, 0) := by
  have ha := parts_all k hk _ l (Nat.le_refl _)
  have := pieces_law (l.length : Int) (parts k l) (parts_ok k hk hk2 _ l (Nat.le_refl _)) (by rw [ha]; omega)
  rw [ha] at this
  exact this
theorem twos_law (l : List UInt8) : getA (2 * (l.length : Int)) ((twos l).flatMap enc ++ [128]) = (l.flatMap fun c => [c, c], 0) := by
  have ha : (twos l).flatMap (·.1) = l.flatMap fun c => [c, c] := by unfold twos; rw [List.flatMap_map]
  have hl : ∀ l : List UInt8, (l.flatMap fun c => [c, c]).length = 2 * l.length := fun l => by
    induction l with
    | nil => rfl
    | cons a l ih => rw [List.flatMap_cons, List.length_append, ih]; simp; omega
  have := pieces_law (2 * (l.length : Int)) (twos l) (twos_ok l) (by rw [ha, hl]; simp)
  rw [ha] at this
  exact this
end Go.Proofs.Ytiadnmhginpgfaa.Rn
