/-
  predict: what Put tells, what Get tells of that.
-/
import Derived.Test.YtoiegmdlbcbgoaaPrX
import Derived.Test.YtoiegmdlbcbgoaaPrR
namespace Go.Proofs.Ytoiegmdlbcbgoaa.Pr
open Go.RowKit

theorem byteF_S (l : List UInt8) (i : Nat) : byteF (Pr.S l) i = l.getD i 0 := by unfold byteF; rw [B_S]
theorem flat_byte (f : Nat → List UInt8) (n rows j i : Nat) (hf : ∀ j, (f j).length = n) (hj : j < rows) (hi : i < n) : byteF (Pr.S ((List.range rows).flatMap f)) (j * n + i) = (f j).getD i 0 := by
  rw [byteF_S, List.getD_eq_getElem?_getD, flat_get f n hf rows j i hj hi, List.getD_eq_getElem?_getD]
theorem tiff_back (s : ByteArray) (c b k : Int) (h : gOk 2 c b k) (n rows rest : Nat) (hn : rowN c b k = n) (hr : 8 * (n : Int) - c * b * k = (rest : Int)) (i : Nat) (hi : i < rows * n) :
    (byteF (Pr.S ((List.range rows).flatMap fun j => tiffR true c b k (rwF (byteF (Pr.S ((List.range rows).flatMap fun j => tiffR false c b k (rwF (byteF s) n j) n))) n j) n)) i).toNat
      = if i % n = n - 1 then (byteF s i).toNat / 2 ^ rest * 2 ^ rest else (byteF s i).toNat := by
  have hbd := gOk_bounds h
  have hbo := h.2.2.1
  have hrest : rest < 8 := by unfold rowN at hn; omega
  obtain ⟨c', rfl⟩ := Int.eq_ofNat_of_zero_le (show 0 ≤ c by omega)
  obtain ⟨b', rfl⟩ := Int.eq_ofNat_of_zero_le (show 0 ≤ b by omega)
  obtain ⟨k', rfl⟩ := Int.eq_ofNat_of_zero_le (show 0 ≤ k by omega)
  have hck : ((c' : Int) * (k' : Int)).toNat = c' * k' := by rw [← Int.natCast_mul]; rfl
  have hm : ((c' * k' * b' : Nat) : Int) = (c' : Int) * (b' : Int) * (k' : Int) := by push_cast; rw [Int.mul_right_comm]
  have hcnt : n * 8 = c' * k' * b' + rest := by omega
  have hb : small b' ∨ b' = 16 := by unfold bitsOk at hbo; unfold small; omega
  have hn0 : 0 < n := by
    rcases Nat.eq_zero_or_pos n with h0 | h0
    · subst h0; simp at hi
    · exact h0
  have e : i = i / n * n + i % n := by rw [Nat.mul_comm]; exact (Nat.div_add_mod i n).symm
  have hmn := Nat.mod_lt i hn0
  have hd : i / n < rows := (Nat.div_lt_iff_lt_mul hn0).2 hi
  obtain ⟨j, hj⟩ : ∃ j, i / n = j := ⟨_, rfl⟩
  obtain ⟨q, hq⟩ : ∃ q, i % n = q := ⟨_, rfl⟩
  rw [hq] at hmn ⊢
  rw [hj, hq] at e
  rw [hj] at hd
  clear hj hq hi
  subst e
  rw [flat_byte _ n rows j q (fun j => tiffR_len _ _ _ _ _ _) hd hmn]
  have hD : ∀ u, u < n → rwF (byteF (Pr.S ((List.range rows).flatMap fun j => tiffR false c' b' k' (rwF (byteF s) n j) n))) n j u = gF (tiffK false b' c' (rwF (byteF s) n j) n (c' * k')) u := fun u hu => by
    unfold rwF
    rw [flat_byte _ n rows j u (fun j => tiffR_len _ _ _ _ _ _) hd hu]
    unfold tiffR
    rw [hck]
    rfl
  have h := undone_byte b' c' n (c' * k') rest hb (by omega) hcnt hrest (rwF (byteF s) n j) _ hD q hmn
  unfold tiffR at h ⊢
  rw [hck] at h ⊢
  exact h
theorem back_ex (s : ByteArray) (p : Nat) (c b k : Int) (h : gOk p c b k) (n rows rest : Nat) (hn : rowN c b k = n) (hz : s.size = rows * n) (hs : s.size ≤ 1500) (hr : 8 * (n : Int) - c * b * k = (rest : Int)) :
    ∃ P A : ByteArray, (∀ w, Calls Try.prog 11 #[.string s, gV p c b k] w fun e w' => e = .returned (.tuple #[.string P, .int .i64 0]) ∧ Ext [] w w') ∧ (∀ w, Calls Try.prog 14 #[.string P, gV p c b k] w fun e w' => e = .returned (.tuple #[.string A, .int .i64 0]) ∧ Ext [] w w')
      ∧ A.size = s.size ∧ P.size = s.size + (if 10 ≤ p then rows else 0) ∧ ∀ i, i < s.size → (byteF A i).toNat = if p = 2 ∧ i % n = n - 1 then (byteF s i).toNat / 2 ^ rest * 2 ^ rest else (byteF s i).toNat := by
  have hnb := rowN_bounds h
  rw [hn] at hnb
  have hrn : rows ≤ rows * n := Nat.le_mul_of_pos_right _ (by omega)
  have hp : p = 1 ∨ p = 2 ∨ (10 ≤ p ∧ p ≤ 15) := by have := h.1; unfold predOk at this; omega
  rcases hp with rfl | rfl | ⟨h1, h2⟩
  · exact ⟨s, s, fun w => putN_walk s c b k w h, fun w => getN_walk s c b k w h, rfl, by simp, fun i _ => by rw [if_neg (by omega)]⟩
  · refine ⟨_, _, fun w => putT_walk s c b k w (by omega) h n rows _ hn rfl hz, fun w => getT_walk _ c b k w (by rw [S_size, flat_len _ n (fun j => tiffR_len _ _ _ _ _ _)]; omega) h n rows _ hn rfl (by rw [S_size, flat_len _ n (fun j => tiffR_len _ _ _ _ _ _)]), ?_, ?_, fun i hi => ?_⟩
    · rw [S_size, flat_len _ n (fun j => tiffR_len _ _ _ _ _ _), hz]
    · rw [S_size, flat_len _ n (fun j => tiffR_len _ _ _ _ _ _), hz]; simp
    · rw [tiff_back s c b k h n rows rest hn hr i (by omega)]
      simp
  · refine ⟨_, s, fun w => put10_walk s p c b k w (by omega) h h1 h2 n rows _ hn rfl hz, fun w => get10_walk s _ p c b k w (by rw [S_size, flat_len _ (n + 1) (rowO_len p _ n _), Nat.mul_add]; omega) h h1 h2 n rows _ hn rfl hz (B_S _), rfl, ?_, fun i _ => by rw [if_neg (by omega)]⟩
    rw [S_size, flat_len _ (n + 1) (rowO_len p _ n _), hz, if_pos h1, Nat.mul_add]
    omega
end Go.Proofs.Ytoiegmdlbcbgoaa.Pr
