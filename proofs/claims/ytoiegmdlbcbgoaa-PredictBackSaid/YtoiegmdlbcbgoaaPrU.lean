/-
  predict, plain: the bytes of a row that is undone. No program is in sight here.
-/
import Derived.Test.YtoiegmdlbcbgoaaPrT
namespace Go.Proofs.Ytoiegmdlbcbgoaa.Pr
open Go.RowKit

theorem mask_and : ∀ r < 8, ∀ x < 256, x &&& (255 * 2 ^ r % 256) = x / 2 ^ r * 2 ^ r := by decide +kernel
set_option maxHeartbeats 4000000 in
/-- a byte out of its values, those behind the last one being nought -/
theorem byte1 (m cnt U R : Nat) (hU : U < 256) (hR : R < 256) (h : ∀ i, atP 1 i = m → getP 1 (byP 1 i) U = if i < cnt then getP 1 (byP 1 i) R else 0) (h1 : 8 * m < cnt) :
    U = if 8 * m + 8 ≤ cnt then R else R / 2 ^ (8 * (m + 1) - cnt) * 2 ^ (8 * (m + 1) - cnt) := by
  have hs : ∀ t, t < 8 → U / 2 ^ (7 - t) % 2 = if 8 * m + t < cnt then R / 2 ^ (7 - t) % 2 else 0 := fun t ht => by
    have hb : byP 1 (8 * m + t) = 7 - t := by unfold byP; omega
    have := h (8 * m + t) (by unfold atP; omega)
    rw [hb] at this
    exact this
  have s0 := hs 0 (by omega)
  have s1 := hs 1 (by omega)
  have s2 := hs 2 (by omega)
  have s3 := hs 3 (by omega)
  have s4 := hs 4 (by omega)
  have s5 := hs 5 (by omega)
  have s6 := hs 6 (by omega)
  have s7 := hs 7 (by omega)
  clear hs h
  simp only [Nat.reduceSub, Nat.reducePow, Nat.pow_zero, Nat.sub_zero, Nat.sub_self] at s0 s1 s2 s3 s4 s5 s6 s7
  obtain ⟨e, he⟩ : ∃ e, cnt = 8 * m + e := ⟨cnt - 8 * m, by omega⟩
  subst he
  by_cases he8 : 8 ≤ e
  · rw [if_pos (by omega)]
    rw [if_pos (by omega)] at s0 s1 s2 s3 s4 s5 s6 s7
    omega
  · rw [if_neg (by omega), show 8 * (m + 1) - (8 * m + e) = 8 - e by omega]
    have he1 : e = 1 ∨ e = 2 ∨ e = 3 ∨ e = 4 ∨ e = 5 ∨ e = 6 ∨ e = 7 := by omega
    rcases he1 with rfl | rfl | rfl | rfl | rfl | rfl | rfl
    all_goals
      simp only [Nat.add_lt_add_iff_left, Nat.reduceLT, if_true, if_false, Nat.reduceSub, Nat.reducePow] at s0 s1 s2 s3 s4 s5 s6 s7 ⊢
      omega
theorem byte2 (m cnt U R : Nat) (hU : U < 256) (hR : R < 256) (h : ∀ i, atP 2 i = m → getP 2 (byP 2 i) U = if i < cnt then getP 2 (byP 2 i) R else 0) (h1 : 4 * m < cnt) :
    U = if 4 * m + 4 ≤ cnt then R else R / 2 ^ (8 * (m + 1) - cnt * 2) * 2 ^ (8 * (m + 1) - cnt * 2) := by
  have hs : ∀ t, t < 4 → U / 2 ^ (6 - 2 * t) % 4 = if 4 * m + t < cnt then R / 2 ^ (6 - 2 * t) % 4 else 0 := fun t ht => by
    have hb : byP 2 (4 * m + t) = 6 - 2 * t := by unfold byP; omega
    have := h (4 * m + t) (by unfold atP; omega)
    rw [hb] at this
    exact this
  have s0 := hs 0 (by omega)
  have s1 := hs 1 (by omega)
  have s2 := hs 2 (by omega)
  have s3 := hs 3 (by omega)
  clear hs h
  simp only [Nat.reduceSub, Nat.reducePow, Nat.reduceMul, Nat.pow_zero, Nat.sub_zero, Nat.sub_self] at s0 s1 s2 s3
  obtain ⟨e, he⟩ : ∃ e, cnt = 4 * m + e := ⟨cnt - 4 * m, by omega⟩
  subst he
  by_cases he8 : 4 ≤ e
  · rw [if_pos (by omega)]
    rw [if_pos (by omega)] at s0 s1 s2 s3
    omega
  · rw [if_neg (by omega), show 8 * (m + 1) - (4 * m + e) * 2 = 8 - 2 * e by omega]
    have he1 : e = 1 ∨ e = 2 ∨ e = 3 := by omega
    rcases he1 with rfl | rfl | rfl
    all_goals
      simp only [Nat.add_lt_add_iff_left, Nat.reduceLT, Nat.reduceMul, if_true, if_false, Nat.reduceSub, Nat.reducePow] at s0 s1 s2 s3 ⊢
      omega
theorem byte4 (m cnt U R : Nat) (hU : U < 256) (hR : R < 256) (h : ∀ i, atP 4 i = m → getP 4 (byP 4 i) U = if i < cnt then getP 4 (byP 4 i) R else 0) (h1 : 2 * m < cnt) :
    U = if 2 * m + 2 ≤ cnt then R else R / 2 ^ (8 * (m + 1) - cnt * 4) * 2 ^ (8 * (m + 1) - cnt * 4) := by
  have hs : ∀ t, t < 2 → U / 2 ^ (4 - 4 * t) % 16 = if 2 * m + t < cnt then R / 2 ^ (4 - 4 * t) % 16 else 0 := fun t ht => by
    have hb : byP 4 (2 * m + t) = 4 - 4 * t := by unfold byP; omega
    have := h (2 * m + t) (by unfold atP; omega)
    rw [hb] at this
    exact this
  have s0 := hs 0 (by omega)
  have s1 := hs 1 (by omega)
  clear hs h
  simp only [Nat.reducePow, Nat.reduceMul, Nat.pow_zero, Nat.sub_zero, Nat.sub_self] at s0 s1
  obtain ⟨e, he⟩ : ∃ e, cnt = 2 * m + e := ⟨cnt - 2 * m, by omega⟩
  subst he
  by_cases he8 : 2 ≤ e
  · rw [if_pos (by omega)]
    rw [if_pos (by omega)] at s0 s1
    omega
  · rw [if_neg (by omega), show 8 * (m + 1) - (2 * m + e) * 4 = 8 - 4 * e by omega]
    obtain rfl : e = 1 := by omega
    simp only [Nat.add_lt_add_iff_left, Nat.reduceLT, Nat.reduceMul, if_true, if_false, Nat.reduceSub, Nat.reducePow] at s0 s1 ⊢
    omega
/-- a byte of a row that is undone -/
theorem undone_byte (b cs n cnt rest : Nat) (hb : small b ∨ b = 16) (hcs : 1 ≤ cs) (hcnt : n * 8 = cnt * b + rest) (hrest : rest < 8) (R D : Nat → UInt8) (hD : ∀ i, i < n → D i = gF (tiffK false b cs R n cnt) i) (i : Nat) (hi : i < n) :
    ((tiffK true b cs D n cnt).getD i 0).toNat = if i = n - 1 then (R i).toNat / 2 ^ rest * 2 ^ rest else (R i).toNat := by
  have hc : ∀ q, q < cnt → inRow b n q := fun q hq => by
    unfold inRow
    rcases hb with hb | rfl
    · rw [if_neg (by rcases hb with rfl | rfl | rfl | rfl <;> omega)]
      exact at_lt b q cnt n hb hq (by omega)
    · rw [if_pos rfl]; omega
  have hDv : ∀ q, inRow b n q → valB b D q = valB b (gF (tiffK false b cs R n cnt)) q := fun q hq => by
    unfold inRow at hq
    unfold valB
    rcases hb with hb | rfl
    · have hb16 : b ≠ 16 := by rcases hb with rfl | rfl | rfl | rfl <;> omega
      rw [if_neg hb16] at hq
      rw [if_neg hb16, if_neg hb16, hD _ hq]
    · rw [if_pos rfl] at hq
      rw [if_pos rfl, if_pos rfl, hD _ (by omega), hD _ hq]
  have key := fun q => undone b cs hb hcs R n cnt hc D hDv (q + 1) q (by omega)
  obtain ⟨T, hT⟩ : ∃ T, tiffK true b cs D n cnt = T := ⟨_, rfl⟩
  rw [hT] at key ⊢
  have hU := (T.getD i 0).toNat_lt
  have hR := (R i).toNat_lt
  rcases hb with hb | rfl
  · have hb16 : b ≠ 16 := by rcases hb with rfl | rfl | rfl | rfl <;> omega
    have hs : ∀ q, atP b q = i → getP b (byP b q) (T.getD i 0).toNat = if q < cnt then getP b (byP b q) (R i).toNat else 0 := fun q hq => by
      have h := key q (by unfold inRow; rw [if_neg hb16, hq]; exact hi)
      unfold valB at h
      rw [if_neg hb16, if_neg hb16, hq] at h
      exact h
    rcases hb with rfl | rfl | rfl | rfl
    · have h := byte1 i cnt _ _ hU hR hs (by omega)
      rw [h]
      by_cases hl : i = n - 1
      · rw [if_pos hl]
        by_cases h8 : 8 * i + 8 ≤ cnt
        · rw [if_pos h8, show rest = 0 by omega]; simp
        · rw [if_neg h8, show 8 * (i + 1) - cnt = rest by omega]
      · rw [if_neg hl, if_pos (by omega)]
    · have h := byte2 i cnt _ _ hU hR hs (by omega)
      rw [h]
      by_cases hl : i = n - 1
      · rw [if_pos hl]
        by_cases h8 : 4 * i + 4 ≤ cnt
        · rw [if_pos h8, show rest = 0 by omega]; simp
        · rw [if_neg h8, show 8 * (i + 1) - cnt * 2 = rest by omega]
      · rw [if_neg hl, if_pos (by omega)]
    · have h := byte4 i cnt _ _ hU hR hs (by omega)
      rw [h]
      by_cases hl : i = n - 1
      · rw [if_pos hl]
        by_cases h8 : 2 * i + 2 ≤ cnt
        · rw [if_pos h8, show rest = 0 by omega]; simp
        · rw [if_neg h8, show 8 * (i + 1) - cnt * 4 = rest by omega]
      · rw [if_neg hl, if_pos (by omega)]
    · have h := hs i (by unfold atP; omega)
      have hb0 : byP 8 i = 0 := by unfold byP; omega
      rw [hb0, if_pos (by omega)] at h
      unfold getP at h
      simp only [Nat.pow_zero, Nat.div_one, Nat.reducePow] at h
      rw [show rest = 0 by omega, Nat.pow_zero, Nat.div_one, Nat.mul_one, ite_self]
      omega
  · have h2 := key (i / 2) (by unfold inRow; rw [if_pos rfl]; omega)
    rw [if_pos (by omega)] at h2
    unfold valB gF at h2
    rw [if_pos rfl, if_pos rfl] at h2
    have a1 := (T.getD (2 * (i / 2)) 0).toNat_lt
    have a2 := (T.getD (2 * (i / 2) + 1) 0).toNat_lt
    have a3 := (R (2 * (i / 2))).toNat_lt
    have a4 := (R (2 * (i / 2) + 1)).toNat_lt
    have he : (T.getD i 0).toNat = (R i).toNat := by
      by_cases hev : i % 2 = 0
      · rw [show i = 2 * (i / 2) by omega]; omega
      · rw [show i = 2 * (i / 2) + 1 by omega]
        have e1 : (2 * (i / 2) + 1) / 2 = i / 2 := by omega
        omega
    rw [he, show rest = 0 by omega]
    simp
end Go.Proofs.Ytoiegmdlbcbgoaa.Pr
