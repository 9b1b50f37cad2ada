/-
  predict, plain: what tiff does is undone. No program is in sight here.
-/
import Derived.Test.YtoiegmdlbcbgoaaPrR
namespace Go.Proofs.Ytoiegmdlbcbgoaa.Pr
open Go.RowKit

/-! ### a value put, a value got -/
theorem slot1 : ∀ y < 8, ∀ z < 8, ∀ x < 256, ∀ u < 2, getP 1 z (setP 1 y x u) = if z = y then u else getP 1 z x := by decide +kernel
theorem slot2 : ∀ y < 4, ∀ z < 4, ∀ x < 256, ∀ u < 4, getP 2 (2 * z) (setP 2 (2 * y) x u) = if z = y then u else getP 2 (2 * z) x := by decide +kernel
theorem slot4 : ∀ y < 2, ∀ z < 2, ∀ x < 256, ∀ u < 16, getP 4 (4 * z) (setP 4 (4 * y) x u) = if z = y then u else getP 4 (4 * z) x := by decide +kernel
theorem slot8 (x u : Nat) (hu : u < 256) : getP 8 0 (setP 8 0 x u) = u := by
  unfold getP setP
  simp
  omega
theorem by_eq (b i j : Nat) (hb : small b) (h : atP b i = atP b j) : byP b i = byP b j ↔ i = j := by
  unfold atP at h
  unfold byP
  rcases hb with rfl | rfl | rfl | rfl <;> omega
theorem slot_any (b i j x u : Nat) (hb : small b) (h : atP b i = atP b j) (hx : x < 256) (hu : u < 2 ^ b) : getP b (byP b j) (setP b (byP b i) x u) = if j = i then u else getP b (byP b j) x := by
  have he := by_eq b j i hb h.symm
  rcases hb with rfl | rfl | rfl | rfl
  · have h1 := slot1 (byP 1 i) (by unfold byP; omega) (byP 1 j) (by unfold byP; omega) x hx u hu
    rw [h1]
    by_cases hj : j = i
    · rw [if_pos (he.2 hj), if_pos hj]
    · rw [if_neg (fun q => hj (he.1 q)), if_neg hj]
  · obtain ⟨y, hy⟩ : ∃ y, byP 2 i = 2 * y := ⟨byP 2 i / 2, by unfold byP; omega⟩
    obtain ⟨z, hz⟩ : ∃ z, byP 2 j = 2 * z := ⟨byP 2 j / 2, by unfold byP; omega⟩
    have h1 := slot2 y (by unfold byP at hy; omega) z (by unfold byP at hz; omega) x hx u hu
    rw [hy, hz] at he ⊢
    rw [h1]
    by_cases hj : j = i
    · rw [if_pos (by have := he.2 hj; omega), if_pos hj]
    · rw [if_neg (fun q => hj (he.1 (by omega))), if_neg hj]
  · obtain ⟨y, hy⟩ : ∃ y, byP 4 i = 4 * y := ⟨byP 4 i / 4, by unfold byP; omega⟩
    obtain ⟨z, hz⟩ : ∃ z, byP 4 j = 4 * z := ⟨byP 4 j / 4, by unfold byP; omega⟩
    have h1 := slot4 y (by unfold byP at hy; omega) z (by unfold byP at hz; omega) x hx u hu
    rw [hy, hz] at he ⊢
    rw [h1]
    by_cases hj : j = i
    · rw [if_pos (by have := he.2 hj; omega), if_pos hj]
    · rw [if_neg (fun q => hj (he.1 (by omega))), if_neg hj]
  · have hy : byP 8 i = 0 := by unfold byP; omega
    have hz : byP 8 j = 0 := by unfold byP; omega
    rw [hy, hz, slot8 x u hu, if_pos (he.1 (by omega))]

/-! ### in a row -/
abbrev gF (l : List UInt8) : Nat → UInt8 := fun j => l.getD j 0
/-- the places of a row's values, those behind the last one too -/
def inRow (b n i : Nat) : Prop := if b = 16 then 2 * i + 1 < n else atP b i < n
theorem pow_toNat (b : Nat) (v : Int) : (((v % 2 ^ b).toNat : Nat) : Int) = v % 2 ^ b ∧ (v % 2 ^ b).toNat < 2 ^ b := by
  have h1 := Int.emod_lt_of_pos v (show (0 : Int) < 2 ^ b from Int.pow_pos (by omega))
  have h2 := Int.emod_nonneg v (show (2 : Int) ^ b ≠ 0 from Int.ne_of_gt (Int.pow_pos (by omega)))
  have h3 : (((v % 2 ^ b).toNat : Nat) : Int) = v % 2 ^ b := Int.toNat_of_nonneg h2
  refine ⟨h3, ?_⟩
  have h4 : (((v % 2 ^ b).toNat : Nat) : Int) < ((2 ^ b : Nat) : Int) := by rw [h3]; push_cast; exact h1
  exact Int.ofNat_lt.1 h4
theorem getD_set (l : List UInt8) (i j : Nat) (x : UInt8) (hi : i < l.length) : (l.set i x).getD j 0 = if j = i then x else l.getD j 0 := by
  rw [List.getD_eq_getElem?_getD, List.getElem?_set, List.getD_eq_getElem?_getD]
  by_cases h : i = j
  · subst h; rw [if_pos rfl, if_pos hi, if_pos rfl]; rfl
  · rw [if_neg h, if_neg (Ne.symm h)]
theorem val_put (b : Nat) (hb : small b ∨ b = 16) (l : List UInt8) (i j : Nat) (v : Int) (hi : inRow b l.length i) (hj : inRow b l.length j) : valB b (gF (putB b l i v)) j = if j = i then (v % 2 ^ b).toNat else valB b (gF l) j := by
  unfold inRow at hi hj
  rcases hb with hb | rfl
  · have hb16 : b ≠ 16 := by rcases hb with rfl | rfl | rfl | rfl <;> omega
    rw [if_neg hb16] at hi hj
    unfold valB putB gF
    rw [if_neg hb16, if_neg hb16, if_neg hb16, getD_set _ _ _ _ hi]
    have hp := pow_toNat b v
    have hx := (l.getD (atP b i) 0).toNat_lt
    by_cases ha : atP b j = atP b i
    · rw [if_pos ha, UInt8.toNat_ofNat', Nat.mod_eq_of_lt (setP_lt b _ _ _ hx hp.2 (byP_le2 b i hb)), slot_any b i j _ _ hb ha.symm hx hp.2]
      by_cases hji : j = i
      · rw [if_pos hji, if_pos hji]
      · rw [if_neg hji, if_neg hji, ha]
    · rw [if_neg ha, if_neg (fun e => ha (by rw [e]))]
  · rw [if_pos rfl] at hi hj
    unfold valB putB gF
    rw [if_pos rfl, if_pos rfl, if_pos rfl, getD_set _ _ _ _ (by simp; omega), getD_set _ _ _ _ (by omega), getD_set _ _ _ _ (by simp; omega), getD_set _ _ _ _ (by omega)]
    by_cases hji : j = i
    · subst hji
      rw [if_neg (by omega), if_pos rfl, if_pos rfl, if_pos rfl]
      unfold u8I
      rw [UInt8.toNat_ofNat', UInt8.toNat_ofNat']
      show _ = (v % 65536).toNat
      omega
    · rw [if_neg (by omega), if_neg (by omega), if_neg (by omega), if_neg (by omega), if_neg hji]
theorem val_zero (b n j : Nat) : valB b (gF (List.replicate n 0)) j = 0 := by
  have h : ∀ m, (gF (List.replicate n (0 : UInt8)) m).toNat = 0 := fun m => by
    unfold gF
    rw [List.getD_eq_getElem?_getD, List.getElem?_replicate]
    split <;> rfl
  unfold valB getP
  rw [h, h, h]
  split <;> simp
theorem tiff_vals (undo : Bool) (b cs : Nat) (hb : small b ∨ b = 16) (R : Nat → UInt8) (n cnt : Nat) (hc : ∀ i, i < cnt → inRow b n i) : ∀ k, k ≤ cnt → ∀ j, inRow b n j →
    valB b (gF (tiffK undo b cs R n k)) j = if j < k then (tiffV undo b cs R (tiffK undo b cs R n j) j % 2 ^ b).toNat else 0
  | 0, _, j, _ => by rw [if_neg (by omega)]; exact val_zero b n j
  | k + 1, hk, j, hj => by
    have hl := tiffK_len undo b cs R n k
    rw [tiffK, val_put b hb _ k j _ (by rw [hl]; exact hc k (by omega)) (by rw [hl]; exact hj), tiff_vals undo b cs hb R n cnt hc k (by omega) j hj]
    by_cases hjk : j = k
    · subst hjk; rw [if_pos rfl, if_pos (by omega)]
    · rw [if_neg hjk]
      by_cases h2 : j < k
      · rw [if_pos h2, if_pos (by omega)]
      · rw [if_neg h2, if_neg (by omega)]
theorem valB_pow (b : Nat) (hb : small b ∨ b = 16) (f : Nat → UInt8) (i : Nat) : valB b f i < 2 ^ b := by
  unfold valB
  rcases hb with hb | rfl
  · rw [if_neg (by rcases hb with rfl | rfl | rfl | rfl <;> omega)]
    unfold getP
    exact Nat.mod_lt _ (Nat.pow_pos (by omega))
  · rw [if_pos rfl]
    have h1 := (f (2 * i)).toNat_lt
    have h2 := (f (2 * i + 1)).toNat_lt
    omega
/-- undone, each value is as it was; what stands behind the last one is nought -/
theorem undone (b cs : Nat) (hb : small b ∨ b = 16) (hcs : 1 ≤ cs) (R : Nat → UInt8) (n cnt : Nat) (hc : ∀ i, i < cnt → inRow b n i) (D : Nat → UInt8) (hD : ∀ j, inRow b n j → valB b D j = valB b (gF (tiffK false b cs R n cnt)) j) :
    ∀ m j, j < m → inRow b n j → valB b (gF (tiffK true b cs D n cnt)) j = if j < cnt then valB b R j else 0
  | 0, j, h, _ => by omega
  | m + 1, j, h, hj => by
    rw [tiff_vals true b cs hb D n cnt hc cnt (Nat.le_refl _) j hj]
    by_cases hjc : j < cnt
    · rw [if_pos hjc, if_pos hjc]
      have hdj := hD j hj
      rw [tiff_vals false b cs hb R n cnt hc cnt (Nat.le_refl _) j hj, if_pos hjc] at hdj
      have hlt := valB_pow b hb R j
      have hR : ((valB b R j : Nat) : Int) % 2 ^ b = (valB b R j : Nat) := Int.emod_eq_of_lt (by omega) (by have : ((valB b R j : Nat) : Int) < ((2 ^ b : Nat) : Int) := Int.ofNat_lt.2 hlt; push_cast at this; exact this)
      unfold tiffV at hdj ⊢
      by_cases h1 : j < cs
      · rw [if_pos h1] at hdj ⊢
        rw [hdj, (pow_toNat b _).1, hR, hR]
        omega
      · rw [if_neg h1] at hdj ⊢
        rw [if_neg (by simp)] at hdj
        rw [if_pos rfl]
        have hprev : valB b (fun q => (tiffK true b cs D n j).getD q 0) (j - cs) = valB b R (j - cs) := by
          have hin := hc (j - cs) (by omega)
          have h2 := tiff_vals true b cs hb D n cnt hc j (by omega) (j - cs) hin
          have h3 := tiff_vals true b cs hb D n cnt hc cnt (Nat.le_refl _) (j - cs) hin
          rw [if_pos (by omega)] at h2 h3
          have h4 := undone b cs hb hcs R n cnt hc D hD m (j - cs) (by omega) hin
          rw [if_pos (by omega), h3] at h4
          exact h2.trans h4
        rw [hprev, hdj, (pow_toNat b _).1, Int.emod_add_emod, Int.sub_add_cancel, hR]
        omega
    · rw [if_neg hjc, if_neg hjc]
end Go.Proofs.Ytoiegmdlbcbgoaa.Pr
