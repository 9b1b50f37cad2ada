/-
  Plain: a heap as container/heap keeps it, over whatever order; no program is in sight here.
-/
namespace Go.Proofs.Ytchhgbhbldfofaa.Hu

section
variable {E : Type} [Inhabited E] (lt : E → E → Bool)
def at_ (h : List E) (i : Nat) : E := h.getD i default
def swp (h : List E) (i j : Nat) : List E := (h.set i (at_ h j)).set j (at_ h i)
def downF : Nat → List E → Nat → Nat → List E
  | 0, h, _, _ => h
  | k + 1, h, i, n =>
    if n ≤ 2 * i + 1 then h
    else
      let j := if 2 * i + 2 < n ∧ lt (at_ h (2 * i + 2)) (at_ h (2 * i + 1)) = true then 2 * i + 2 else 2 * i + 1
      if lt (at_ h j) (at_ h i) = true then downF k (swp h i j) j n else h
def upF : Nat → List E → Nat → List E
  | 0, h, _ => h
  | k + 1, h, j => if (j - 1) / 2 = j then h else if lt (at_ h j) (at_ h ((j - 1) / 2)) = true then upF k (swp h ((j - 1) / 2) j) ((j - 1) / 2) else h
def initF (n : Nat) : Nat → List E → List E
  | 0, h => h
  | i + 1, h => initF n i (downF lt n h i n)
theorem swp_len (h : List E) (i j : Nat) : (swp h i j).length = h.length := by simp [swp]
theorem at_swp (h : List E) (i j k : Nat) (hi : i < h.length) (hj : j < h.length) : at_ (swp h i j) k = if k = j then at_ h i else if k = i then at_ h j else at_ h k := by
  unfold swp
  show ((h.set i (at_ h j)).set j (at_ h i)).getD k default = _
  rw [List.getD_eq_getElem?_getD, List.getElem?_set]
  by_cases h1 : j = k
  · subst h1
    rw [if_pos rfl, if_pos (by simpa using hj), if_pos rfl]
    rfl
  · rw [if_neg h1, if_neg (fun e => h1 e.symm), List.getElem?_set]
    by_cases h2 : i = k
    · subst h2
      rw [if_pos rfl, if_pos hi, if_pos rfl]
      rfl
    · rw [if_neg h2, if_neg (fun e => h2 e.symm)]
      unfold at_
      rw [List.getD_eq_getElem?_getD]
theorem swp_perm (h : List E) (i j : Nat) (hi : i < h.length) (hj : j < h.length) : (swp h i j).Perm h := by
  have e : swp h i j = (h.toArray.swap i j (by simpa using hi) (by simpa using hj)).toList := by
    apply List.ext_getElem?
    intro k
    rw [show (h.toArray.swap i j (by simpa using hi) (by simpa using hj)).toList[k]? = (h.toArray.swap i j (by simpa using hi) (by simpa using hj))[k]? from by simp, Array.getElem?_swap]
    unfold swp at_
    simp only [List.getD_eq_getElem?_getD, List.getElem?_eq_getElem hi, List.getElem?_eq_getElem hj, Option.getD_some]
    rw [List.getElem?_set]
    by_cases h1 : j = k
    · subst h1
      simp [hj]
    · rw [if_neg h1, List.getElem?_set]
      by_cases h2 : i = k
      · subst h2
        simp [h1, hi]
      · simp [h1, h2]
  rw [e]
  have := Array.swap_perm (xs := h.toArray) (i := i) (j := j) (by simpa using hi) (by simpa using hj)
  simpa using this.toList
def HeapFrom (lo n : Nat) (h : List E) : Prop := ∀ k, k < n → 0 < k → lo ≤ (k - 1) / 2 → lt (at_ h k) (at_ h ((k - 1) / 2)) = false
variable (ht : ∀ a b c, lt a b = false → lt b c = false → lt a c = false) (ha : ∀ a b, lt a b = true → lt b a = false)
include ht ha
theorem downF_heap (lo n : Nat) : ∀ f (h : List E) i, n ≤ h.length → lo ≤ i → n ≤ i + f → (∀ k, k < n → 0 < k → lo ≤ (k - 1) / 2 → (k - 1) / 2 ≠ i → lt (at_ h k) (at_ h ((k - 1) / 2)) = false) →
    (∀ k, k < n → 0 < k → (k - 1) / 2 = i → 0 < i → lo ≤ (i - 1) / 2 → lt (at_ h k) (at_ h ((i - 1) / 2)) = false) →
    HeapFrom lt lo n (downF lt f h i n)
  | 0, h, i, hn, hlo, hf, h1, h2 => fun k hk hk0 hl => h1 k hk hk0 hl (by omega)
  | f + 1, h, i, hn, hlo, hf, h1, h2 => by
    rw [downF]
    by_cases hc : n ≤ 2 * i + 1
    · rw [if_pos hc]
      exact fun k hk hk0 hl => h1 k hk hk0 hl (by omega)
    rw [if_neg hc]
    obtain ⟨j, hj⟩ : ∃ j, (if 2 * i + 2 < n ∧ lt (at_ h (2 * i + 2)) (at_ h (2 * i + 1)) = true then 2 * i + 2 else 2 * i + 1) = j := ⟨_, rfl⟩
    simp only [hj]
    have hjn : j < n ∧ (j - 1) / 2 = i ∧ 0 < j ∧ i < j := by rw [← hj]; split <;> omega
    have hsib : ∀ k, k < n → 0 < k → (k - 1) / 2 = i → lt (at_ h k) (at_ h j) = false := fun k hk hk0 hki => by
      have hkk : k = 2 * i + 1 ∨ k = 2 * i + 2 := by omega
      by_cases hb : 2 * i + 2 < n ∧ lt (at_ h (2 * i + 2)) (at_ h (2 * i + 1)) = true
      · rw [if_pos hb] at hj
        subst hj
        rcases hkk with rfl | rfl
        · exact ha _ _ hb.2
        · cases hx : lt (at_ h (2 * i + 2)) (at_ h (2 * i + 2))
          · rfl
          · exact hx ▸ ha _ _ hx
      · rw [if_neg hb] at hj
        subst hj
        rcases hkk with rfl | rfl
        · cases hx : lt (at_ h (2 * i + 1)) (at_ h (2 * i + 1))
          · rfl
          · exact hx ▸ ha _ _ hx
        · cases hx : lt (at_ h (2 * i + 2)) (at_ h (2 * i + 1))
          · rfl
          · exact absurd ⟨hk, hx⟩ hb
    by_cases hlt : lt (at_ h j) (at_ h i) = true
    · rw [if_pos hlt]
      have hi' : i < h.length := by omega
      have hj' : j < h.length := by omega
      have hat := fun k => at_swp h i j k hi' hj'
      refine downF_heap lo n f (swp h i j) j (by rw [swp_len]; exact hn) (by omega) (by omega) (fun k hk hk0 hl hp => ?_) (fun k hk hk0 hp _ hl => ?_)
      · rw [hat, hat]
        by_cases hpi : (k - 1) / 2 = i
        · rw [hpi]
          rw [if_neg (show i ≠ j by omega), if_pos rfl]
          by_cases hkj : k = j
          · rw [if_pos hkj]; exact ha _ _ hlt
          · rw [if_neg hkj, if_neg (by omega)]
            exact hsib k hk hk0 hpi
        · rw [if_neg hp, if_neg hpi]
          by_cases hkj : k = j
          · exact absurd (by rw [hkj]; exact hjn.2.1) hpi
          · rw [if_neg hkj]
            by_cases hki : k = i
            · subst hki
              rw [if_pos rfl]
              exact h2 j hjn.1 hjn.2.2.1 hjn.2.1 hk0 hl
            · rw [if_neg hki]
              exact h1 k hk hk0 hl hpi
      · rw [hjn.2.1, hat, hat, if_neg (show k ≠ j by omega), if_neg (show k ≠ i by omega), if_neg (show i ≠ j by omega), if_pos rfl]
        have := h1 k hk hk0 (by omega) (by omega)
        rw [hp] at this
        exact this
    · rw [if_neg hlt]
      have hlt' : lt (at_ h j) (at_ h i) = false := by simpa using hlt
      intro k hk hk0 hl
      by_cases hp : (k - 1) / 2 = i
      · rw [hp]
        exact ht _ _ _ (hsib k hk hk0 hp) hlt'
      · exact h1 k hk hk0 hl hp
omit ht ha
theorem downF_perm (n : Nat) : ∀ f (h : List E) i, n ≤ h.length → i < h.length → (downF lt f h i n).Perm h
  | 0, h, i, hn, hi => List.Perm.refl _
  | f + 1, h, i, hn, hi => by
    rw [downF]
    split
    · exact List.Perm.refl _
    · rename_i hc
      obtain ⟨j, hj⟩ : ∃ j, (if 2 * i + 2 < n ∧ lt (at_ h (2 * i + 2)) (at_ h (2 * i + 1)) = true then 2 * i + 2 else 2 * i + 1) = j := ⟨_, rfl⟩
      simp only [hj]
      have hjn : j < n := by rw [← hj]; split <;> omega
      split
      · exact (downF_perm n f (swp h i j) j (by rw [swp_len]; exact hn) (by rw [swp_len]; omega)).trans (swp_perm h i j hi (by omega))
      · exact List.Perm.refl _
theorem downF_len (n : Nat) : ∀ f (h : List E) i, (downF lt f h i n).length = h.length
  | 0, h, i => rfl
  | f + 1, h, i => by
    rw [downF]
    split
    · rfl
    · obtain ⟨j, hj⟩ : ∃ j, (if 2 * i + 2 < n ∧ lt (at_ h (2 * i + 2)) (at_ h (2 * i + 1)) = true then 2 * i + 2 else 2 * i + 1) = j := ⟨_, rfl⟩
      simp only [hj]
      split
      · rw [downF_len, swp_len]
      · rfl
theorem downF_far (n : Nat) : ∀ f (h : List E) i, n ≤ h.length → i < n → ∀ k, n ≤ k → at_ (downF lt f h i n) k = at_ h k
  | 0, h, i, hn, hi, k, hk => rfl
  | f + 1, h, i, hn, hi, k, hk => by
    rw [downF]
    split
    · rfl
    · rename_i hc
      obtain ⟨j, hj⟩ : ∃ j, (if 2 * i + 2 < n ∧ lt (at_ h (2 * i + 2)) (at_ h (2 * i + 1)) = true then 2 * i + 2 else 2 * i + 1) = j := ⟨_, rfl⟩
      simp only [hj]
      have hjn : j < n := by rw [← hj]; split <;> omega
      split
      · rw [downF_far n f (swp h i j) j (by rw [swp_len]; exact hn) hjn k hk, at_swp h i j k (by omega) (by omega), if_neg (by omega), if_neg (by omega)]
      · rfl
include ht ha
theorem upF_heap (n : Nat) : ∀ f (h : List E) j, n ≤ h.length → j < n → j < f → (∀ k, k < n → 0 < k → k ≠ j → lt (at_ h k) (at_ h ((k - 1) / 2)) = false) →
    (∀ k, k < n → 0 < k → (k - 1) / 2 = j → 0 < j → lt (at_ h k) (at_ h ((j - 1) / 2)) = false) → HeapFrom lt 0 n (upF lt f h j)
  | 0, h, j, hn, hj, hf, h1, h2 => by omega
  | f + 1, h, j, hn, hj, hf, h1, h2 => by
    rw [upF]
    by_cases hc : (j - 1) / 2 = j
    · rw [if_pos hc]
      exact fun k hk hk0 _ => h1 k hk hk0 (by omega)
    rw [if_neg hc]
    have hj0 : 0 < j := by omega
    obtain ⟨i, hi⟩ : ∃ i, (j - 1) / 2 = i := ⟨_, rfl⟩
    rw [hi]
    rw [hi] at h2
    by_cases hlt : lt (at_ h j) (at_ h i) = true
    · rw [if_pos hlt]
      have hat := fun k => at_swp h i j k (by omega) (by omega)
      refine upF_heap n f (swp h i j) i (by rw [swp_len]; exact hn) (by omega) (by omega) (fun k hk hk0 hki => ?_) (fun k hk hk0 hp hi0 => ?_)
      · rw [hat, hat]
        by_cases hkj : k = j
        · subst hkj
          rw [if_pos rfl, hi, if_neg (by omega), if_pos rfl]
          exact ha _ _ hlt
        · rw [if_neg hkj, if_neg hki]
          by_cases hpj : (k - 1) / 2 = j
          · rw [if_pos hpj]
            exact h2 k hk hk0 hpj hj0
          · rw [if_neg hpj]
            by_cases hpi : (k - 1) / 2 = i
            · rw [if_pos hpi]
              have := h1 k hk hk0 hkj
              rw [hpi] at this
              exact ht _ _ _ this (ha _ _ hlt)
            · rw [if_neg hpi]
              exact h1 k hk hk0 hkj
      · rw [hat, hat, if_neg (show (i - 1) / 2 ≠ j by omega), if_neg (show (i - 1) / 2 ≠ i by omega)]
        have hii := h1 i (by omega) hi0 (by omega)
        by_cases hkj : k = j
        · rw [if_pos hkj]; exact hii
        · rw [if_neg hkj, if_neg (by omega)]
          have := h1 k hk hk0 hkj
          rw [hp] at this
          exact ht _ _ _ this hii
    · rw [if_neg hlt]
      have hlt' : lt (at_ h j) (at_ h i) = false := by simpa using hlt
      intro k hk hk0 _
      by_cases hkj : k = j
      · rw [hkj, hi]; exact hlt'
      · exact h1 k hk hk0 hkj
omit ht ha
theorem upF_perm : ∀ f (h : List E) j, j < h.length → (upF lt f h j).Perm h
  | 0, h, j, hj => List.Perm.refl _
  | f + 1, h, j, hj => by
    rw [upF]
    split
    · exact List.Perm.refl _
    · split
      · exact (upF_perm f _ _ (by rw [swp_len]; omega)).trans (swp_perm h _ j (by omega) hj)
      · exact List.Perm.refl _
theorem upF_len : ∀ f (h : List E) j, (upF lt f h j).length = h.length
  | 0, h, j => rfl
  | f + 1, h, j => by
    rw [upF]
    split
    · rfl
    · split
      · rw [upF_len, swp_len]
      · rfl
include ht
theorem heap_min {n : Nat} {h : List E} (hp : HeapFrom lt 0 n h) (hr : ∀ a, lt a a = false) : ∀ k, k < n → lt (at_ h k) (at_ h 0) = false := by
  intro k
  induction k using Nat.strongRecOn with
  | ind k ih =>
    intro hk
    by_cases h0 : k = 0
    · rw [h0]; exact hr _
    · exact ht _ _ _ (hp k hk (by omega) (Nat.zero_le _)) (ih _ (by omega) (by omega))
include ha
theorem initF_heap (n : Nat) : ∀ i (h : List E), n = h.length → 2 * i ≤ n → (∀ k, k < n → 0 < k → i ≤ (k - 1) / 2 → lt (at_ h k) (at_ h ((k - 1) / 2)) = false) → HeapFrom lt 0 n (initF lt n i h) ∧ (initF lt n i h).Perm h
  | 0, h, hn, _, h1 => ⟨fun k hk hk0 hl => h1 k hk hk0 hl, List.Perm.refl _⟩
  | i + 1, h, hn, hi, h1 => by
    rw [initF]
    have hd := downF_heap lt ht ha i n n h i (by omega) (Nat.le_refl _) (by omega) (fun k hk hk0 hl hp => h1 k hk hk0 (by omega)) (fun k hk hk0 hp h0 hl => by omega)
    have hpm := downF_perm lt n n h i (by omega) (by omega)
    obtain ⟨r1, r2⟩ := initF_heap n i (downF lt n h i n) (by rw [downF_len]; exact hn) (by omega) (fun k hk hk0 hl => hd k hk hk0 hl)
    exact ⟨r1, r2.trans hpm⟩
end
end Go.Proofs.Ytchhgbhbldfofaa.Hu
