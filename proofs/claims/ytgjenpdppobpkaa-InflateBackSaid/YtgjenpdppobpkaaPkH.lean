/-
  HuP, HuQ, HuA, HuB, HuC, HuR, HuD, HuE, HuF, HuG, HuH, HuI, HuJ, HuK, HuM, in one text.
-/
import Derived.Test.YtgjenpdppobpkaaPkA
import Derived.Laws.OwnMore
import Derived.IntWalk
import Derived.Laws.Rows
import Derived.Laws.Tables
import Derived.Deep.CutBlock
import Derived.Deep.DeepCutAuto
import Derived.Maps.AppendAt
/-! HuP: Plain: a heap as container/heap keeps it, over whatever order; no program is in sight here. -/
namespace Go.Proofs.Ytgjenpdppobpkaa.Hu

section
variable {E : Type} [Inhabited E] (lt : E → E → Bool)
def at_ (h : List E) (i : Nat) : E := h.getD i default
def swp (h : List E) (i j : Nat) : List E := (h.set i (at_ h j)).set j (at_ h i)
def downF : Nat → List E → Nat → Nat → List E
  | 0, h, _, _ => h
  | k + 1, h, i, n =>
    if n ≤ 2 * i + 1 then h
    else
      let j := if 2 * i + 2 < n ∧ lt (at_ h (2 * i + 2)) (at_ h (2 * i + 1)) = true then 2 * i + 2 else 2 * i + 1
      if lt (at_ h j) (at_ h i) = true then downF k (swp h i j) j n else h
def upF : Nat → List E → Nat → List E
  | 0, h, _ => h
  | k + 1, h, j => if (j - 1) / 2 = j then h else if lt (at_ h j) (at_ h ((j - 1) / 2)) = true then upF k (swp h ((j - 1) / 2) j) ((j - 1) / 2) else h
def initF (n : Nat) : Nat → List E → List E
  | 0, h => h
  | i + 1, h => initF n i (downF lt n h i n)
theorem swp_len (h : List E) (i j : Nat) : (swp h i j).length = h.length := by simp [swp]
theorem at_swp (h : List E) (i j k : Nat) (hi : i < h.length) (hj : j < h.length) : at_ (swp h i j) k = if k = j then at_ h i else if k = i then at_ h j else at_ h k := by
  unfold swp
  show ((h.set i (at_ h j)).set j (at_ h i)).getD k default = _
  rw [List.getD_eq_getElem?_getD, List.getElem?_set]
  by_cases h1 : j = k
  · subst h1
    rw [if_pos rfl, if_pos (by simpa using hj), if_pos rfl]
    rfl
  · rw [if_neg h1, if_neg (fun e => h1 e.symm), List.getElem?_set]
    by_cases h2 : i = k
    · subst h2
      rw [if_pos rfl, if_pos hi, if_pos rfl]
      rfl
    · rw [if_neg h2, if_neg (fun e => h2 e.symm)]
      unfold at_
      rw [List.getD_eq_getElem?_getD]
theorem swp_perm (h : List E) (i j : Nat) (hi : i < h.length) (hj : j < h.length) : (swp h i j).Perm h := by
  have e : swp h i j = (h.toArray.swap i j (by simpa using hi) (by simpa using hj)).toList := by
    apply List.ext_getElem?
    intro k
    rw [show (h.toArray.swap i j (by simpa using hi) (by simpa using hj)).toList[k]? = (h.toArray.swap i j (by simpa using hi) (by simpa using hj))[k]? from by simp, Array.getElem?_swap]
    unfold swp at_
    simp only [List.getD_eq_getElem?_getD, List.getElem?_eq_getElem hi, List.getElem?_eq_getElem hj, Option.getD_some]
    rw [List.getElem?_set]
    by_cases h1 : j = k
    · subst h1
      simp [hj]
    · rw [if_neg h1, List.getElem?_set]
      by_cases h2 : i = k
      · subst h2
        simp [h1, hi]
      · simp [h1, h2]
  rw [e]
  have := Array.swap_perm (xs := h.toArray) (i := i) (j := j) (by simpa using hi) (by simpa using hj)
  simpa using this.toList
def HeapFrom (lo n : Nat) (h : List E) : Prop := ∀ k, k < n → 0 < k → lo ≤ (k - 1) / 2 → lt (at_ h k) (at_ h ((k - 1) / 2)) = false
variable (ht : ∀ a b c, lt a b = false → lt b c = false → lt a c = false) (ha : ∀ a b, lt a b = true → lt b a = false)
include ht ha
theorem downF_heap (lo n : Nat) : ∀ f (h : List E) i, n ≤ h.length → lo ≤ i → n ≤ i + f → (∀ k, k < n → 0 < k → lo ≤ (k - 1) / 2 → (k - 1) / 2 ≠ i → lt (at_ h k) (at_ h ((k - 1) / 2)) = false) →
    (∀ k, k < n → 0 < k → (k - 1) / 2 = i → 0 < i → lo ≤ (i - 1) / 2 → lt (at_ h k) (at_ h ((i - 1) / 2)) = false) →
    HeapFrom lt lo n (downF lt f h i n)
  | 0, h, i, hn, hlo, hf, h1, h2 => fun k hk hk0 hl => h1 k hk hk0 hl (by omega)
  | f + 1, h, i, hn, hlo, hf, h1, h2 => by
    rw [downF]
    by_cases hc : n ≤ 2 * i + 1
    · rw [if_pos hc]
      exact fun k hk hk0 hl => h1 k hk hk0 hl (by omega)
    rw [if_neg hc]
    obtain ⟨j, hj⟩ : ∃ j, (if 2 * i + 2 < n ∧ lt (at_ h (2 * i + 2)) (at_ h (2 * i + 1)) = true then 2 * i + 2 else 2 * i + 1) = j := ⟨_, rfl⟩
    simp only [hj]
    have hjn : j < n ∧ (j - 1) / 2 = i ∧ 0 < j ∧ i < j := by rw [← hj]; split <;> omega
    have hsib : ∀ k, k < n → 0 < k → (k - 1) / 2 = i → lt (at_ h k) (at_ h j) = false := fun k hk hk0 hki => by
      have hkk : k = 2 * i + 1 ∨ k = 2 * i + 2 := by omega
      by_cases hb : 2 * i + 2 < n ∧ lt (at_ h (2 * i + 2)) (at_ h (2 * i + 1)) = true
      · rw [if_pos hb] at hj
        subst hj
        rcases hkk with rfl | rfl
        · exact ha _ _ hb.2
        · cases hx : lt (at_ h (2 * i + 2)) (at_ h (2 * i + 2))
          · rfl
          · exact hx ▸ ha _ _ hx
      · rw [if_neg hb] at hj
        subst hj
        rcases hkk with rfl | rfl
        · cases hx : lt (at_ h (2 * i + 1)) (at_ h (2 * i + 1))
          · rfl
          · exact hx ▸ ha _ _ hx
        · cases hx : lt (at_ h (2 * i + 2)) (at_ h (2 * i + 1))
          · rfl
          · exact absurd ⟨hk, hx⟩ hb
    by_cases hlt : lt (at_ h j) (at_ h i) = true
    · rw [if_pos hlt]
      have hi' : i < h.length := by omega
      have hj' : j < h.length := by omega
      have hat := fun k => at_swp h i j k hi' hj'
      refine downF_heap lo n f (swp h i j) j (by rw [swp_len]; exact hn) (by omega) (by omega) (fun k hk hk0 hl hp => ?_) (fun k hk hk0 hp _ hl => ?_)
      · rw [hat, hat]
        by_cases hpi : (k - 1) / 2 = i
        · rw [hpi]
          rw [if_neg (show i ≠ j by omega), if_pos rfl]
          by_cases hkj : k = j
          · rw [if_pos hkj]; exact ha _ _ hlt
          · rw [if_neg hkj, if_neg (by omega)]
            exact hsib k hk hk0 hpi
        · rw [if_neg hp, if_neg hpi]
          by_cases hkj : k = j
          · exact absurd (by rw [hkj]; exact hjn.2.1) hpi
          · rw [if_neg hkj]
            by_cases hki : k = i
            · subst hki
              rw [if_pos rfl]
              exact h2 j hjn.1 hjn.2.2.1 hjn.2.1 hk0 hl
            · rw [if_neg hki]
              exact h1 k hk hk0 hl hpi
      · rw [hjn.2.1, hat, hat, if_neg (show k ≠ j by omega), if_neg (show k ≠ i by omega), if_neg (show i ≠ j by omega), if_pos rfl]
        have := h1 k hk hk0 (by omega) (by omega)
        rw [hp] at this
        exact this
    · rw [if_neg hlt]
      have hlt' : lt (at_ h j) (at_ h i) = false := by simpa using hlt
      intro k hk hk0 hl
      by_cases hp : (k - 1) / 2 = i
      · rw [hp]
        exact ht _ _ _ (hsib k hk hk0 hp) hlt'
      · exact h1 k hk hk0 hl hp
omit ht ha
theorem downF_perm (n : Nat) : ∀ f (h : List E) i, n ≤ h.length → i < h.length → (downF lt f h i n).Perm h
  | 0, h, i, hn, hi => List.Perm.refl _
  | f + 1, h, i, hn, hi => by
    rw [downF]
    split
    · exact List.Perm.refl _
    · rename_i hc
      obtain ⟨j, hj⟩ : ∃ j, (if 2 * i + 2 < n ∧ lt (at_ h (2 * i + 2)) (at_ h (2 * i + 1)) = true then 2 * i + 2 else 2 * i + 1) = j := ⟨_, rfl⟩
      simp only [hj]
      have hjn : j < n := by rw [← hj]; split <;> omega
      split
      · exact (downF_perm n f (swp h i j) j (by rw [swp_len]; exact hn) (by rw [swp_len]; omega)).trans (swp_perm h i j hi (by omega))
      · exact List.Perm.refl _
theorem downF_len (n : Nat) : ∀ f (h : List E) i, (downF lt f h i n).length = h.length
  | 0, h, i => rfl
  | f + 1, h, i => by
    rw [downF]
    split
    · rfl
    · obtain ⟨j, hj⟩ : ∃ j, (if 2 * i + 2 < n ∧ lt (at_ h (2 * i + 2)) (at_ h (2 * i + 1)) = true then 2 * i + 2 else 2 * i + 1) = j := ⟨_, rfl⟩
      simp only [hj]
      split
      · rw [downF_len, swp_len]
      · rfl
theorem downF_far (n : Nat) : ∀ f (h : List E) i, n ≤ h.length → i < n → ∀ k, n ≤ k → at_ (downF lt f h i n) k = at_ h k
  | 0, h, i, hn, hi, k, hk => rfl
  | f + 1, h, i, hn, hi, k, hk => by
    rw [downF]
    split
    · rfl
    · rename_i hc
      obtain ⟨j, hj⟩ : ∃ j, (if 2 * i + 2 < n ∧ lt (at_ h (2 * i + 2)) (at_ h (2 * i + 1)) = true then 2 * i + 2 else 2 * i + 1) = j := ⟨_, rfl⟩
      simp only [hj]
      have hjn : j < n := by rw [← hj]; split <;> omega
      split
      · rw [downF_far n f (swp h i j) j (by rw [swp_len]; exact hn) hjn k hk, at_swp h i j k (by omega) (by omega), if_neg (by omega), if_neg (by omega)]
      · rfl
include ht ha
theorem upF_heap (n : Nat) : ∀ f (h : List E) j, n ≤ h.length → j < n → j < f → (∀ k, k < n → 0 < k → k ≠ j → lt (at_ h k) (at_ h ((k - 1) / 2)) = false) →
    (∀ k, k < n → 0 < k → (k - 1) / 2 = j → 0 < j → lt (at_ h k) (at_ h ((j - 1) / 2)) = false) → HeapFrom lt 0 n (upF lt f h j)
  | 0, h, j, hn, hj, hf, h1, h2 => by omega
  | f + 1, h, j, hn, hj, hf, h1, h2 => by
    rw [upF]
    by_cases hc : (j - 1) / 2 = j
    · rw [if_pos hc]
      exact fun k hk hk0 _ => h1 k hk hk0 (by omega)
    rw [if_neg hc]
    have hj0 : 0 < j := by omega
    obtain ⟨i, hi⟩ : ∃ i, (j - 1) / 2 = i := ⟨_, rfl⟩
    rw [hi]
    rw [hi] at h2
    by_cases hlt : lt (at_ h j) (at_ h i) = true
    · rw [if_pos hlt]
      have hat := fun k => at_swp h i j k (by omega) (by omega)
      refine upF_heap n f (swp h i j) i (by rw [swp_len]; exact hn) (by omega) (by omega) (fun k hk hk0 hki => ?_) (fun k hk hk0 hp hi0 => ?_)
      · rw [hat, hat]
        by_cases hkj : k = j
        · subst hkj
          rw [if_pos rfl, hi, if_neg (by omega), if_pos rfl]
          exact ha _ _ hlt
        · rw [if_neg hkj, if_neg hki]
          by_cases hpj : (k - 1) / 2 = j
          · rw [if_pos hpj]
            exact h2 k hk hk0 hpj hj0
          · rw [if_neg hpj]
            by_cases hpi : (k - 1) / 2 = i
            · rw [if_pos hpi]
              have := h1 k hk hk0 hkj
              rw [hpi] at this
              exact ht _ _ _ this (ha _ _ hlt)
            · rw [if_neg hpi]
              exact h1 k hk hk0 hkj
      · rw [hat, hat, if_neg (show (i - 1) / 2 ≠ j by omega), if_neg (show (i - 1) / 2 ≠ i by omega)]
        have hii := h1 i (by omega) hi0 (by omega)
        by_cases hkj : k = j
        · rw [if_pos hkj]; exact hii
        · rw [if_neg hkj, if_neg (by omega)]
          have := h1 k hk hk0 hkj
          rw [hp] at this
          exact ht _ _ _ this hii
    · rw [if_neg hlt]
      have hlt' : lt (at_ h j) (at_ h i) = false := by simpa using hlt
      intro k hk hk0 _
      by_cases hkj : k = j
      · rw [hkj, hi]; exact hlt'
      · exact h1 k hk hk0 hkj
omit ht ha
theorem upF_perm : ∀ f (h : List E) j, j < h.length → (upF lt f h j).Perm h
  | 0, h, j, hj => List.Perm.refl _
  | f + 1, h, j, hj => by
    rw [upF]
    split
    · exact List.Perm.refl _
    · split
      · exact (upF_perm f _ _ (by rw [swp_len]; omega)).trans (swp_perm h _ j (by omega) hj)
      · exact List.Perm.refl _
theorem upF_len : ∀ f (h : List E) j, (upF lt f h j).length = h.length
  | 0, h, j => rfl
  | f + 1, h, j => by
    rw [upF]
    split
    · rfl
    · split
      · rw [upF_len, swp_len]
      · rfl
include ht
theorem heap_min {n : Nat} {h : List E} (hp : HeapFrom lt 0 n h) (hr : ∀ a, lt a a = false) : ∀ k, k < n → lt (at_ h k) (at_ h 0) = false := by
  intro k
  induction k using Nat.strongRecOn with
  | ind k ih =>
    intro hk
    by_cases h0 : k = 0
    · rw [h0]; exact hr _
    · exact ht _ _ _ (hp k hk (by omega) (Nat.zero_le _)) (ih _ (by omega) (by omega))
include ha
theorem initF_heap (n : Nat) : ∀ i (h : List E), n = h.length → 2 * i ≤ n → (∀ k, k < n → 0 < k → i ≤ (k - 1) / 2 → lt (at_ h k) (at_ h ((k - 1) / 2)) = false) → HeapFrom lt 0 n (initF lt n i h) ∧ (initF lt n i h).Perm h
  | 0, h, hn, _, h1 => ⟨fun k hk hk0 hl => h1 k hk hk0 hl, List.Perm.refl _⟩
  | i + 1, h, hn, hi, h1 => by
    rw [initF]
    have hd := downF_heap lt ht ha i n n h i (by omega) (Nat.le_refl _) (by omega) (fun k hk hk0 hl hp => h1 k hk hk0 (by omega)) (fun k hk hk0 hp h0 hl => by omega)
    have hpm := downF_perm lt n n h i (by omega) (by omega)
    obtain ⟨r1, r2⟩ := initF_heap n i (downF lt n h i n) (by rw [downF_len]; exact hn) (by omega) (fun k hk hk0 hl => hd k hk hk0 hl)
    exact ⟨r1, r2.trans hpm⟩
end
end Go.Proofs.Ytgjenpdppobpkaa.Hu

/-! HuQ: Plain: nodes of a Huffman tree and their order. No program is in sight here. -/
namespace Go.Proofs.Ytgjenpdppobpkaa.Hu

inductive Nd where
  | leaf (c : Int) (s : Nat)
  | join (c : Int) (g : Nat) (a b : Nd)
instance : Inhabited Nd := ⟨.leaf 0 0⟩
namespace Nd
def cnt : Nd → Int
  | leaf c _ => c
  | join c _ _ _ => c
def mk : Nd → Bool
  | leaf _ _ => false
  | join _ _ _ _ => true
def age : Nd → Nat
  | leaf _ s => s
  | join _ g _ _ => g
end Nd
def cmpZ (a b : Int) : Int := if a < b then -1 else if b < a then 1 else 0
def b2i (b : Bool) : Int := if b then 1 else 0
def or3 (a b c : Int) : Int := if a ≠ 0 then a else if b ≠ 0 then b else c
def ordZ (x y : Nd) : Int := or3 (cmpZ x.cnt y.cnt) (cmpZ (b2i x.mk) (b2i y.mk)) (cmpZ x.age y.age)
def ndLt (x y : Nd) : Bool := decide (ordZ x y < 0)
theorem cmpZ_cases (a b : Int) : (a < b ∧ cmpZ a b = -1) ∨ (b < a ∧ cmpZ a b = 1) ∨ (a = b ∧ cmpZ a b = 0) := by
  unfold cmpZ
  by_cases h : a < b
  · exact .inl ⟨h, if_pos h⟩
  · by_cases h2 : b < a
    · exact .inr (.inl ⟨h2, by rw [if_neg h, if_pos h2]⟩)
    · exact .inr (.inr ⟨by omega, by rw [if_neg h, if_neg h2]⟩)
/-- the order, told by numbers -/
theorem ndLt_iff (x y : Nd) : ndLt x y = true ↔ x.cnt < y.cnt ∨ (x.cnt = y.cnt ∧ (b2i x.mk < b2i y.mk ∨ (b2i x.mk = b2i y.mk ∧ x.age < y.age))) := by
  unfold ndLt ordZ or3
  rw [decide_eq_true_iff]
  rcases cmpZ_cases x.cnt y.cnt with ⟨h1, h2⟩ | ⟨h1, h2⟩ | ⟨h1, h2⟩ <;> rcases cmpZ_cases (b2i x.mk) (b2i y.mk) with ⟨h3, h4⟩ | ⟨h3, h4⟩ | ⟨h3, h4⟩ <;> rcases cmpZ_cases x.age y.age with ⟨h5, h6⟩ | ⟨h5, h6⟩ | ⟨h5, h6⟩ <;>
    rw [h2, h4, h6] <;> simp <;> omega
theorem ndLt_false (x y : Nd) : ndLt x y = false ↔ ¬ (x.cnt < y.cnt ∨ (x.cnt = y.cnt ∧ (b2i x.mk < b2i y.mk ∨ (b2i x.mk = b2i y.mk ∧ x.age < y.age)))) := by
  rw [← ndLt_iff]; simp
theorem ndLt_trans (a b c : Nd) (h1 : ndLt a b = false) (h2 : ndLt b c = false) : ndLt a c = false := by
  rw [ndLt_false] at *; omega
theorem ndLt_asymm (a b : Nd) (h : ndLt a b = true) : ndLt b a = false := by
  rw [ndLt_iff] at h; rw [ndLt_false]; omega
theorem ndLt_irr (a : Nd) : ndLt a a = false := by rw [ndLt_false]; omega
theorem ndLt_tr (a b c : Nd) (h1 : ndLt a b = true) (h2 : ndLt b c = true) : ndLt a c = true := by
  rw [ndLt_iff] at *; omega
/-- the order of what stands in a heap: an address, a node -/
abbrev Pn := Nat × Nd
def pnLt (x y : Pn) : Bool := ndLt x.2 y.2
theorem pnLt_trans (a b c : Pn) (h1 : pnLt a b = false) (h2 : pnLt b c = false) : pnLt a c = false := ndLt_trans _ _ _ h1 h2
theorem pnLt_asymm (a b : Pn) (h : pnLt a b = true) : pnLt b a = false := ndLt_asymm _ _ h
end Go.Proofs.Ytgjenpdppobpkaa.Hu

/-! HuA: huff: cmp.Compare, cmp.Or at int; the nodes' order walked. -/
namespace Go.Proofs.Ytgjenpdppobpkaa.Hu
open Go.RowKit

set_option maxHeartbeats 2000000 in
theorem isNaN_walk (a : Int) (w : World) : Calls Try.prog 90 #[.int .i64 a] w fun e w' => e = .returned (.bool false) ∧ w = w' := by
  go_enter Try.func90, Try.ntmps90
  go_wp2
  go_ret
  exact ⟨rfl, rfl⟩
set_option maxRecDepth 100000 in
set_option maxHeartbeats 4000000 in
theorem cmp_walk (a b : Int) (w : World) : Calls Try.prog 89 #[.int .i64 a, .int .i64 b] w fun e w' => e = .returned (.int .i64 (cmpZ a b)) ∧ w = w' := by
  rcases cmpZ_cases a b with ⟨h, e⟩ | ⟨h, e⟩ | ⟨h, e⟩
  · rw [e]
    clear e
    go_enter Try.func89, Try.ntmps89
    go_wp2_with fail
    refine (isNaN_walk _ _).mono ?_; rintro e w1 ⟨rfl, rfl⟩
    go_wp2_with fail
    refine (isNaN_walk _ _).mono ?_; rintro e w1 ⟨rfl, rfl⟩
    go_wp2_with fail
    go_ret
    exact ⟨rfl, rfl⟩
  · rw [e]
    have h' : ¬ a < b := by omega
    clear e
    go_enter Try.func89, Try.ntmps89
    go_wp2_with fail
    refine (isNaN_walk _ _).mono ?_; rintro e w1 ⟨rfl, rfl⟩
    go_wp2_with fail
    refine (isNaN_walk _ _).mono ?_; rintro e w1 ⟨rfl, rfl⟩
    go_wp2_with fail
    go_ret
    exact ⟨rfl, rfl⟩
  · rw [e]
    subst h
    have h' : ¬ a < a := by omega
    clear e
    go_enter Try.func89, Try.ntmps89
    go_wp2_with fail
    refine (isNaN_walk _ _).mono ?_; rintro e w1 ⟨rfl, rfl⟩
    go_wp2_with fail
    refine (isNaN_walk _ _).mono ?_; rintro e w1 ⟨rfl, rfl⟩
    go_wp2_with fail
    go_ret
    exact ⟨rfl, rfl⟩
/-! ### nodes in memory -/
abbrev ptr (a : Nat) : Value := .pointer (some ⟨a, 0, none⟩)
/-! ### the heap's row -/
def pv (p : Pn) : Value := ptr p.1
theorem at_get {H : List Pn} {i : Nat} (h : i < H.length) : H[i]? = some (at_ H i) := by
  unfold at_
  rw [List.getD_eq_getElem?_getD, List.getElem?_eq_getElem h]
  rfl
end Go.Proofs.Ytgjenpdppobpkaa.Hu

/-! HuB: huff: the heap's methods walked. -/
namespace Go.Proofs.Ytgjenpdppobpkaa.Hu
open Go.RowKit

theorem swp_map (H : List Pn) (i j : Nat) : (swp H i j).map pv = ((H.map pv).set i (pv (at_ H j))).set j (pv (at_ H i)) := by
  unfold swp
  rw [List.map_set, List.map_set]
theorem at_mem {H : List Pn} {i : Nat} (h : i < H.length) : at_ H i ∈ H := List.mem_of_getElem? (at_get h)
theorem mem_swp {H : List Pn} {i j : Nat} (hi : i < H.length) (hj : j < H.length) {p : Pn} (h : p ∈ swp H i j) : p ∈ H := by
  unfold swp at h
  rcases List.mem_or_eq_of_mem_set h with h | h
  · rcases List.mem_or_eq_of_mem_set h with h | h
    · exact h
    · rw [h]; exact at_mem hj
  · rw [h]; exact at_mem hi
/-! ### methods of *nodes, called through heap.Interface -/
theorem run_wrapNil (ts : Array TypeId) (t : TypeId) (a : Addr) (x y : String) (w : World) : (Builtin.ssaWrapNilChk_ ts t #[.pointer (some a), strVal x, strVal y]).run Try.prog w = .ok (.pointer (some a)) w := rfl
end Go.Proofs.Ytgjenpdppobpkaa.Hu

/-! HuC: container/heap over huff's nodes walked. -/
namespace Go.Proofs.Ytgjenpdppobpkaa.Hu
open Go.RowKit

theorem downF_stop {E : Type} [Inhabited E] (lt : E → E → Bool) (n f i : Nat) (H : List E) (h : n ≤ 2 * i + 1) : downF lt f H i n = H := by
  cases f
  · rfl
  · rw [downF, if_pos h]
end Go.Proofs.Ytgjenpdppobpkaa.Hu

/-! HuR: Plain: the heap's pops and pushes as a sorted list; the merging of nodes; the depths. No program is in sight here. -/
namespace Go.Proofs.Ytgjenpdppobpkaa.Hu

def insS (x : Nd) : List Nd → List Nd
  | [] => [x]
  | y :: L => if ndLt x y = true then x :: y :: L else y :: insS x L
def srtS : List Nd → List Nd
  | [] => []
  | x :: L => insS x (srtS L)
def mrgF : Nat → Nat → List Nd → List Nd
  | k + 1, g, a :: b :: L => mrgF k (g + 1) (insS (.join (a.cnt + b.cnt) g a b) L)
  | _, _, L => L
def setD : Nd → Nat → List Int → List Int
  | .leaf _ s, d, L => L.set s d
  | .join _ _ a b, d, L => setD b (d + 1) (setD a (d + 1) L)
def leavesF : List Int → Nat → List Nd
  | [], _ => []
  | c :: l, k => if 0 < c then .leaf c k :: leavesF l (k + 1) else leavesF l (k + 1)
def Srt (L : List Nd) : Prop := L.Pairwise (fun x y => ndLt x y = true)
/-- one of two comes first -/
def Tri (x y : Nd) : Prop := ndLt x y = true ∨ ndLt y x = true
theorem insS_perm (x : Nd) : ∀ L, (insS x L).Perm (x :: L)
  | [] => List.Perm.refl _
  | y :: L => by
    rw [insS]
    split
    · exact List.Perm.refl _
    · exact ((insS_perm x L).cons y).trans (List.Perm.swap x y L)
theorem insS_len (x : Nd) (L : List Nd) : (insS x L).length = L.length + 1 := (insS_perm x L).length_eq
theorem srtS_perm : ∀ L, (srtS L).Perm L
  | [] => List.Perm.refl _
  | x :: L => (insS_perm x (srtS L)).trans ((srtS_perm L).cons x)
theorem insS_srt (x : Nd) : ∀ L, Srt L → (∀ y ∈ L, Tri x y) → Srt (insS x L)
  | [], _, _ => List.pairwise_singleton _ _
  | y :: L, h, ht => by
    obtain ⟨h1, h2⟩ := List.pairwise_cons.1 h
    rw [insS]
    split
    · rename_i hlt
      refine List.pairwise_cons.2 ⟨fun z hz => ?_, h⟩
      rcases List.mem_cons.1 hz with rfl | hz
      · exact hlt
      · exact ndLt_tr _ _ _ hlt (h1 z hz)
    · rename_i hlt
      have hyx : ndLt y x = true := (ht y (by simp)).resolve_left hlt
      refine List.pairwise_cons.2 ⟨fun z hz => ?_, insS_srt x L h2 (fun z hz => ht z (by simp [hz]))⟩
      rcases List.mem_cons.1 ((insS_perm x L).mem_iff.1 hz) with rfl | hz
      · exact hyx
      · exact h1 z hz
theorem srtS_srt : ∀ L : List Nd, L.Pairwise Tri → Srt (srtS L)
  | [], _ => List.Pairwise.nil
  | x :: L, h => by
    obtain ⟨h1, h2⟩ := List.pairwise_cons.1 h
    exact insS_srt x _ (srtS_srt L h2) (fun y hy => h1 y ((srtS_perm L).mem_iff.1 hy))
/-- a heap that holds the nodes of a sorted list -/
structure HpS (H : List Pn) (L : List Nd) : Prop where
  heap : HeapFrom pnLt 0 H.length H
  perm : (H.map (·.2)).Perm L
  srt : Srt L
theorem HpS.len {H : List Pn} {L : List Nd} (h : HpS H L) : H.length = L.length := by have := h.perm.length_eq; simpa using this
theorem at_mem2 {H : List Pn} {i : Nat} (h : i < H.length) : at_ H i ∈ H := by
  unfold at_
  rw [List.getD_eq_getElem?_getD, List.getElem?_eq_getElem h]
  exact List.getElem_mem h
theorem mem_at {H : List Pn} {p : Pn} (h : p ∈ H) : ∃ i, i < H.length ∧ at_ H i = p := by
  obtain ⟨i, hi, rfl⟩ := List.getElem_of_mem h
  refine ⟨i, hi, ?_⟩
  unfold at_
  rw [List.getD_eq_getElem?_getD, List.getElem?_eq_getElem hi]
  rfl
theorem at_take {H : List Pn} {m i : Nat} (h : i < m) : at_ (H.take m) i = at_ H i := by
  unfold at_
  rw [List.getD_eq_getElem?_getD, List.getD_eq_getElem?_getD, List.getElem?_take_of_lt h]
theorem split_last {H : List Pn} (h : 0 < H.length) : H = H.take (H.length - 1) ++ [at_ H (H.length - 1)] := by
  have e := List.take_succ_eq_append_getElem (l := H) (i := H.length - 1) (by omega)
  rw [show H.length - 1 + 1 = H.length by omega, List.take_length] at e
  unfold at_
  rw [List.getD_eq_getElem?_getD, List.getElem?_eq_getElem (by omega)]
  exact e
def popL (H : List Pn) : List Pn := (downF pnLt (H.length - 1) (swp H 0 (H.length - 1)) 0 (H.length - 1)).take (H.length - 1)
def pushL (H : List Pn) (p : Pn) : List Pn := upF pnLt (H.length + 1) (H ++ [p]) H.length
theorem pop_last (H : List Pn) (h0 : 0 < H.length) : at_ (downF pnLt (H.length - 1) (swp H 0 (H.length - 1)) 0 (H.length - 1)) (H.length - 1) = at_ H 0 := by
  by_cases h1 : H.length - 1 = 0
  · have e : downF pnLt (H.length - 1) (swp H 0 (H.length - 1)) 0 (H.length - 1) = swp H 0 (H.length - 1) := by rw [h1]; rfl
    rw [e, at_swp H 0 (H.length - 1) _ h0 (by omega), if_pos rfl]
  · rw [downF_far pnLt (H.length - 1) _ _ 0 (by rw [swp_len]; omega) (by omega) _ (Nat.le_refl _), at_swp H 0 (H.length - 1) _ h0 (by omega), if_pos rfl]
theorem popL_len (H : List Pn) : (popL H).length = H.length - 1 := by unfold popL; rw [List.length_take, downF_len, swp_len]; omega
theorem popL_perm (H : List Pn) (h0 : 0 < H.length) : H.Perm (at_ H 0 :: popL H) := by
  have hl : (downF pnLt (H.length - 1) (swp H 0 (H.length - 1)) 0 (H.length - 1)).length = H.length := by rw [downF_len, swp_len]
  have e := split_last (H := downF pnLt (H.length - 1) (swp H 0 (H.length - 1)) 0 (H.length - 1)) (by omega)
  rw [hl, pop_last H h0] at e
  have p1 := downF_perm pnLt (H.length - 1) (H.length - 1) (swp H 0 (H.length - 1)) 0 (by rw [swp_len]; omega) (by rw [swp_len]; omega)
  have p2 := swp_perm H 0 (H.length - 1) h0 (by omega)
  have p3 := (p1.trans p2).symm
  rw [e] at p3
  exact p3.trans List.perm_append_comm
theorem HpS.pop {H : List Pn} {a : Nd} {L : List Nd} (h : HpS H (a :: L)) : (at_ H 0).2 = a ∧ HpS (popL H) L := by
  have hl := h.len
  have h0 : 0 < H.length := by rw [hl]; simp
  have hmin := heap_min pnLt pnLt_trans h.heap (fun p => ndLt_irr p.2)
  have ha : (at_ H 0).2 = a := by
    have hmem : (at_ H 0).2 ∈ a :: L := h.perm.mem_iff.1 (List.mem_map.2 ⟨_, at_mem2 h0, rfl⟩)
    rcases List.mem_cons.1 hmem with e | hm
    · exact e
    · have hlt : ndLt a (at_ H 0).2 = true := (List.pairwise_cons.1 h.srt).1 _ hm
      obtain ⟨p, hp, hpa⟩ := List.mem_map.1 (h.perm.mem_iff.2 (List.mem_cons_self (a := a) (l := L)))
      obtain ⟨i, hi, hip⟩ := mem_at hp
      have := hmin i hi
      unfold pnLt at this
      rw [hip, hpa, hlt] at this
      cases this
  refine ⟨ha, ?_, ?_, (List.pairwise_cons.1 h.srt).2⟩
  · rw [popL_len]
    have hd : HeapFrom pnLt 0 (H.length - 1) (downF pnLt (H.length - 1) (swp H 0 (H.length - 1)) 0 (H.length - 1)) := by
      refine downF_heap pnLt pnLt_trans pnLt_asymm 0 (H.length - 1) (H.length - 1) (swp H 0 (H.length - 1)) 0 (by rw [swp_len]; omega) (Nat.zero_le _) (by omega) (fun k hk hk0 _ hp => ?_) (fun k hk hk0 hp h0' _ => by omega)
      have hat := fun k => at_swp H 0 (H.length - 1) k h0 (by omega)
      rw [hat, hat, if_neg (by omega), if_neg (by omega), if_neg (by omega), if_neg (by omega)]
      exact h.heap k (by omega) hk0 (Nat.zero_le _)
    intro k hk hk0 _
    unfold popL
    rw [at_take hk, at_take (by omega)]
    exact hd k hk hk0 (Nat.zero_le _)
  · have p := ((popL_perm H h0).map (·.2)).symm.trans h.perm
    rw [List.map_cons, ha] at p
    exact p.cons_inv
theorem pushL_len (H : List Pn) (p : Pn) : (pushL H p).length = H.length + 1 := by unfold pushL; rw [upF_len]; simp
theorem at_app {H : List Pn} {p : Pn} {i : Nat} (h : i < H.length) : at_ (H ++ [p]) i = at_ H i := by
  unfold at_
  rw [List.getD_eq_getElem?_getD, List.getD_eq_getElem?_getD, List.getElem?_append_left h]
theorem HpS.push {H : List Pn} {L : List Nd} (h : HpS H L) (a : Nat) (x : Nd) (ht : ∀ y ∈ L, Tri x y) : HpS (pushL H (a, x)) (insS x L) := by
  refine ⟨?_, ?_, insS_srt x L h.srt ht⟩
  · rw [pushL_len]
    refine upF_heap pnLt pnLt_trans pnLt_asymm (H.length + 1) (H.length + 1) (H ++ [(a, x)]) H.length (by simp) (by omega) (by omega) (fun k hk hk0 hne => ?_) (fun k hk hk0 hp h0 => by omega)
    rw [at_app (by omega), at_app (by omega)]
    exact h.heap k (by omega) hk0 (Nat.zero_le _)
  · have p1 : (pushL H (a, x)).Perm (H ++ [(a, x)]) := upF_perm pnLt _ _ _ (by simp)
    have p2 : ((pushL H (a, x)).map (·.2)).Perm (x :: H.map (·.2)) := (p1.map (·.2)).trans (by rw [List.map_append]; exact List.perm_append_comm)
    exact (p2.trans (h.perm.cons x)).trans (insS_perm x L).symm
theorem HpS.init {H : List Pn} {L : List Nd} (h : H.map (·.2) = L) (ht : L.Pairwise Tri) : HpS (initF pnLt H.length (H.length / 2) H) (srtS L) := by
  obtain ⟨r1, r2⟩ := initF_heap pnLt pnLt_trans pnLt_asymm H.length (H.length / 2) H rfl (by omega) (fun k hk hk0 hl => by omega)
  have hl := r2.length_eq
  refine ⟨by rw [hl]; exact r1, ((r2.map (·.2)).trans (by rw [h])).trans (srtS_perm L).symm, srtS_srt L ht⟩
/-! ### leaves, ages -/
theorem leavesF_mem : ∀ (l : List Int) (k : Nat) (x : Nd), x ∈ leavesF l k → ∃ c s, x = .leaf c s ∧ k ≤ s ∧ s < k + l.length ∧ 0 < c ∧ l[s - k]? = some c
  | [], k, x, h => by simp [leavesF] at h
  | c :: l, k, x, h => by
    have step : x ∈ leavesF l (k + 1) → ∃ c' s, x = .leaf c' s ∧ k ≤ s ∧ s < k + (c :: l).length ∧ 0 < c' ∧ (c :: l)[s - k]? = some c' := fun h => by
      obtain ⟨c', s, e, h1, h2, h3, h4⟩ := leavesF_mem l (k + 1) x h
      refine ⟨c', s, e, by omega, by simp; omega, h3, ?_⟩
      rw [show s - k = (s - (k + 1)) + 1 by omega, List.getElem?_cons_succ]
      exact h4
    rw [leavesF] at h
    split at h
    · rename_i hc
      rcases List.mem_cons.1 h with e | h
      · exact ⟨c, k, e, Nat.le_refl _, by simp, hc, by simp⟩
      · exact step h
    · exact step h
theorem leavesF_tri : ∀ (l : List Int) (k : Nat), (leavesF l k).Pairwise Tri
  | [], k => List.Pairwise.nil
  | c :: l, k => by
    rw [leavesF]
    split
    · refine List.pairwise_cons.2 ⟨fun y hy => ?_, leavesF_tri l (k + 1)⟩
      obtain ⟨c', s, rfl, h1, _, _, _⟩ := leavesF_mem l (k + 1) y hy
      unfold Tri
      rw [ndLt_iff, ndLt_iff]
      simp [Nd.cnt, Nd.mk, Nd.age]
      omega
    · exact leavesF_tri l (k + 1)
theorem leavesF_len : ∀ (l : List Int) (k : Nat), (leavesF l k).length ≤ l.length
  | [], k => Nat.le_refl _
  | c :: l, k => by
    rw [leavesF]
    have := leavesF_len l (k + 1)
    split <;> simp <;> omega
/-- every node that was made is younger than g -/
def Young (g : Nat) (L : List Nd) : Prop := ∀ x ∈ L, x.mk = true → x.age < g
theorem tri_join {g : Nat} {c : Int} {a b : Nd} {L : List Nd} (h : Young g L) : ∀ y ∈ L, Tri (.join c g a b) y := by
  intro y hy
  unfold Tri
  rw [ndLt_iff, ndLt_iff]
  cases y with
  | leaf c' s => simp [Nd.cnt, Nd.mk, Nd.age, b2i]; omega
  | join c' g' x z =>
    have := h _ hy rfl
    simp [Nd.cnt, Nd.mk, Nd.age] at this ⊢
    omega
theorem Young.step {g : Nat} {a b : Nd} {c : Int} {L : List Nd} (h : Young g (a :: b :: L)) : Young (g + 1) (insS (.join c g a b) L) := by
  intro x hx hm
  rcases List.mem_cons.1 ((insS_perm _ L).mem_iff.1 hx) with rfl | hx
  · simp [Nd.age]
  · have := h x (by simp [hx]) hm
    omega
end Go.Proofs.Ytgjenpdppobpkaa.Hu

/-! HuD: huff: Pop and Push of nodes, container/heap's Pop and Push walked. -/
namespace Go.Proofs.Ytgjenpdppobpkaa.Hu
open Go.RowKit

theorem row_take {w : World} {e : TypeId} {g n cap m : Nat} {xs : List Value} (h : w.ownsRow 0 e 1 (.slice (some ⟨g, 0, none⟩) n cap) n xs) (hm : m ≤ n) : w.ownsRow 0 e 1 (.slice (some ⟨g, 0, none⟩) m cap) m (xs.take m) := by
  obtain ⟨cur, hg, h1, h2, h3, ht⟩ := ownsRow_open h
  have hl := h.1
  refine ⟨by rw [List.length_take]; omega, .inr ⟨g, cap, cur, rfl, Nat.zero_le _, hg, by omega, h2, by simpa using h3, ?_⟩⟩
  rw [← ht, Nat.mul_one, List.take_take, Nat.min_eq_left hm]
theorem mem_take {H : List Pn} {m : Nat} {p : Pn} (h : p ∈ H.take m) : p ∈ H := List.mem_of_mem_take h
/-! ### container/heap.Pop, Push -/
end Go.Proofs.Ytgjenpdppobpkaa.Hu

/-! HuE: huff: a row of ints; deepen walked. -/
namespace Go.Proofs.Ytgjenpdppobpkaa.Hu
open Go.RowKit

abbrev iz (x : Int) : Value := .int .i64 x
/-- the value v is a slice of the ints l in the world w -/
def IntsAt (w : World) (v : Value) (l : List Int) : Prop :=
  ∃ ao cap, v = .slice ao l.length cap ∧ (0 < l.length → ∃ b off, ao = some ⟨b, off, none⟩ ∧ ∀ i x, l[i]? = some x → w.cell? ⟨b, off + i, none⟩ = some (iz x))
theorem IntsAt.ext {w w' : World} {v : Value} {l : List Int} (h : IntsAt w v l) (hx : Ext [] w w') : IntsAt w' v l := by
  obtain ⟨ao, cap, rfl, hc⟩ := h
  refine ⟨ao, cap, rfl, fun hn => ?_⟩
  obtain ⟨b, off, rfl, h⟩ := hc hn
  exact ⟨b, off, rfl, fun i x hi => Ext.cell hx (h i x hi)⟩
theorem IntsAt.of_own {w : World} {v : Value} {l : List Int} (h : w.ownsRow 0 3 1 v l.length (l.map iz)) : IntsAt w v l := by
  rcases h.2 with ⟨rfl, hn⟩ | ⟨g, cap, cs, rfl, _, hg, hnc, hcap, hsz, ht⟩
  · exact ⟨none, 0, by rw [hn], fun h => by omega⟩
  · refine ⟨_, cap, rfl, fun _ => ⟨g, 0, rfl, fun i x hi => ?_⟩⟩
    rw [Nat.zero_add]
    exact ownsRow_at h (by rw [List.getElem?_map, hi]; rfl)
theorem IntsAt.slice {w : World} {v : Value} {l : List Int} (h : IntsAt w v l) : ∃ ao cap, v = .slice ao l.length cap := by
  obtain ⟨ao, cap, rfl, _⟩ := h
  exact ⟨ao, cap, rfl⟩
def NdS (n : Nat) : Nd → Prop
  | .leaf _ s => s < n
  | .join _ _ a b => NdS n a ∧ NdS n b
def hgt : Nd → Nat
  | .leaf _ _ => 0
  | .join _ _ a b => max (hgt a) (hgt b) + 1
theorem setD_len : ∀ (x : Nd) (d : Nat) (L : List Int), (setD x d L).length = L.length
  | .leaf _ _, _, _ => by rw [setD, List.length_set]
  | .join _ _ a b, d, L => by rw [setD, setD_len b, setD_len a]
theorem infoInt7 : (Try.prog.info? 3).map (fun i => (i.zero, i.size, i.bytes)) = some (some (.int .i64 0), 1, 8) := by kernel_rfl
end Go.Proofs.Ytgjenpdppobpkaa.Hu

/-! HuF: huff.deep walked. -/
namespace Go.Proofs.Ytgjenpdppobpkaa.Hu
open Go.RowKit

/-! ### plain -/
def zers (n : Nat) : List Int := List.replicate n 0
def topD (n : Nat) : List Nd → List Int
  | x :: _ => setD x 0 (zers n)
  | [] => zers n
def deepN (l : List Int) : List Int :=
  match leavesF l 0 with
  | [x] => (zers l.length).set x.age 1
  | _ => topD l.length (mrgF (leavesF l 0).length 0 (srtS (leavesF l 0)))
theorem deepN_one {l : List Int} {x : Nd} (h : leavesF l 0 = [x]) : deepN l = (zers l.length).set x.age 1 := by unfold deepN; rw [h]
theorem deepN_more {l : List Int} (h : (leavesF l 0).length ≠ 1) : deepN l = topD l.length (mrgF (leavesF l 0).length 0 (srtS (leavesF l 0))) := by
  unfold deepN
  split
  · rename_i heq
    rw [heq] at h
    simp at h
  · rfl
def sumC : List Nd → Int
  | [] => 0
  | x :: L => x.cnt + sumC L
theorem sumC_ins (x : Nd) : ∀ L, sumC (insS x L) = x.cnt + sumC L
  | [] => rfl
  | y :: L => by
    rw [insS]
    split
    · rfl
    · rw [sumC, sumC_ins x L, sumC]; omega
theorem sumC_srt : ∀ L, sumC (srtS L) = sumC L
  | [] => rfl
  | x :: L => by rw [srtS, sumC_ins, sumC_srt L, sumC]
theorem sumC_leaves : ∀ (l : List Int) (k : Nat), (∀ c ∈ l, c ≤ 1099511627776) → sumC (leavesF l k) ≤ 1099511627776 * l.length
  | [], k, _ => by simp [leavesF, sumC]
  | c :: l, k, h => by
    have hc := h c (by simp)
    have := sumC_leaves l (k + 1) (fun d hd => h d (by simp [hd]))
    rw [leavesF, List.length_cons]
    split
    · rw [sumC, Nd.cnt]; omega
    · omega
structure Inv (n g : Nat) (T : Int) (L : List Nd) : Prop where
  young : Young g L
  pos : ∀ x ∈ L, 0 < x.cnt
  sum : sumC L = T
  sz : ∀ x ∈ L, NdS n x ∧ hgt x ≤ g
theorem sumC_nn {L : List Nd} (h : ∀ x ∈ L, 0 < x.cnt) : 0 ≤ sumC L := by
  induction L with
  | nil => exact Int.le_refl 0
  | cons x L ih =>
    have := h x (by simp)
    have := ih (fun y hy => h y (by simp [hy]))
    rw [sumC]; omega
theorem Inv.two {n g : Nat} {T : Int} {a b : Nd} {L : List Nd} (h : Inv n g T (a :: b :: L)) : 0 < a.cnt ∧ 0 < b.cnt ∧ a.cnt + b.cnt ≤ T := by
  have h1 := h.pos a (by simp)
  have h2 := h.pos b (by simp)
  have h3 := sumC_nn (L := L) (fun y hy => h.pos y (by simp [hy]))
  have h4 := h.sum
  rw [sumC, sumC] at h4
  omega
theorem Inv.step {n g : Nat} {T : Int} {a b : Nd} {L : List Nd} (h : Inv n g T (a :: b :: L)) : Inv n (g + 1) T (insS (.join (a.cnt + b.cnt) g a b) L) := by
  have ht := h.two
  refine ⟨h.young.step, fun x hx => ?_, ?_, fun x hx => ?_⟩
  · rcases List.mem_cons.1 ((insS_perm _ L).mem_iff.1 hx) with rfl | hx
    · simp [Nd.cnt]; simp [Nd.cnt] at ht; omega
    · exact h.pos x (by simp [hx])
  · have := h.sum
    rw [sumC, sumC] at this
    rw [sumC_ins, Nd.cnt]
    omega
  · rcases List.mem_cons.1 ((insS_perm _ L).mem_iff.1 hx) with rfl | hx
    · have h1 := h.sz a (by simp)
      have h2 := h.sz b (by simp)
      exact ⟨⟨h1.1, h2.1⟩, by unfold hgt; omega⟩
    · have := h.sz x (by simp [hx])
      exact ⟨this.1, by omega⟩
theorem inv_start (l : List Int) : Inv l.length 0 (sumC (leavesF l 0)) (srtS (leavesF l 0)) := by
  have hm : ∀ x ∈ srtS (leavesF l 0), x ∈ leavesF l 0 := fun x hx => (srtS_perm _).mem_iff.1 hx
  refine ⟨fun x hx hmk => ?_, fun x hx => ?_, sumC_srt _, fun x hx => ?_⟩
  · obtain ⟨c, s, rfl, _⟩ := leavesF_mem l 0 x (hm x hx)
    cases hmk
  · obtain ⟨c, s, rfl, _, _, h, _⟩ := leavesF_mem l 0 x (hm x hx)
    exact h
  · obtain ⟨c, s, rfl, _, h, _, _⟩ := leavesF_mem l 0 x (hm x hx)
    exact ⟨by simpa [NdS] using h, Nat.le_refl _⟩
theorem mrgF_stop (k g : Nat) (L : List Nd) (h : L.length ≤ 1) : mrgF k g L = L := by
  match k, L, h with
  | 0, _, _ => rfl
  | k + 1, [], _ => rfl
  | k + 1, [x], _ => rfl
/-! ### the heap as an object -/
theorem leaves_take (l : List Int) : ∀ (k j : Nat) (c : Int), l[k]? = some c → leavesF (l.drop k) j = if 0 < c then .leaf c j :: leavesF (l.drop (k + 1)) (j + 1) else leavesF (l.drop (k + 1)) (j + 1) := by
  intro k j c h
  obtain ⟨h1, h2⟩ := List.getElem?_eq_some_iff.1 h
  rw [List.drop_eq_getElem_cons h1, h2, leavesF]
theorem zers_len (n : Nat) : (zers n).length = n := by simp [zers]
/-- two pops, the second one's world being known -/
theorem leaf_of {x : Nd} {l : List Int} (h : leavesF l 0 = [x]) : ∃ c s, x = .leaf c s ∧ s < l.length := by
  obtain ⟨c, s, e, _, h2, _, _⟩ := leavesF_mem l 0 x (by rw [h]; simp)
  exact ⟨c, s, e, by omega⟩
end Go.Proofs.Ytgjenpdppobpkaa.Hu

/-! HuG: huff: counts and State walked. -/
namespace Go.Proofs.Ytgjenpdppobpkaa.Hu
open Go.RowKit

/-! ### an array of sixteen numbers -/
def arrC (c : Nat → Nat) : Array Value := ((List.range 16).map fun j => iz (c j)).toArray
theorem arrC_at (c : Nat → Nat) (j : Nat) (h : j < 16) : (arrC c)[j]? = some (iz (c j)) := by
  unfold arrC
  simp [List.getElem?_range h]
def up1 (c : Nat → Nat) (x v : Nat) : Nat → Nat := fun j => if j = x then v else c j
theorem arrC_set (c : Nat → Nat) (x v : Nat) : (arrC c).setIfInBounds x (iz v) = arrC (up1 c x v) := by
  unfold arrC
  apply Array.ext'
  simp only [Array.toList_setIfInBounds]
  apply List.ext_getElem?
  intro j
  rw [List.getElem?_set]
  by_cases hj : j < 16
  · by_cases hx : x = j
    · subst hx
      rw [if_pos rfl, if_pos (by simpa using hj), List.getElem?_map, List.getElem?_range hj]
      simp [up1]
    · rw [if_neg hx, List.getElem?_map, List.getElem?_map, List.getElem?_range hj]
      simp [up1, show ¬ j = x from fun h => hx h.symm]
  · have h1 : ((List.range 16).map fun k => iz (c k))[j]? = none := by rw [List.getElem?_eq_none]; simp; omega
    have h2 : ((List.range 16).map fun k => iz (up1 c x v k))[j]? = none := by rw [List.getElem?_eq_none]; simp; omega
    show (if x = j then _ else ((List.range 16).map fun k => iz (c k))[j]?) = ((List.range 16).map fun k => iz (up1 c x v k))[j]?
    rw [h1, h2]
    split
    · rw [if_neg (by simp; omega)]
    · rfl
theorem arrC_congr {c d : Nat → Nat} (h : ∀ j, j < 16 → c j = d j) : arrC c = arrC d := by
  unfold arrC
  congr 1
  refine List.map_congr_left (fun j hj => ?_)
  rw [h j (List.mem_range.1 hj)]
/-- how often a number stands in a list -/
def cntI (l : List Int) (j : Nat) : Nat := l.countP fun x => decide (x = (j : Int))
def cntF (l : List Int) : Nat → Nat := fun j => if j = 0 then 0 else cntI l j
def badL (l : List Int) : Bool := decide (288 < l.length) || l.any fun x => decide (x < 0 ∨ 15 < x)
theorem cntI_snoc (l : List Int) (x : Int) (j : Nat) : cntI (l ++ [x]) j = cntI l j + if x = (j : Int) then 1 else 0 := by
  unfold cntI
  rw [List.countP_append, List.countP_singleton]
  by_cases h : x = (j : Int) <;> simp [h]
theorem cntI_le (l : List Int) (j : Nat) : cntI l j ≤ l.length := List.countP_le_length
theorem info16 : (Try.prog.info? 129).map (·.size) = some 16 := by kernel_rfl
theorem arrC_size (c : Nat → Nat) : (arrC c).size = 16 := by simp [arrC]
theorem info16c (c : Nat → Nat) : (Try.prog.info? 129).map (·.size) = some (arrC c).size := by rw [arrC_size]; exact info16
theorem arrC_one (c : Nat → Nat) : (arrC c).all (·.oneCell') = true := by
  rw [Array.all_eq_true_iff_forall_mem]
  intro x hx
  unfold arrC at hx
  simp at hx
  obtain ⟨j, _, rfl⟩ := hx
  rfl
theorem results_arr {fn : Func} {p q : Tmp} (h : fn.results = #[.cell p 129, .tmp q]) (tmps : Array Value) (w : World) (g : Nat) (c : Nat → Nat) (v : Value) (hp : tmps.getD p undef = .pointer (some ⟨g, 0, none⟩)) (hq : tmps.getD q undef = v) (hg : w.heap[g]? = some (.cells (arrC c) 129 (0, 0))) :
    (results fn tmps).run Try.prog w = .ok (.tuple #[.agg (arrC c), v]) w := by
  have hp' : tmps[p]?.getD undef = .pointer (some ⟨g, 0, none⟩) := by simpa using hp
  have hq' : tmps[q]?.getD undef = v := by simpa using hq
  simp [results, h, hp', hq', asAddr, run_loadVar_row w g 129 129 (arrC c) (0, 0) _ hg Try.underlying129 rfl (info16c c)]
theorem setRow_heap9 {w : World} {g : Nat} {cs ds : Array Value} {t : TypeId} (h : w.heap[g]? = some (.cells cs t (0, 0))) : (w.setRow g ds).heap[g]? = some (.cells ds t (0, 0)) := setRow_heap w g cs ds t _ h
theorem ext_setRow {S : List Nat} {a w : World} (h : Ext S a w) (g : Nat) (cs : Array Value) (hp : g ∈ S ∨ a.heap.size ≤ g) : Ext S a (w.setRow g cs) :=
  h.trans' (T := [g]) ⟨rfl, rfl, rfl, by simp [World.setRow], fun k _ hk => setRow_other w g k _ (by simpa using hk)⟩ (fun i hi hS => by simp at hS; subst hS; rcases hp with hp | hp; exact hp; omega)
theorem ints_take (l : List Int) (k : Nat) (x : Int) (h : l[k]? = some x) : l.take (k + 1) = l.take k ++ [x] := by
  rw [List.take_add_one, h]; rfl
def RetArr (w : World) (e : Ending) (w' : World) : Prop := ∃ c, e = .returned (.tuple #[.agg (arrC c), .bool false]) ∧ Ext [] w w'
theorem bad_false {l : List Int} (hb : badL l = false) : l.length ≤ 288 ∧ ∀ x ∈ l, 0 ≤ x ∧ x ≤ 15 := by
  unfold badL at hb
  rw [Bool.or_eq_false_iff, List.any_eq_false] at hb
  refine ⟨by have := of_decide_eq_false hb.1; omega, fun x hx => ?_⟩
  have h := hb.2 x hx
  simp at h
  omega
set_option maxRecDepth 100000 in
set_option maxHeartbeats 8000000 in
theorem counts_good (v : Value) (l : List Int) (w : World) (hv : IntsAt w v l) (hb : badL l = false) :
    Calls Try.prog 88 #[v] w fun e w' => e = .returned (.tuple #[.agg (arrC (cntF l)), .bool true]) ∧ Ext [] w w' := by
  obtain ⟨hl, hx⟩ := bad_false hb
  obtain ⟨ao, cap, rfl, hc⟩ := hv
  have HC := Lib.hid hc
  have HXX := Lib.hid hx
  have hl' : ¬ 288 < l.length := by omega
  obtain ⟨R, hR⟩ : ∃ R, arrC (cntF l) = R := ⟨_, rfl⟩
  rw [hR]
  have HR := Lib.hid hR
  clear hc hx hb hR
  go_enter Try.func88, Try.ntmps88
  go_wp2_with fail
  obtain ⟨nb, hnb⟩ : ∃ nb, w.heap.size = nb := ⟨_, rfl⟩
  have HNB := Lib.hid hnb
  rw [hnb]
  clear hnb
  go_loopg [12] l.length (fun g iv wr => ∃ (k : Nat) (c : Nat → Nat), g + k = l.length ∧ iv = .int .i64 k ∧ Ext [] w wr ∧ wr.heap[nb]? = some (.cells (arrC c) 129 (0, 0)) ∧ ∀ j, j < 16 → c j = cntI (l.take k) j)
  case atStart => exact ⟨0, fun _ => 0, by omega, rfl, (Ext.refl _ _).alloc _, by rw [← HNB.out]; exact heap_alloc_at _, fun j _ => by simp [cntI]⟩
  case round =>
    obtain ⟨k, c, hk, rfl, hx, hbk, hcc⟩ := hrel
    by_cases hlt : k < l.length
    · obtain ⟨b, off, rfl, hcell⟩ := HC.out (by omega)
      obtain ⟨x, hck⟩ : ∃ x, l[k]? = some x := ⟨_, List.getElem?_eq_getElem hlt⟩
      have d0 := Ext.cell hx (hcell k x hck)
      have hxr := HXX.out x (List.mem_of_getElem? hck)
      obtain ⟨m, rfl⟩ : ∃ m : Nat, x = m := ⟨x.toNat, by omega⟩
      have hm : m < 16 := by omega
      have hm' : (m : Int) < 16 := by omega
      have hm15 : ¬ (15 : Int) < (m : Int) := by omega
      have n0 : wr.cell? ⟨nb, m, none⟩ = some (iz (c m)) := (cellOf hbk m).trans (arrC_at c m hm)
      have n1 := freeOf hbk m
      have hcm : c m ≤ 288 := by rw [hcc m hm]; have := cntI_le (l.take k) m; have := List.length_take_le k l; omega
      have hst := heap_setCell_same hbk (i := m) (iz ((c m + 1 : Nat) : Int))
      rw [arrC_set] at hst
      have hx2 : Ext [] w (wr.setCell ⟨nb, m, none⟩ (iz ((c m + 1 : Nat) : Int))) := hx.setCell _ _ (.inr (by show w.heap.size ≤ nb; rw [HNB.out]; exact Nat.le_refl _))
      have hnew : ∀ j, j < 16 → up1 c m (c m + 1) j = cntI (l.take (k + 1)) j := fun j hj => by
        rw [ints_take l k m hck, cntI_snoc, ← hcc j hj]
        unfold up1
        by_cases h : j = m
        · subst h; rw [if_pos rfl, if_pos rfl]
        · rw [if_neg h, if_neg (by omega)]; rfl
      rw [show ((c m + 1 : Nat) : Int) = (c m : Int) + 1 from by omega] at hst hx2
      have HF := Lib.hid (⟨hx2, hst, hnew⟩ : _ ∧ _ ∧ _)
      generalize c m = cm at n0 hcm HF
      clear hst hx2 hnew hcc hcell hck hx hbk hxr
      go_wp2_with fail
      go_roundg (l.length - (k + 1))
      case measure => omega
      case rel => exact ⟨k + 1, up1 c m (cm + 1), by omega, by go_num, HF.out.1, HF.out.2.1, HF.out.2.2⟩
    · obtain rfl : k = l.length := by omega
      have n1 := freeOf hbk 0
      have n0 : wr.cell? ⟨nb, 0, none⟩ = some (iz (c 0)) := (cellOf hbk 0).trans (arrC_at c 0 (by omega))
      have hst := heap_setCell_same hbk (i := 0) (iz ((0 : Nat) : Int))
      rw [arrC_set] at hst
      have hx2 : Ext [] w (wr.setCell ⟨nb, 0, none⟩ (iz ((0 : Nat) : Int))) := hx.setCell _ _ (.inr (by show w.heap.size ≤ nb; rw [HNB.out]; exact Nat.le_refl _))
      have hRc : arrC (up1 c 0 0) = R := by
        rw [← HR.out]
        refine arrC_congr (fun j hj => ?_)
        unfold up1 cntF
        by_cases h : j = 0
        · rw [if_pos h, if_pos h]
        · rw [if_neg h, if_neg h, hcc j hj, List.take_length]
      obtain ⟨W, hW⟩ : ∃ W, wr.setCell ⟨nb, 0, none⟩ (iz 0) = W := ⟨_, rfl⟩
      change (wr.setCell ⟨nb, 0, none⟩ (iz 0)).heap[nb]? = _ at hst
      change Ext [] w (wr.setCell ⟨nb, 0, none⟩ (iz 0)) at hx2
      have HF := Lib.hid (⟨hst, hx2, hRc⟩ : _ ∧ _ ∧ _)
      clear hst hx2 hRc hcc hx hbk
      go_upto_region 11 with (fail)
      have HF := Lib.hid (⟨by have := HF.out.1; rw [hW] at this; exact this, by have := HF.out.2.1; rw [hW] at this; exact this, HF.out.2.2⟩ : W.heap[nb]? = some (.cells (arrC (up1 c 0 0)) 129 (0, 0)) ∧ Ext [] w W ∧ arrC (up1 c 0 0) = R)
      clear hW n0 n1
      generalize up1 c 0 0 = d at *
      have hg := HF.out.1
      go_wp2_with (first | (refine wpList_load_row rfl 129 _ rfl nb rfl 129 _ (0, 0) _ hg Try.underlying129 rfl (info16c d) ?_) | (refine wpList_store_row rfl 129 _ _ rfl nb _ rfl rfl 129 _ hg (info16c d) rfl (arrC_one d) ?_))
      have hx3 := ext_setRow HF.out.2.1 nb (arrC d) (.inr (by rw [HNB.out]; exact Nat.le_refl _))
      exact bodyPost_ret (results_arr rfl _ _ nb d (.bool true) rfl rfl (setRow_heap9 hg)) rfl ⟨by rw [HF.out.2.2], hx3⟩
set_option maxRecDepth 100000 in
set_option maxHeartbeats 8000000 in
theorem counts_bad (v : Value) (l : List Int) (w : World) (hv : IntsAt w v l) (hl : l.length ≤ 1048576) (hb : badL l = true) :
    Calls Try.prog 88 #[v] w (RetArr w) := by
  obtain ⟨ao, cap, rfl, hc⟩ := hv
  have HC := Lib.hid hc
  clear hc
  obtain ⟨nb, hnb⟩ : ∃ nb, w.heap.size = nb := ⟨_, rfl⟩
  have HNB := Lib.hid hnb
  by_cases h2 : 288 < l.length
  · have hl' : (288 : Int) < (l.length : Int) := by omega
    go_enter Try.func88, Try.ntmps88
    go_wp2_with fail
    exact bodyPost_ret (results_arr rfl _ _ nb (fun _ => 0) (.bool false) rfl rfl (by rw [← HNB.out]; exact heap_alloc_at _)) rfl ⟨_, rfl, (Ext.refl _ w).alloc _⟩
  · have hl' : ¬ (288 : Int) < (l.length : Int) := by omega
    have ha : (l.any fun x => decide (x < 0 ∨ 15 < x)) = true := by
      unfold badL at hb
      rw [decide_eq_false h2] at hb
      simpa using hb
    have HA := Lib.hid ha
    clear ha hb
    go_enter Try.func88, Try.ntmps88
    go_wp2_with fail
    clear hnb
    go_loopg [12] l.length (fun g iv wr => ∃ (k : Nat) (c : Nat → Nat), g + k = l.length ∧ iv = .int .i64 k ∧ Ext [] w wr ∧ wr.heap[nb]? = some (.cells (arrC c) 129 (0, 0)) ∧ (∀ j, j < 16 → c j ≤ k) ∧ ((l.drop k).any fun x => decide (x < 0 ∨ 15 < x)) = true)
    case atStart => exact ⟨0, fun _ => 0, by omega, rfl, (Ext.refl _ _).alloc _, by rw [← HNB.out]; exact heap_alloc_at _, fun j _ => Nat.zero_le _, HA.out⟩
    case round =>
      clear HA
      obtain ⟨k, c, hk, rfl, hx, hbk, hcc, ha⟩ := hrel
      by_cases hlt : k < l.length
      · obtain ⟨b, off, rfl, hcell⟩ := HC.out (by omega)
        obtain ⟨x, hck⟩ : ∃ x, l[k]? = some x := ⟨_, List.getElem?_eq_getElem hlt⟩
        have d0 := Ext.cell hx (hcell k x hck)
        have hdr : l.drop k = x :: l.drop (k + 1) := by
          obtain ⟨h1, h2⟩ := List.getElem?_eq_some_iff.1 hck
          rw [List.drop_eq_getElem_cons h1, h2]
        rw [hdr, List.any_cons] at ha
        clear hcell hck hdr
        by_cases hx0 : x < 0 ∨ 15 < x
        · have HX := Lib.hid (⟨hbk, hx⟩ : _ ∧ _)
          clear ha hx hcc hbk
          rcases hx0 with h | h
          · have hg := HX.out.1
            go_wp2_with (first | (refine wpList_load_row rfl 129 _ rfl nb rfl 129 _ (0, 0) _ hg Try.underlying129 rfl (info16c c) ?_) | (refine wpList_store_row rfl 129 _ _ rfl nb _ rfl rfl 129 _ hg (info16c c) rfl (arrC_one c) ?_))
            exact bodyPost_ret (results_arr rfl _ _ nb c (.bool false) rfl rfl (setRow_heap9 hg)) rfl ⟨c, rfl, ext_setRow HX.out.2 nb (arrC c) (.inr (by rw [HNB.out]; exact Nat.le_refl _))⟩
          · have h' : ¬ x < 0 := by omega
            have hg := HX.out.1
            go_wp2_with (first | (refine wpList_load_row rfl 129 _ rfl nb rfl 129 _ (0, 0) _ hg Try.underlying129 rfl (info16c c) ?_) | (refine wpList_store_row rfl 129 _ _ rfl nb _ rfl rfl 129 _ hg (info16c c) rfl (arrC_one c) ?_))
            exact bodyPost_ret (results_arr rfl _ _ nb c (.bool false) rfl rfl (setRow_heap9 hg)) rfl ⟨c, rfl, ext_setRow HX.out.2 nb (arrC c) (.inr (by rw [HNB.out]; exact Nat.le_refl _))⟩
        · rw [decide_eq_false hx0, Bool.false_or] at ha
          obtain ⟨m, rfl⟩ : ∃ m : Nat, x = m := ⟨x.toNat, by omega⟩
          have hm : m < 16 := by omega
          have hm' : (m : Int) < 16 := by omega
          have hm15 : ¬ (15 : Int) < (m : Int) := by omega
          have n0 : wr.cell? ⟨nb, m, none⟩ = some (iz (c m)) := (cellOf hbk m).trans (arrC_at c m hm)
          have n1 := freeOf hbk m
          have hcm : c m ≤ 288 := by have := hcc m hm; omega
          have hst := heap_setCell_same hbk (i := m) (iz ((c m + 1 : Nat) : Int))
          rw [arrC_set] at hst
          have hx2 : Ext [] w (wr.setCell ⟨nb, m, none⟩ (iz ((c m + 1 : Nat) : Int))) := hx.setCell _ _ (.inr (by show w.heap.size ≤ nb; rw [HNB.out]; exact Nat.le_refl _))
          have hnew : ∀ j, j < 16 → up1 c m (c m + 1) j ≤ k + 1 := fun j hj => by
            have := hcc j hj
            unfold up1
            split
            · rename_i h; subst h; omega
            · omega
          rw [show ((c m + 1 : Nat) : Int) = (c m : Int) + 1 from by omega] at hst hx2
          have HF := Lib.hid (⟨hx2, hst, hnew, ha⟩ : _ ∧ _ ∧ _ ∧ _)
          generalize c m = cm at n0 hcm HF
          clear hst hx2 hnew hcc hx hbk hx0 ha
          go_wp2_with fail
          go_roundg (l.length - (k + 1))
          case measure => omega
          case rel => exact ⟨k + 1, up1 c m (cm + 1), by omega, by go_num, HF.out.1, HF.out.2.1, HF.out.2.2.1, HF.out.2.2.2⟩
      · obtain rfl : k = l.length := by omega
        rw [List.drop_length] at ha
        cases ha
end Go.Proofs.Ytgjenpdppobpkaa.Hu

/-! HuH: huff.State walked. -/
namespace Go.Proofs.Ytgjenpdppobpkaa.Hu
open Go.RowKit

theorem run_index_arr (c : Nat → Nat) (k : Nat) (hk : k < 16) (w : World) : (Instr.index 129 (.agg (arrC c)) (.int .i64 (k : Int))).run Try.prog w = .ok (iz (c k)) w := by
  have h1 : (0 : Int) ≤ (k : Int) ∧ (k : Int) < 16 := by omega
  have h2 := arrC_at c k hk
  have hz := Try.sizeOf3
  have ha := Try.isAgg3
  simp [Instr.index, run_underlying Try.underlying129, asIntOf, h1, part, hz, ha, h2, go_sem]
  intro h; omega
/-- how full lengths are: by numbers of two to the fifteenth -/
def kraF (c : Nat → Nat) : Nat → Nat
  | 0 => 0
  | k + 1 => kraF c k + c k * 2 ^ (15 - k)
def kra (l : List Int) : Nat := kraF (cntF l) 16
def stateN (l : List Int) : Int × Int := if badL l then (0, 2) else (cmpZ (kra l) 32768, 0)
theorem kraF_le (c : Nat → Nat) (m : Nat) (h : ∀ j, c j ≤ m) : ∀ k, kraF c k ≤ k * (m * 32768)
  | 0 => Nat.zero_le _
  | k + 1 => by
    rw [kraF, Nat.add_mul, Nat.one_mul]
    have h1 := kraF_le c m h k
    have h2 : 2 ^ (15 - k) ≤ 2 ^ 15 := Nat.pow_le_pow_right (by omega) (by omega)
    have h3 := Nat.mul_le_mul (h k) h2
    omega
theorem cntF_le (l : List Int) (j : Nat) : cntF l j ≤ l.length := by
  unfold cntF
  split
  · exact Nat.zero_le _
  · exact cntI_le l j
theorem zeros16_at (w : World) : (w.alloc (.cells #[.int .i64 0, .int .i64 0, .int .i64 0, .int .i64 0, .int .i64 0, .int .i64 0, .int .i64 0, .int .i64 0, .int .i64 0, .int .i64 0, .int .i64 0, .int .i64 0, .int .i64 0, .int .i64 0, .int .i64 0, .int .i64 0] 129)).heap[w.heap.size]? = some (.cells #[.int .i64 0, .int .i64 0, .int .i64 0, .int .i64 0, .int .i64 0, .int .i64 0, .int .i64 0, .int .i64 0, .int .i64 0, .int .i64 0, .int .i64 0, .int .i64 0, .int .i64 0, .int .i64 0, .int .i64 0, .int .i64 0] 129 (0, 0)) := heap_alloc_at _
set_option maxRecDepth 100000 in
set_option maxHeartbeats 8000000 in
theorem state_walk (v : Value) (l : List Int) (w : World) (hv : IntsAt w v l) (hl : l.length ≤ 1048576) :
    Calls Try.prog 84 #[v] w fun e w' => e = .returned (.tuple #[.int .i64 (stateN l).1, .int .i64 (stateN l).2]) ∧ Ext [] w w' := by
  cases hb : badL l
  · have e : stateN l = (cmpZ (kra l) 32768, 0) := by unfold stateN; rw [hb]; rfl
    rw [e]
    simp only
    have hl2 := (bad_false hb).1
    obtain ⟨R, hR⟩ : ∃ R, cmpZ (kra l) 32768 = R := ⟨_, rfl⟩
    rw [hR]
    unfold kra at hR
    have hcl := cntF_le l
    have hcc := counts_good v l w hv hb
    generalize cntF l = c at *
    have hle := kraF_le c 288 (fun j => by have := hcl j; omega)
    have HCC := Lib.hid hcc
    have HR := Lib.hid (show ∀ u : Nat, u = 16 → cmpZ (kraF c u) 32768 = R from fun u hu => by rw [hu]; exact hR)
    have HLE := Lib.hid (⟨hcl, hle⟩ : _ ∧ _)
    clear hcc hR hb e hcl hle
    go_enter Try.func84, Try.ntmps84
    go_wp2_with fail
    refine HCC.out.mono ?_
    clear HCC
    rintro e w1 ⟨rfl, hx1⟩
    have HX := Lib.hid hx1
    have hg := Lib.hid (zeros16_at w1)
    clear hx1
    go_wp2_with (first | (refine wpList_store_row rfl 129 _ _ rfl w1.heap.size (arrC c) rfl rfl 129 _ hg.out (info16c c) (by rw [arrC_size]; rfl) (arrC_one c) ?_) | (refine wpList_load_row rfl 129 _ rfl w1.heap.size rfl 129 (arrC c) (0, 0) _ (setRow_heap9 hg.out) Try.underlying129 rfl (info16c c) ?_))
    have hx2 := ext_setRow ((HX.out).alloc (.cells #[.int .i64 0, .int .i64 0, .int .i64 0, .int .i64 0, .int .i64 0, .int .i64 0, .int .i64 0, .int .i64 0, .int .i64 0, .int .i64 0, .int .i64 0, .int .i64 0, .int .i64 0, .int .i64 0, .int .i64 0, .int .i64 0] 129)) w1.heap.size (arrC c) (.inr HX.out.size)
    have HX2 := Lib.hid hx2
    obtain ⟨W, hW⟩ : ∃ W, (w1.alloc (.cells #[.int .i64 0, .int .i64 0, .int .i64 0, .int .i64 0, .int .i64 0, .int .i64 0, .int .i64 0, .int .i64 0, .int .i64 0, .int .i64 0, .int .i64 0, .int .i64 0, .int .i64 0, .int .i64 0, .int .i64 0, .int .i64 0] 129)).setRow w1.heap.size (arrC c) = W := ⟨_, rfl⟩
    rw [hW] at HX2
    rw [hW]
    clear hx2 hW
    go_loopg [6, 17] 16 (fun g sv iv wr => ∃ k : Nat, g + k = 16 ∧ iv = .int .i64 k ∧ sv = .int .i64 (kraF c k : Nat) ∧ W = wr)
    case atStart => exact ⟨0, by omega, rfl, rfl, rfl⟩
    case round =>
      obtain ⟨k, hk, rfl, rfl, rfl⟩ := hrel
      by_cases hlt : k < 16
      · have hix := run_index_arr c k hlt
        have hc9 : c k ≤ 288 := by have := HLE.out.1 k; omega
        have hp : 2 ^ (15 - k) ≤ 2 ^ 15 := Nat.pow_le_pow_right (by omega) (by omega)
        have hmul := Nat.mul_le_mul hc9 hp
        have hle : kraF c k ≤ 16 * (288 * 32768) := by
          have h := kraF_le c 288 (fun j => by have := HLE.out.1 j; omega) k
          exact Nat.le_trans h (Nat.mul_le_mul_right _ (by omega))
        have hst : kraF c (k + 1) = kraF c k + c k * 2 ^ (15 - k) := rfl
        obtain ⟨q, hq⟩ : ∃ q, 15 - k = q := ⟨_, rfl⟩
        rw [hq] at hst hmul hp
        have e1 : 15 - (k : Int) = (q : Int) := by omega
        have e2 : (c k : Int) * 2 ^ q = ((c k * 2 ^ q : Nat) : Int) := by push_cast; rfl
        have hq15 : q ≤ 15 := by omega
        obtain ⟨t, ht⟩ : ∃ t, c k * 2 ^ q = t := ⟨_, rfl⟩
        rw [ht] at hmul hst e2
        have ht9 : t ≤ 9437184 := by omega
        have HST := Lib.hid hst
        generalize kraF c k = s at *
        generalize c k = ck at *
        clear hst hp hmul ht hq
        go_wp2_with fail
        go_roundg (16 - (k + 1))
        case measure => omega
        case rel => exact ⟨k + 1, by omega, by go_num, by rw [HST.out]; push_cast; rfl, rfl⟩
      · obtain rfl : k = 16 := by omega
        go_wp2_with fail
        refine (cmp_walk _ _ _).mono ?_
        rintro e w5 ⟨rfl, rfl⟩
        go_wp2_with fail
        exact bodyPost_ret (results_tmp2 rfl _ _ _) rfl ⟨by rw [HR.out 16 rfl]; rfl, HX2.out⟩
  · have e : stateN l = (0, 2) := by unfold stateN; rw [hb]; rfl
    rw [e]
    simp only
    have HCC := Lib.hid (counts_bad v l w hv hl hb)
    clear hb e
    go_enter Try.func84, Try.ntmps84
    go_wp2_with fail
    refine HCC.out.mono ?_
    clear HCC
    rintro e w1 ⟨c, rfl, hx1⟩
    have HX := Lib.hid hx1
    have hg := Lib.hid (zeros16_at w1)
    clear hx1
    go_wp2_with (first | (refine wpList_store_row rfl 129 _ _ rfl w1.heap.size (arrC c) rfl rfl 129 _ hg.out (info16c c) (by rw [arrC_size]; rfl) (arrC_one c) ?_))
    have hx2 := ext_setRow ((HX.out).alloc (.cells #[.int .i64 0, .int .i64 0, .int .i64 0, .int .i64 0, .int .i64 0, .int .i64 0, .int .i64 0, .int .i64 0, .int .i64 0, .int .i64 0, .int .i64 0, .int .i64 0, .int .i64 0, .int .i64 0, .int .i64 0, .int .i64 0] 129)) w1.heap.size (arrC c) (.inr HX.out.size)
    exact bodyPost_ret (results_tmp2 rfl _ _ _) rfl ⟨rfl, hx2⟩
end Go.Proofs.Ytgjenpdppobpkaa.Hu

/-! HuI: huff.Codes walked. -/
namespace Go.Proofs.Ytgjenpdppobpkaa.Hu
open Go.RowKit

/-! ### plain -/
def nxN (c : Nat → Nat) : Nat → Nat
  | 0 => 0
  | k + 1 => 2 * (nxN c k + c k)
theorem nxN_kra (c : Nat → Nat) : ∀ k, k ≤ 15 → nxN c k * 2 ^ (15 - k) = kraF c k
  | 0, _ => by simp [nxN, kraF]
  | k + 1, h => by
    have ih := nxN_kra c k (by omega)
    have e : 2 ^ (15 - k) = 2 * 2 ^ (15 - (k + 1)) := by rw [show 15 - k = (15 - (k + 1)) + 1 by omega, Nat.pow_succ, Nat.mul_comm]
    rw [nxN, kraF, ← ih, e]
    rw [Nat.mul_comm 2 (nxN c k + c k), Nat.mul_assoc, Nat.add_mul]
theorem kraF_mono (c : Nat → Nat) {a b : Nat} (h : a ≤ b) : kraF c a ≤ kraF c b := by
  induction h with
  | refl => exact Nat.le_refl _
  | step _ ih => exact Nat.le_trans ih (Nat.le_add_right _ _)
theorem nxN_le (c : Nat → Nat) (hk : kraF c 16 ≤ 32768) (k : Nat) (h : k ≤ 15) : nxN c k + c k ≤ 2 ^ k := by
  have h1 := nxN_kra c k h
  have h2 := kraF_mono c (show k + 1 ≤ 16 by omega)
  rw [kraF, ← h1, ← Nat.add_mul] at h2
  have h3 : 2 ^ k * 2 ^ (15 - k) = 32768 := by rw [← Nat.pow_add, show k + (15 - k) = 15 by omega]
  have h4 : (nxN c k + c k) * 2 ^ (15 - k) ≤ 2 ^ k * 2 ^ (15 - k) := by omega
  exact Nat.le_of_mul_le_mul_right h4 (Nat.pow_pos (by omega))
def codesF : List Int → (Nat → Nat) → List Nat
  | [], _ => []
  | x :: l, nx => if 0 < x then nx x.toNat :: codesF l (up1 nx x.toNat (nx x.toNat + 1)) else 0 :: codesF l nx
def codesN (l : List Int) : List Nat := codesF l (nxN (cntF l))
theorem codesF_len : ∀ (l : List Int) (nx : Nat → Nat), (codesF l nx).length = l.length
  | [], _ => rfl
  | x :: l, nx => by
    rw [codesF]
    split <;> rw [List.length_cons, codesF_len l, List.length_cons]
def codesE (l : List Int) : Int := if badL l then 2 else if 32768 < kra l then 4 else 0
/-! ### an array of seventeen numbers -/
abbrev u32v (n : Nat) : Value := .int .u32 (n : Int)
def arrU (c : Nat → Nat) : Array Value := ((List.range 17).map fun j => u32v (c j)).toArray
theorem arrU_at (c : Nat → Nat) (j : Nat) (h : j < 17) : (arrU c)[j]? = some (u32v (c j)) := by
  unfold arrU
  simp [List.getElem?_range h]
theorem arrU_set (c : Nat → Nat) (x v : Nat) : (arrU c).setIfInBounds x (u32v v) = arrU (up1 c x v) := by
  unfold arrU
  apply Array.ext'
  simp only [Array.toList_setIfInBounds]
  apply List.ext_getElem?
  intro j
  rw [List.getElem?_set]
  by_cases hj : j < 17
  · by_cases hx : x = j
    · subst hx
      rw [if_pos rfl, if_pos (by simpa using hj), List.getElem?_map, List.getElem?_range hj]
      simp [up1]
    · rw [if_neg hx, List.getElem?_map, List.getElem?_map, List.getElem?_range hj]
      simp [up1, show ¬ j = x from fun h => hx h.symm]
  · have h1 : ((List.range 17).map fun k => u32v (c k))[j]? = none := by rw [List.getElem?_eq_none]; simp; omega
    have h2 : ((List.range 17).map fun k => u32v (up1 c x v k))[j]? = none := by rw [List.getElem?_eq_none]; simp; omega
    show (if x = j then _ else ((List.range 17).map fun k => u32v (c k))[j]?) = ((List.range 17).map fun k => u32v (up1 c x v k))[j]?
    rw [h1, h2]
    split
    · rw [if_neg (by simp; omega)]
    · rfl
theorem arrU_congr {c d : Nat → Nat} (h : ∀ j, j < 17 → c j = d j) : arrU c = arrU d := by
  unfold arrU
  congr 1
  refine List.map_congr_left (fun j hj => ?_)
  rw [h j (List.mem_range.1 hj)]
theorem infoU32 : (Try.prog.info? 30).map (fun i => (i.zero, i.size, i.bytes)) = some (some (.int .u32 0), 1, 4) := by kernel_rfl
set_option maxRecDepth 100000 in
set_option maxHeartbeats 8000000 in
theorem codes_ok (v : Value) (l : List Int) (w : World) (hv : IntsAt w v l) (hl : l.length ≤ 1048576) (hb : badL l = false) (hk : kra l ≤ 32768) :
    Calls Try.prog 86 #[v] w fun e w' => ∃ v', e = .returned (.tuple #[v', .int .i64 0]) ∧ Ext [] w w' ∧ (oSl 30 1 v' l.length ((codesN l).map u32v)).P w' ∧ ∀ k ∈ v'.ownBlock.toList, w.heap.size ≤ k := by
  have hst := state_walk v l w hv hl
  have e : stateN l = (cmpZ (kra l) 32768, 0) := by unfold stateN; rw [hb]; rfl
  rw [e] at hst
  simp only at hst
  have hcz : cmpZ (kra l) 32768 ≤ 0 := by
    rcases cmpZ_cases (kra l) 32768 with ⟨_, h⟩ | ⟨h, _⟩ | ⟨_, h⟩ <;> omega
  obtain ⟨cz, hczz⟩ : ∃ cz, cmpZ (kra l) 32768 = cz := ⟨_, rfl⟩
  rw [hczz] at hst hcz
  have hcc := fun w h => counts_good v l w h hb
  have hcl := cntF_le l
  obtain ⟨R, hR⟩ : ∃ R, codesN l = R := ⟨_, rfl⟩
  rw [hR]
  unfold codesN at hR
  have hl2 := (bad_false hb).1
  have hrg := (bad_false hb).2
  have hnx := nxN_le (cntF l) hk
  have hc0 : cntF l 0 = 0 := rfl
  generalize cntF l = c at *
  obtain ⟨j0, hjf, hy0, hy1, hy2⟩ := info_parts infoU32
  have HST := Lib.hid hst
  have HV := Lib.hid hv
  have HCC := Lib.hid hcc
  have HR := Lib.hid hR
  have HH := Lib.hid (⟨hcl, hrg, hnx, hc0⟩ : _ ∧ _ ∧ _ ∧ _)
  obtain ⟨ao, cap, rfl, hc⟩ := hv
  have HC := Lib.hid hc
  clear hst hcc hR hcl hrg hnx hc0 hb hk e hczz hc
  go_enter Try.func86, Try.ntmps86
  go_wp2_with fail
  refine HST.out.mono ?_
  clear HST
  rintro e w1 ⟨rfl, hx1⟩
  have HX := Lib.hid hx1
  clear hx1
  go_wp2_with fail
  refine (HCC.out _ (HV.out.ext HX.out)).mono ?_
  clear HCC
  rintro e w2 ⟨rfl, hx2⟩
  have HX := Lib.hid (HX.out.trans hx2)
  have hg := Lib.hid (zeros16_at w2)
  clear hx2
  go_wp2_with (first | (refine wpList_store_row rfl 129 _ _ rfl w2.heap.size (arrC c) rfl rfl 129 _ hg.out (info16c c) (by rw [arrC_size]; rfl) (arrC_one c) ?_))
  have hx3 : Ext [] w2 ((w2.alloc (.cells #[.int .i64 0, .int .i64 0, .int .i64 0, .int .i64 0, .int .i64 0, .int .i64 0, .int .i64 0, .int .i64 0, .int .i64 0, .int .i64 0, .int .i64 0, .int .i64 0, .int .i64 0, .int .i64 0, .int .i64 0, .int .i64 0] 129)).setRow w2.heap.size (arrC c)) := ext_setRow ((Ext.refl _ w2).alloc _) w2.heap.size (arrC c) (.inr (Nat.le_refl _))
  have S := ((Sep.start w).quiet HX.out).new hx3 (Ob.one w2.heap.size (.cells (arrC c) 129 (0, 0))) (setRow_heap9 hg.out) (fun q hq => by rw [List.mem_singleton.1 hq]; exact Nat.le_refl _)
  have hsz3 : ((w2.alloc (.cells #[.int .i64 0, .int .i64 0, .int .i64 0, .int .i64 0, .int .i64 0, .int .i64 0, .int .i64 0, .int .i64 0, .int .i64 0, .int .i64 0, .int .i64 0, .int .i64 0, .int .i64 0, .int .i64 0, .int .i64 0, .int .i64 0] 129)).setRow w2.heap.size (arrC c)).heap.size = w2.heap.size + 1 := by simp [World.setRow]
  obtain ⟨W3, hW3⟩ : ∃ W3, (w2.alloc (.cells #[.int .i64 0, .int .i64 0, .int .i64 0, .int .i64 0, .int .i64 0, .int .i64 0, .int .i64 0, .int .i64 0, .int .i64 0, .int .i64 0, .int .i64 0, .int .i64 0, .int .i64 0, .int .i64 0, .int .i64 0, .int .i64 0] 129)).setRow w2.heap.size (arrC c) = W3 := ⟨_, rfl⟩
  obtain ⟨cb, hcb⟩ : ∃ cb, w2.heap.size = cb := ⟨_, rfl⟩
  rw [hW3, hcb] at hsz3
  rw [hW3, hcb] at S
  rw [hW3, hcb]
  have S := S.new ((Ext.refl _ W3).alloc (.cells (arrU fun j => if j ≤ 1 then nxN c j else 0) 134)) (Ob.one (cb + 1) (.cells (arrU fun j => if j ≤ 1 then nxN c j else 0) 134 (0, 0))) (by rw [← hsz3]; exact heap_alloc_at _) (fun q hq => by rw [List.mem_singleton.1 hq, hsz3]; exact Nat.le_refl _)
  have hz0 : (arrU fun j => if j ≤ 1 then nxN c j else 0) = arrU (fun _ => 0) := arrU_congr (fun j _ => by
    have := HH.out.2.2.2
    match j with
    | 0 => rfl
    | 1 => simp [nxN, this]
    | j + 2 => rw [if_neg (by omega)])
  rw [show (arrU fun _ => 0) = #[.int .u32 0, .int .u32 0, .int .u32 0, .int .u32 0, .int .u32 0, .int .u32 0, .int .u32 0, .int .u32 0, .int .u32 0, .int .u32 0, .int .u32 0, .int .u32 0, .int .u32 0, .int .u32 0, .int .u32 0, .int .u32 0, .int .u32 0] from rfl] at hz0
  have HZ0 := Lib.hid hz0
  have HS := Lib.hid S
  clear hx3 hsz3 hW3 hcb S hz0 hg HX
  go_loopg [9] 15 (fun g iv wr => ∃ k : Nat, g + k = 16 ∧ 1 ≤ k ∧ iv = .int .i64 k ∧ Sep w wr [Ob.one (cb + 1) (.cells (arrU fun j => if j ≤ k then nxN c j else 0) 134 (0, 0)), Ob.one cb (.cells (arrC c) 129 (0, 0))])
  case atStart => exact ⟨1, by omega, by omega, rfl, by have h := HS.out; rw [HZ0.out] at h ⊢; exact h⟩
  case round =>
    clear HS HZ0
    obtain ⟨k, hk, hk1, rfl, S⟩ := hrel
    by_cases hlt : k ≤ 15
    · have hU := S.get 0 rfl
      have hC := S.get 1 rfl
      have hle := HH.out.2.2.1 k hlt
      have hp : 2 ^ k ≤ 2 ^ 15 := Nat.pow_le_pow_right (by omega) hlt
      have u0 : ∀ z : Ex wr, z.w.cell? ⟨cb + 1, k, none⟩ = some (u32v (nxN c k)) := fun z => by
        have h := (cellOf (z.heap hU) k).trans (arrU_at _ k (by omega))
        rw [h, if_pos (Nat.le_refl k)]
      have n0 : ∀ z : Ex wr, z.w.cell? ⟨cb, k, none⟩ = some (iz (c k)) := fun z => (cellOf (z.heap hC) k).trans (arrC_at c k (by omega))
      have hsucc : nxN c (k + 1) = 2 * (nxN c k + c k) := rfl
      have HSU := Lib.hid hsucc
      have HS := Lib.hid S
      obtain ⟨a, ha⟩ : ∃ a, nxN c k = a := ⟨_, rfl⟩
      obtain ⟨b, hb⟩ : ∃ b, c k = b := ⟨_, rfl⟩
      rw [ha] at u0
      rw [hb] at n0
      rw [ha, hb] at hle HSU
      have hab : a + b ≤ 32768 := by omega
      have hk16 : (k : Int) < 16 := by omega
      clear ha hb hsucc hU hC S hp hle
      go_wp2_with fail
      refine wp_region_quiet_tail (C := fun w' => ∃ x : Ex wr, w' = x.w) 12 (by kernel_rfl) (by kernel_rfl) ⟨Ex.mk _ ((Ext.refl [] wr).drew), rfl⟩ ?_
      simp only [List.take_succ_cons, List.take_zero, List.drop_succ_cons, List.drop_zero]
      repeat (go_big_quiet_step (fail))
      refine wpQuiet_nil ?_
      clear u0 n0
      rintro _ ⟨z, rfl⟩
      obtain ⟨W, hW⟩ : ∃ W, z.w = W := ⟨_, rfl⟩
      have S := HS.out.quiet z.ext
      rw [hW] at S
      rw [hW]
      clear hW
      have hU := S.get 0 rfl
      have c1 : W.cell? ⟨cb + 1, k + 1, none⟩ = some (u32v (if k + 1 ≤ k then nxN c (k + 1) else 0)) := (cellOf hU (k + 1)).trans (arrU_at _ (k + 1) (by omega))
      have f1 := freeOf hU (k + 1)
      have hst := heap_setCell_same hU (i := k + 1) (u32v (nxN c (k + 1)))
      rw [arrU_set, arrU_congr (d := fun j => if j ≤ k + 1 then nxN c j else 0) (fun j hj => by
        unfold up1
        by_cases h : j = k + 1
        · rw [if_pos h, if_pos (by omega), h]
        · rw [if_neg h]
          show (if j ≤ k then nxN c j else 0) = _
          by_cases h2 : j ≤ k
          · rw [if_pos h2, if_pos (by omega)]
          · rw [if_neg h2, if_neg (by omega)])] at hst
      have S2 := S.upd 0 (Ob.one (cb + 1) (.cells (arrU fun j => if j ≤ k + 1 then nxN c j else 0) 134 (0, 0))) rfl ((Ext.refl [cb + 1] W).setCell ⟨cb + 1, k + 1, none⟩ (u32v (nxN c (k + 1))) (.inl (by simp))) (Fr.refl _ _) hst
      rw [HSU.out, show u32v (2 * (a + b)) = .int .u32 (((a : Int) + (b : Int)) * 2) from by rw [show ((a : Int) + (b : Int)) * 2 = ((2 * (a + b) : Nat) : Int) from by omega]] at S2
      rw [if_neg (by omega)] at c1
      have HS := Lib.hid S2
      clear S S2 hU hst HSU
      go_wp2_with fail
      go_roundg (16 - (k + 1))
      case measure => omega
      case rel => exact ⟨k + 1, by omega, by omega, by go_num, HS.out⟩
    · obtain rfl : k = 16 := by omega
      have hcg : (arrU fun j => if j ≤ 16 then nxN c j else 0) = arrU (nxN c) := arrU_congr (fun j hj => by rw [if_pos (by omega)])
      rw [hcg] at S
      have hbd : ∀ j, j < 17 → nxN c j ≤ 65536 + 0 := fun j hj => by
        by_cases h : j ≤ 15
        · have h1 := HH.out.2.2.1 j h
          have h2 : 2 ^ j ≤ 2 ^ 15 := Nat.pow_le_pow_right (by omega) h
          omega
        · obtain rfl : j = 16 := by omega
          have h1 := HH.out.2.2.1 15 (by omega)
          have h2 : nxN c 16 = 2 * (nxN c 15 + c 15) := rfl
          omega
      obtain ⟨w4, hmk, hown, hgrow⟩ := run_make_full (P := Try.prog) wr 0 79 30 j0 (.int .u32 0) 1 Try.underlying79 hjf hy0 hy1 .i64 .i64 l.length (by rw [hy2]; omega) (by unfold maxLen; omega) (by omega)
      have hx4 : Ext [] wr w4 := (Ext.refl [] wr).grown hgrow (fun k hk => by cases hk)
      have S := S.new hx4 (oSl 30 1 (.slice (some ⟨wr.heap.size, 0, none⟩) l.length l.length) l.length ((([] : List Nat) ++ List.replicate (l.length - 0) 0).map u32v)) (by
        have hm : (madeCells (Value.int .u32 0).cells (l.length * 1)).toList = (([] : List Nat) ++ List.replicate (l.length - 0) 0).map u32v := by
          rw [List.nil_append, List.map_replicate, Nat.mul_one, Nat.sub_zero]
          exact toList_madeCells_one _ _
        rw [← hm]; exact hown) (fun q hq => by simp [oSl, Value.ownBlock] at hq; omega)
      have HR2 := Lib.hid (show ([] : List Nat) ++ codesF (l.drop 0) (nxN c) = R from by rw [List.drop_zero, List.nil_append]; exact HR.out)
      have HBD := Lib.hid hbd
      have HRG := Lib.hid HH.out.2.1
      generalize nxN c = nx at *
      have HS := Lib.hid S
      obtain ⟨q, hq⟩ : ∃ q, wr.heap.size = q := ⟨_, rfl⟩
      rw [hq] at hmk HS
      clear hx4 hown hgrow S hcg hbd HR HH hq
      go_wp2_with fail
      clear hmk
      go_loopg [51] l.length (fun g iv wr2 => ∃ (k : Nat) (P : List Nat) (nx : Nat → Nat), g + k = l.length ∧ iv = .int .i64 k ∧ P.length = k ∧ P ++ codesF (l.drop k) nx = R ∧ (∀ j, j < 17 → nx j ≤ 65536 + k) ∧ Sep w wr2 [oSl 30 1 (.slice (some ⟨q, 0, none⟩) l.length l.length) l.length ((P ++ List.replicate (l.length - k) 0).map u32v), Ob.one (cb + 1) (.cells (arrU nx) 134 (0, 0)), Ob.one cb (.cells (arrC c) 129 (0, 0))])
      case atStart => exact ⟨0, [], nx, by omega, rfl, rfl, HR2.out, HBD.out, HS.out⟩
      case round =>
        clear HS HR2 HBD
        obtain ⟨k, P, nx, hk, rfl, hP, hR, hbd, S⟩ := hrel
        by_cases hlt : k < l.length
        · obtain ⟨b, off, rfl, hcell⟩ := HC.out (by omega)
          obtain ⟨x, hck⟩ : ∃ x, l[k]? = some x := ⟨_, List.getElem?_eq_getElem hlt⟩
          have d0 := Ext.cell S.ext (hcell k x hck)
          have hxr := HRG.out x (List.mem_of_getElem? hck)
          obtain ⟨m, rfl⟩ : ∃ m : Nat, x = m := ⟨x.toNat, by omega⟩
          have hdr : l.drop k = (m : Int) :: l.drop (k + 1) := by
            obtain ⟨h1, h2⟩ := List.getElem?_eq_some_iff.1 hck
            rw [List.drop_eq_getElem_cons h1, h2]
          rw [hdr, codesF, Int.toNat_natCast] at hR
          obtain ⟨r, hr⟩ : ∃ r, l.length - k = r + 1 := ⟨l.length - k - 1, by omega⟩
          have hr2 : l.length - (k + 1) = r := by omega
          rw [hr] at S
          clear hdr hcell hck
          by_cases h0 : 0 < m
          · rw [if_pos (by omega)] at hR
            have hrow : wr.ownsRow 0 30 1 (.slice (some ⟨q, 0, none⟩) l.length l.length) l.length ((P ++ List.replicate (r + 1) 0).map u32v) := S.get 0 rfl
            have hU := S.get 1 rfl
            have hnm := hbd m (by omega)
            have n0 : wr.cell? ⟨cb + 1, m, none⟩ = some (u32v (nx m)) := (cellOf hU m).trans (arrU_at _ m (by omega))
            have o0 : wr.cell? ⟨q, k, none⟩ = some (u32v 0) := ownsRow_at hrow (by rw [List.getElem?_map, List.getElem?_append_right (by omega), hP, Nat.sub_self]; rfl)
            have o1 := ownsRow_free hrow k
            have hst := ownsRow_store (i := k) hrow (u32v (nx m))
            rw [← List.map_set, List.set_append, if_neg (by omega), hP, Nat.sub_self, List.replicate_succ, List.set_cons_zero, List.append_cons] at hst
            have S1 := S.upd 0 (oSl 30 1 (.slice (some ⟨q, 0, none⟩) l.length l.length) l.length (List.map u32v (P ++ [nx m] ++ List.replicate r (0 : Nat)))) rfl ((Ext.refl _ wr).setCell ⟨q, k, none⟩ (u32v (nx m)) (.inl (by simp [oSl, Value.ownBlock]))) (Fr.refl _ _) hst
            have hU1 := S1.get 1 rfl
            have n1 : (wr.setCell ⟨q, k, none⟩ (u32v (nx m))).cell? ⟨cb + 1, m, none⟩ = some (u32v (nx m)) := (cellOf hU1 m).trans (arrU_at _ m (by omega))
            have n2 : (wr.setCell ⟨q, k, none⟩ (u32v (nx m))).frozen? ⟨cb + 1, m, none⟩ = false := freeOf hU1 m
            have hst2 := heap_setCell_same hU1 (i := m) (u32v (nx m + 1))
            rw [arrU_set] at hst2
            have S2 := S1.upd 1 (Ob.one (cb + 1) (.cells (arrU (up1 nx m (nx m + 1))) 134 (0, 0))) rfl ((Ext.refl [cb + 1] _).setCell ⟨cb + 1, m, none⟩ (u32v (nx m + 1)) (.inl (by simp))) (Fr.refl _ _) hst2
            rw [show u32v (nx m + 1) = .int .u32 ((nx m : Int) + 1) from by rw [show ((nx m : Int) + 1) = ((nx m + 1 : Nat) : Int) from by omega]] at S2
            have hbd2 : ∀ j, j < 17 → up1 nx m (nx m + 1) j ≤ 65536 + (k + 1) := fun j hj => by
              have := hbd j hj
              unfold up1
              split
              · rename_i h; subst h; omega
              · omega
            have HF := Lib.hid (⟨hR, hbd2, S2, hr2, hP⟩ : _ ∧ _ ∧ _ ∧ _ ∧ _)
            generalize nx m = a at n0 n1 n2 hnm HF
            have hm16 : (m : Int) < 17 := by omega
            have h0' : (0 : Int) < (m : Int) := by omega
            clear hR hbd hbd2 S S1 S2 hst hst2 hU hU1 hrow hP hr hr2 hxr
            go_wp2_with fail
            go_roundg (l.length - (k + 1))
            case measure => omega
            case rel =>
              obtain ⟨hR, hbd2, S2, hr2, hP⟩ := HF.out
              exact ⟨k + 1, P ++ [a], up1 nx m (a + 1), by omega, by go_num, by simp [hP], by rw [← List.append_cons]; exact hR, hbd2, by rw [hr2]; exact S2⟩
          · rw [if_neg (by omega)] at hR
            obtain rfl : m = 0 := by omega
            rw [List.replicate_succ, List.append_cons] at S
            have HF := Lib.hid (⟨hR, (fun j hj => by have := hbd j hj; omega : ∀ j, j < 17 → nx j ≤ 65536 + (k + 1)), S, hr2, hP⟩ : _ ∧ _ ∧ _ ∧ _ ∧ _)
            clear hR hbd S hP hr hr2 hxr
            go_wp2_with fail
            go_roundg (l.length - (k + 1))
            case measure => omega
            case rel =>
              obtain ⟨hR, hbd2, S2, hr2, hP⟩ := HF.out
              exact ⟨k + 1, P ++ [0], nx, by omega, by go_num, by simp [hP], by rw [← List.append_cons]; exact hR, hbd2, by rw [hr2]; exact S2⟩
        · obtain rfl : k = l.length := by omega
          rw [List.drop_length, codesF, List.append_nil] at hR
          subst hR
          rw [Nat.sub_self, List.replicate_zero, List.append_nil] at S
          have HS := Lib.hid S
          clear S hbd hP
          go_wp2_with fail
          exact bodyPost_ret (results_tmp2 rfl _ _ _) rfl ⟨_, rfl, HS.out.ext, HS.out.get 0 rfl, HS.out.base _ (List.mem_cons_self ..)⟩
end Go.Proofs.Ytgjenpdppobpkaa.Hu

/-! HuJ: huff: slices.Clone, slices.Max at int; Lens walked. -/
namespace Go.Proofs.Ytgjenpdppobpkaa.Hu
open Go.RowKit

theorem append_of_nil7 {P : Program} (w : World) (base : Nat) (t ty e : TypeId) (i : TypeInfo) (size : Nat) (ht : P.underlying t = some (.slice e)) (hi : P.info? e = some i)
    (v : Value) (n : Nat) (xs : List Value) (hown : w.ownsRow base e size v n xs) (c : Nat) : (Builtin.append_ #[t, t] ty #[v, .slice none 0 c]).run P w = .ok v w := by
  rcases hown.2 with ⟨rfl, rfl⟩ | ⟨g, cap, cur, rfl, _, _, hnc, _⟩
  · simp [Builtin.append_, run_underlying ht, sizeOf, typeInfo, hi, Builtin.lenOf, Builtin.firstCells]
  · simp [Builtin.append_, run_underlying ht, sizeOf, typeInfo, hi, Builtin.lenOf, Builtin.firstCells, hnc, storeCells]
theorem IntsAt.cells {w : World} {a : Addr} {n cap : Nat} {l : List Int} (h : IntsAt w (.slice (some a) n cap) l) (j : Nat) (u : Value) (hu : (l.map iz)[j]? = some u) : w.cell? (a.add j) = some u := by
  have hj : j < l.length := by have := (List.getElem?_eq_some_iff.1 hu).1; simpa using this
  obtain ⟨ao, cap', he, hc⟩ := h
  obtain ⟨b, off, rfl, hcell⟩ := hc (by omega)
  injection he with h1 h2 h3
  injection h1 with h1
  subst h1
  have ad : (⟨b, off, none⟩ : Addr).add j = ⟨b, off + j, none⟩ := by unfold Addr.add; split <;> simp_all
  rw [List.getElem?_map] at hu
  cases hx : l[j]? with
  | none => rw [hx] at hu; cases hu
  | some x =>
    rw [hx] at hu
    rw [ad, hcell j x hx, ← hu]
    rfl
/-- an own copy: append([]int{}, l...) in a world where an empty row has been made -/
theorem copy_ints (w : World) (ao : Option Addr) (cap : Nat) (l : List Int) (h : IntsAt w (.slice ao l.length cap) l) (hl : l.length ≤ 1048576) (hcap : ao = none → cap = 0) (hn0 : ao = none → l.length = 0) :
    ∃ v' w', (∀ ty, (Builtin.append_ #[42, 42] ty #[.slice (some ⟨w.heap.size, 0, none⟩) 0 0, .slice ao l.length cap]).run Try.prog (w.alloc (.cells #[] 3)) = .ok v' w') ∧ Ext [] w w' ∧ (oSl 3 1 v' l.length (l.map iz)).P w' ∧ ∀ k ∈ v'.ownBlock.toList, w.heap.size ≤ k := by
  obtain ⟨i0, hif, hz0, hz1, hz2⟩ := info_parts infoInt7
  have hxW : Ext [] w (w.alloc (.cells #[] 3)) := (Ext.refl _ w).alloc _
  have hE : (w.alloc (.cells #[] 3)).ownsRow 0 3 1 (.slice (some ⟨w.heap.size, 0, none⟩) 0 0) 0 [] :=
    ⟨rfl, .inr ⟨w.heap.size, 0, #[], rfl, Nat.zero_le _, heap_alloc_at _, Nat.le_refl _, by unfold maxLen; omega, rfl, rfl⟩⟩
  cases ao with
  | none =>
    obtain rfl : cap = 0 := hcap rfl
    have h0 : l = [] := List.eq_nil_of_length_eq_zero (hn0 rfl)
    subst h0
    exact ⟨_, _, fun ty => append_of_nil7 _ 0 42 ty 3 i0 1 Try.underlying42 hif _ 0 [] hE 0, hxW, hE, by simp [Value.ownBlock]⟩
  | some a =>
    have hcells : ∀ j u, (l.map iz)[j]? = some u → (w.alloc (.cells #[] 3)).cell? (a.add j) = some u := fun j u hu => Ext.cell hxW (h.cells j u hu)
    have h1 : ∀ u ∈ l.map iz, u.oneCell' = true := fun u hu => by
      obtain ⟨x, _, rfl⟩ := List.mem_map.1 hu
      rfl
    obtain ⟨v', w', hr, hown, hgr, _, hat⟩ := run_append_own_at (P := Try.prog) (w.alloc (.cells #[] 3)) 0 42 0 3 i0 _ 1 8 Try.underlying42 hif hz0 hz1 hz2 rfl (by decide) _ 0 [] hE a l.length cap (l.map iz) (by simp) hcells h1 (by unfold maxLen; omega) (by omega) (Nat.zero_le _)
    rw [Nat.zero_add] at hown
    refine ⟨v', w', fun ty => hr, hxW.trans' (T := [w.heap.size]) ((Ext.refl _ _).grown hgr (fun k hk => .inl (by simpa [Value.ownBlock] using hk.symm))) (fun i hi h => by simp at h; omega), hown, fun k hk => ?_⟩
    have hk : v'.ownBlock = some k := by simpa using hk
    rcases hat with e | e
    · rw [e] at hk; simp [Value.ownBlock] at hk; omega
    · rw [e] at hk; simp at hk; omega
/-- the argument []int -/
def IntsArg (w : World) (v : Value) (l : List Int) : Prop := IntsAt w v l ∧ ∃ ao cap, v = .slice ao l.length cap ∧ l.length ≤ cap ∧ cap ≤ maxLen ∧ (ao = none → cap = 0)
theorem IntsArg.ext {w w' : World} {v : Value} {l : List Int} (h : IntsArg w v l) (hx : Ext [] w w') : IntsArg w' v l := ⟨h.1.ext hx, h.2⟩
theorem IntsArg.of_own {w : World} {v : Value} {l : List Int} (h : w.ownsRow 0 3 1 v l.length (l.map iz)) : IntsArg w v l := by
  refine ⟨IntsAt.of_own h, ?_⟩
  rcases h.2 with ⟨rfl, hn⟩ | ⟨g, cap, cs, rfl, _, hg, hnc, hcap, hsz, ht⟩
  · exact ⟨none, 0, by rw [hn], by omega, by unfold maxLen; omega, fun _ => rfl⟩
  · exact ⟨_, cap, rfl, hnc, hcap, fun h => by cases h⟩
def NewInts (w : World) (l : List Int) (e : Ending) (w' : World) : Prop := ∃ v', e = .returned v' ∧ Ext [] w w' ∧ (oSl 3 1 v' l.length (l.map iz)).P w' ∧ ∀ k ∈ v'.ownBlock.toList, w.heap.size ≤ k
set_option maxRecDepth 100000 in
set_option maxHeartbeats 8000000 in
theorem clone_walk (v : Value) (l : List Int) (w : World) (hv : IntsArg w v l) (hl : l.length ≤ 1048576) :
    Calls Try.prog 87 #[v] w (NewInts w l) := by
  obtain ⟨hA, ao, cap, rfl, hcap, hcm, hnil⟩ := hv
  obtain ⟨v', w', hr, hx, hp, hn⟩ := copy_ints w ao cap l hA hl hnil (fun h => by have := hnil h; omega)
  have HXP := Lib.hid (⟨hx, hp, hn⟩ : _ ∧ _ ∧ _)
  cases ao with
  | none =>
    obtain rfl : cap = 0 := hnil rfl
    have h0 : l = [] := List.eq_nil_of_length_eq_zero (by omega)
    subst h0
    have hq := fun w1 => Lib.run_eql_slice_nil (P := Try.prog) w1 42 3 none 0 0 0 0 Try.underlying42
    clear hr hx hp hn HXP
    go_enter Try.func87, Try.ntmps87
    go_wp2_with fail
    go_ret
    exact ⟨_, rfl, Ext.refl _ _, World.ownsRow_nil _ _ _ _, by simp [Value.ownBlock]⟩
  | some a =>
    have hq := fun w1 => Lib.run_eql_slice_nil (P := Try.prog) w1 42 3 (some a) l.length cap 0 0 Try.underlying42
    clear hx hp hn hA
    go_enter Try.func87, Try.ntmps87
    go_wp2_with (at_builtin; refine wpList_plain rfl (fun K hK => wp_append_run _ _ _ _ rfl rfl rfl (hr _) (hK _ _ ?_)))
    go_ret
    exact ⟨_, rfl, HXP.out.1, HXP.out.2.1, HXP.out.2.2⟩
def maxL : List Int → Int
  | [] => 0
  | x :: l => l.foldl max x
end Go.Proofs.Ytgjenpdppobpkaa.Hu

/-! HuK: huff.Lens walked. -/
namespace Go.Proofs.Ytgjenpdppobpkaa.Hu
open Go.RowKit

def halfL (l : List Int) : List Int := l.map fun n => (n + 1) / 2
def okB (m : Int) (f : List Int) : Bool := decide (f.length = 0 ∨ maxL (deepN f) ≤ m)
def lensF : Nat → Int → List Int → List Int
  | 0, _, f => deepN f
  | k + 1, m, f => if okB m f = true then deepN f else lensF k m (halfL f)
def fitB : Nat → Int → List Int → Bool
  | 0, m, f => okB m f
  | k + 1, m, f => okB m f || fitB k m (halfL f)
def someN (l : List Int) : Nat := l.countP fun x => decide (0 < x)
def lensErr (l : List Int) (m : Int) : Bool := (l.any fun x => decide (x < 0 ∨ 1099511627776 < x)) || decide (288 < l.length ∨ m < 1 ∨ 15 < m ∨ ((2 ^ m.toNat : Nat) : Int) < (someN l : Int))
theorem deepN_len (l : List Int) : (deepN l).length = l.length := by
  unfold deepN
  split
  · rw [List.length_set, zers_len]
  · generalize mrgF _ _ _ = L
    cases L with
    | nil => exact zers_len _
    | cons x L => rw [topD, setD_len, zers_len]
theorem lensF_len : ∀ k m f, (lensF k m f).length = f.length
  | 0, m, f => deepN_len f
  | k + 1, m, f => by
    rw [lensF]
    split
    · exact deepN_len f
    · rw [lensF_len k m]; simp [halfL]
theorem someN_snoc (l : List Int) (x : Int) : someN (l ++ [x]) = someN l + if 0 < x then 1 else 0 := by
  unfold someN
  rw [List.countP_append, List.countP_singleton]
  by_cases h : 0 < x <;> simp [h]
theorem someN_le (l : List Int) : someN l ≤ l.length := List.countP_le_length
theorem lensErr_false {l : List Int} {m : Int} (h : lensErr l m = false) : (∀ x ∈ l, 0 ≤ x ∧ x ≤ 1099511627776) ∧ l.length ≤ 288 ∧ 1 ≤ m ∧ m ≤ 15 ∧ someN l ≤ 2 ^ m.toNat := by
  unfold lensErr at h
  rw [Bool.or_eq_false_iff, List.any_eq_false] at h
  have h2 := of_decide_eq_false h.2
  refine ⟨fun x hx => ?_, by omega, by omega, by omega, by omega⟩
  have := h.1 x hx
  simp at this
  omega
def NewTwo (w : World) (l : List Int) (e : Ending) (w' : World) : Prop := ∃ v', e = .returned (.tuple #[v', .int .i64 0]) ∧ Ext [] w w' ∧ (oSl 3 1 v' l.length (l.map iz)).P w' ∧ ∀ k ∈ v'.ownBlock.toList, w.heap.size ≤ k
theorem half_rng {f : List Int} (h : ∀ c ∈ f, 0 ≤ c ∧ c ≤ 1099511627776) : ∀ c ∈ halfL f, 0 ≤ c ∧ c ≤ 1099511627776 := fun c hc => by
  obtain ⟨x, hx, rfl⟩ := List.mem_map.1 hc
  have := h x hx
  omega
end Go.Proofs.Ytgjenpdppobpkaa.Hu

/-! HuM: huff.Codes and huff.Lens of lengths and counts that may not be. -/
namespace Go.Proofs.Ytgjenpdppobpkaa.Hu
open Go.RowKit

set_option maxRecDepth 100000 in
set_option maxHeartbeats 4000000 in
theorem codes_err (v : Value) (l : List Int) (w : World) (hv : IntsAt w v l) (hl : l.length ≤ 1048576) (he : codesE l ≠ 0) :
    Calls Try.prog 86 #[v] w fun e w' => e = .returned (.tuple #[.slice none 0 0, .int .i64 (codesE l)]) ∧ Ext [] w w' := by
  have hst := state_walk v l w hv hl
  by_cases hb : badL l = true
  · have e : stateN l = (0, 2) := by unfold stateN; rw [if_pos hb]
    have e2 : codesE l = 2 := by unfold codesE; rw [if_pos hb]
    rw [e] at hst
    rw [e2]
    have HST := Lib.hid hst
    obtain ⟨ao, cap, rfl, hc⟩ := hv
    clear hst hc hb e e2 he
    go_enter Try.func86, Try.ntmps86
    go_wp2_with fail
    refine HST.out.mono ?_
    clear HST
    rintro e w1 ⟨rfl, hx1⟩
    have HX := Lib.hid hx1
    clear hx1
    go_wp2_with fail
    exact bodyPost_ret (results_tmp2 rfl _ _ _) rfl ⟨rfl, HX.out⟩
  · have e2 : codesE l = if 32768 < kra l then 4 else 0 := by unfold codesE; rw [if_neg hb]
    have hk : 32768 < kra l := by
      rw [e2] at he
      split at he
      · assumption
      · exact absurd rfl he
    rw [if_pos hk] at e2
    have hcz : cmpZ (kra l) 32768 = 1 := by
      rcases cmpZ_cases (kra l) 32768 with ⟨h, _⟩ | ⟨_, h⟩ | ⟨h, h2⟩ <;> omega
    have e : stateN l = (1, 0) := by unfold stateN; rw [if_neg hb, hcz]
    rw [e] at hst
    rw [e2]
    have HST := Lib.hid hst
    obtain ⟨ao, cap, rfl, hc⟩ := hv
    clear hst hc hb e e2 he hk hcz
    go_enter Try.func86, Try.ntmps86
    go_wp2_with fail
    refine HST.out.mono ?_
    clear HST
    rintro e w1 ⟨rfl, hx1⟩
    have HX := Lib.hid hx1
    clear hx1
    go_wp2_with fail
    exact bodyPost_ret (results_tmp2 rfl _ _ _) rfl ⟨rfl, HX.out⟩

end Go.Proofs.Ytgjenpdppobpkaa.Hu
