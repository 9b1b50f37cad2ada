/-
  HuP, HuQ, HuA, HuB, HuC, HuR, HuD, HuE, HuF, HuG, HuH, HuI, HuJ, HuK, HuM, in one text.
-/
import Derived.Test.YtnapnaaejignaaaGreatPkA
import Derived.Laws.OwnMore
import Derived.IntWalk
import Derived.Laws.Rows
import Derived.Laws.Tables
import Derived.Deep.CutBlock
import Derived.Deep.DeepCutAuto
import Derived.Maps.AppendAt
/-! HuP: Plain: a heap as container/heap keeps it, over whatever order; no program is in sight here. -/
namespace Go.Proofs.YtnapnaaejignaaaGreat.Hu

section
variable {E : Type} [Inhabited E] (lt : E → E → Bool)
def at_ (h : List E) (i : Nat) : E := h.getD i default
def swp (h : List E) (i j : Nat) : List E := (h.set i (at_ h j)).set j (at_ h i)
def downF : Nat → List E → Nat → Nat → List E
  | 0, h, _, _ => h
  | k + 1, h, i, n =>
    if n ≤ 2 * i + 1 then h
    else
      let j := if 2 * i + 2 < n ∧ lt (at_ h (2 * i + 2)) (at_ h (2 * i + 1)) = true then 2 * i + 2 else 2 * i + 1
      if lt (at_ h j) (at_ h i) = true then downF k (swp h i j) j n else h
def upF : Nat → List E → Nat → List E
  | 0, h, _ => h
  | k + 1, h, j => if (j - 1) / 2 = j then h else if lt (at_ h j) (at_ h ((j - 1) / 2)) = true then upF k (swp h ((j - 1) / 2) j) ((j - 1) / 2) else h
def initF (n : Nat) : Nat → List E → List E
  | 0, h => h
  | i + 1, h => initF n i (downF lt n h i n)
theorem swp_len (h : List E) (i j : Nat) : (swp h i j).length = h.length := by simp [swp]
theorem at_swp (h : List E) (i j k : Nat) (hi : i < h.length) (hj : j < h.length) : at_ (swp h i j) k = if k = j then at_ h i else if k = i then at_ h j else at_ h k := by
  unfold swp
  show ((h.set i (at_ h j)).set j (at_ h i)).getD k default = _
  rw [List.getD_eq_getElem?_getD, List.getElem?_set]
  by_cases h1 : j = k
  · subst h1
    rw [if_pos rfl, if_pos (by simpa using hj), if_pos rfl]
    rfl
  · rw [if_neg h1, if_neg (fun e => h1 e.symm), List.getElem?_set]
    by_cases h2 : i = k
    · subst h2
      rw [if_pos rfl, if_pos hi, if_pos rfl]
      rfl
    · rw [if_neg h2, if_neg (fun e => h2 e.symm)]
      unfold at_
      rw [List.getD_eq_getElem?_getD]
theorem swp_perm (h : List E) (i j : Nat) (hi : i < h.length) (hj : j < h.length) : (swp h i j).Perm h := by
  have e : swp h i j = (h.toArray.swap i j (by simpa using hi) (by simpa using hj)).toList := by
    apply List.ext_getElem?
    intro k
    rw [show (h.toArray.swap i j (by simpa using hi) (by simpa using hj)).toList[k]? = (h.toArray.swap i j (by simpa using hi) (by simpa using hj))[k]? from by simp, Array.getElem?_swap]
    unfold swp at_
    simp only [List.getD_eq_getElem?_getD, List.getElem?_eq_getElem hi, List.getElem?_eq_getElem hj, Option.getD_some]
    rw [List.getElem?_set]
    by_cases h1 : j = k
    · subst h1
      simp [hj]
    · rw [if_neg h1, List.getElem?_set]
      by_cases h2 : i = k
      · subst h2
        simp [h1, hi]
      · simp [h1, h2]
  rw [e]
  have := Array.swap_perm (xs := h.toArray) (i := i) (j := j) (by simpa using hi) (by simpa using hj)
  simpa using this.toList
def HeapFrom (lo n : Nat) (h : List E) : Prop := ∀ k, k < n → 0 < k → lo ≤ (k - 1) / 2 → lt (at_ h k) (at_ h ((k - 1) / 2)) = false
variable (ht : ∀ a b c, lt a b = false → lt b c = false → lt a c = false) (ha : ∀ a b, lt a b = true → lt b a = false)
include ht ha
theorem downF_heap (lo n : Nat) : ∀ f (h : List E) i, n ≤ h.length → lo ≤ i → n ≤ i + f → (∀ k, k < n → 0 < k → lo ≤ (k - 1) / 2 → (k - 1) / 2 ≠ i → lt (at_ h k) (at_ h ((k - 1) / 2)) = false) →
    (∀ k, k < n → 0 < k → (k - 1) / 2 = i → 0 < i → lo ≤ (i - 1) / 2 → lt (at_ h k) (at_ h ((i - 1) / 2)) = false) →
    HeapFrom lt lo n (downF lt f h i n)
  | 0, h, i, hn, hlo, hf, h1, h2 => fun k hk hk0 hl => h1 k hk hk0 hl (by omega)
  | f + 1, h, i, hn, hlo, hf, h1, h2 => by
    rw [downF]
    by_cases hc : n ≤ 2 * i + 1
    · rw [if_pos hc]
      exact fun k hk hk0 hl => h1 k hk hk0 hl (by omega)
    rw [if_neg hc]
    obtain ⟨j, hj⟩ : ∃ j, (if 2 * i + 2 < n ∧ lt (at_ h (2 * i + 2)) (at_ h (2 * i + 1)) = true then 2 * i + 2 else 2 * i + 1) = j := ⟨_, rfl⟩
    simp only [hj]
    have hjn : j < n ∧ (j - 1) / 2 = i ∧ 0 < j ∧ i < j := by rw [← hj]; split <;> omega
    have hsib : ∀ k, k < n → 0 < k → (k - 1) / 2 = i → lt (at_ h k) (at_ h j) = false := fun k hk hk0 hki => by
      have hkk : k = 2 * i + 1 ∨ k = 2 * i + 2 := by omega
      by_cases hb : 2 * i + 2 < n ∧ lt (at_ h (2 * i + 2)) (at_ h (2 * i + 1)) = true
      · rw [if_pos hb] at hj
        subst hj
        rcases hkk with rfl | rfl
        · exact ha _ _ hb.2
        · cases hx : lt (at_ h (2 * i + 2)) (at_ h (2 * i + 2))
          · rfl
          · exact hx ▸ ha _ _ hx
      · rw [if_neg hb] at hj
        subst hj
        rcases hkk with rfl | rfl
        · cases hx : lt (at_ h (2 * i + 1)) (at_ h (2 * i + 1))
          · rfl
          · exact hx ▸ ha _ _ hx
        · cases hx : lt (at_ h (2 * i + 2)) (at_ h (2 * i + 1))
          · rfl
          · exact absurd ⟨hk, hx⟩ hb
    by_cases hlt : lt (at_ h j) (at_ h i) = true
    · rw [if_pos hlt]
      have hi' : i < h.length := by omega
      have hj' : j < h.length := by omega
      have hat := fun k => at_swp h i j k hi' hj'
      refine downF_heap lo n f (swp h i j) j (by rw [swp_len]; exact hn) (by omega) (by omega) (fun k hk hk0 hl hp => ?_) (fun k hk hk0 hp _ hl => ?_)
      · rw [hat, hat]
        by_cases hpi : (k - 1) / 2 = i
        · rw [hpi]
          rw [if_neg (show i ≠ j by omega), if_pos rfl]
          by_cases hkj : k = j
          · rw [if_pos hkj]; exact ha _ _ hlt
          · rw [if_neg hkj, if_neg (by omega)]
            exact hsib k hk hk0 hpi
        · rw [if_neg hp, if_neg hpi]
          by_cases hkj : k = j
          · exact absurd (by rw [hkj]; exact hjn.2.1) hpi
          · rw [if_neg hkj]
            by_cases hki : k = i
            · subst hki
              rw [if_pos rfl]
              exact h2 j hjn.1 hjn.2.2.1 hjn.2.1 hk0 hl
            · rw [if_neg hki]
              exact h1 k hk hk0 hl hpi
      · rw [hjn.2.1, hat, hat, if_neg (show k ≠ j by omega), if_neg (show k ≠ i by omega), if_neg (show i ≠ j by omega), if_pos rfl]
        have := h1 k hk hk0 (by omega) (by omega)
        rw [hp] at this
        exact this
    · rw [if_neg hlt]
      have hlt' : lt (at_ h j) (at_ h i) = false := by simpa using hlt
      intro k hk hk0 hl
      by_cases hp : (k - 1) / 2 = i
      · rw [hp]
        exact ht _ _ _ (hsib k hk hk0 hp) hlt'
      · exact h1 k hk hk0 hl hp
omit ht ha
theorem downF_perm (n : Nat) : ∀ f (h : List E) i, n ≤ h.length → i < h.length → (downF lt f h i n).Perm h
  | 0, h, i, hn, hi => List.Perm.refl _
  | f + 1, h, i, hn, hi => by
    rw [downF]
    split
    · exact List.Perm.refl _
    · rename_i hc
      obtain ⟨j, hj⟩ : ∃ j, (if 2 * i + 2 < n ∧ lt (at_ h (2 * i + 2)) (at_ h (2 * i + 1)) = true then 2 * i + 2 else 2 * i + 1) = j := ⟨_, rfl⟩
      simp only [hj]
      have hjn : j < n := by rw [← hj]; split <;> omega
      split
      · exact (downF_perm n f (swp h i j) j (by rw [swp_len]; exact hn) (by rw [swp_len]; omega)).trans (swp_perm h i j hi (by omega))
      · exact List.Perm.refl _
theorem downF_len (n : Nat) : ∀ f (h : List E) i, (downF lt f h i n).length = h.length
  | 0, h, i => rfl
  | f + 1, h, i => by
    rw [downF]
    split
    · rfl
    · obtain ⟨j, hj⟩ : ∃ j, (if 2 * i + 2 < n ∧ lt (at_ h (2 * i + 2)) (at_ h (2 * i + 1)) = true then 2 * i + 2 else 2 * i + 1) = j := ⟨_, rfl⟩
      simp only [hj]
      split
      · rw [downF_len, swp_len]
      · rfl
theorem downF_far (n : Nat) : ∀ f (h : List E) i, n ≤ h.length → i < n → ∀ k, n ≤ k → at_ (downF lt f h i n) k = at_ h k
  | 0, h, i, hn, hi, k, hk => rfl
  | f + 1, h, i, hn, hi, k, hk => by
    rw [downF]
    split
    · rfl
    · rename_i hc
      obtain ⟨j, hj⟩ : ∃ j, (if 2 * i + 2 < n ∧ lt (at_ h (2 * i + 2)) (at_ h (2 * i + 1)) = true then 2 * i + 2 else 2 * i + 1) = j := ⟨_, rfl⟩
      simp only [hj]
      have hjn : j < n := by rw [← hj]; split <;> omega
      split
      · rw [downF_far n f (swp h i j) j (by rw [swp_len]; exact hn) hjn k hk, at_swp h i j k (by omega) (by omega), if_neg (by omega), if_neg (by omega)]
      · rfl
include ht ha
theorem upF_heap (n : Nat) : ∀ f (h : List E) j, n ≤ h.length → j < n → j < f → (∀ k, k < n → 0 < k → k ≠ j → lt (at_ h k) (at_ h ((k - 1) / 2)) = false) →
    (∀ k, k < n → 0 < k → (k - 1) / 2 = j → 0 < j → lt (at_ h k) (at_ h ((j - 1) / 2)) = false) → HeapFrom lt 0 n (upF lt f h j)
  | 0, h, j, hn, hj, hf, h1, h2 => by omega
  | f + 1, h, j, hn, hj, hf, h1, h2 => by
    rw [upF]
    by_cases hc : (j - 1) / 2 = j
    · rw [if_pos hc]
      exact fun k hk hk0 _ => h1 k hk hk0 (by omega)
    rw [if_neg hc]
    have hj0 : 0 < j := by omega
    obtain ⟨i, hi⟩ : ∃ i, (j - 1) / 2 = i := ⟨_, rfl⟩
    rw [hi]
    rw [hi] at h2
    by_cases hlt : lt (at_ h j) (at_ h i) = true
    · rw [if_pos hlt]
      have hat := fun k => at_swp h i j k (by omega) (by omega)
      refine upF_heap n f (swp h i j) i (by rw [swp_len]; exact hn) (by omega) (by omega) (fun k hk hk0 hki => ?_) (fun k hk hk0 hp hi0 => ?_)
      · rw [hat, hat]
        by_cases hkj : k = j
        · subst hkj
          rw [if_pos rfl, hi, if_neg (by omega), if_pos rfl]
          exact ha _ _ hlt
        · rw [if_neg hkj, if_neg hki]
          by_cases hpj : (k - 1) / 2 = j
          · rw [if_pos hpj]
            exact h2 k hk hk0 hpj hj0
          · rw [if_neg hpj]
            by_cases hpi : (k - 1) / 2 = i
            · rw [if_pos hpi]
              have := h1 k hk hk0 hkj
              rw [hpi] at this
              exact ht _ _ _ this (ha _ _ hlt)
            · rw [if_neg hpi]
              exact h1 k hk hk0 hkj
      · rw [hat, hat, if_neg (show (i - 1) / 2 ≠ j by omega), if_neg (show (i - 1) / 2 ≠ i by omega)]
        have hii := h1 i (by omega) hi0 (by omega)
        by_cases hkj : k = j
        · rw [if_pos hkj]; exact hii
        · rw [if_neg hkj, if_neg (by omega)]
          have := h1 k hk hk0 hkj
          rw [hp] at this
          exact ht _ _ _ this hii
    · rw [if_neg hlt]
      have hlt' : lt (at_ h j) (at_ h i) = false := by simpa using hlt
      intro k hk hk0 _
      by_cases hkj : k = j
      · rw [hkj, hi]; exact hlt'
      · exact h1 k hk hk0 hkj
omit ht ha
theorem upF_perm : ∀ f (h : List E) j, j < h.length → (upF lt f h j).Perm h
  | 0, h, j, hj => List.Perm.refl _
  | f + 1, h, j, hj => by
    rw [upF]
    split
    · exact List.Perm.refl _
    · split
      · exact (upF_perm f _ _ (by rw [swp_len]; omega)).trans (swp_perm h _ j (by omega) hj)
      · exact List.Perm.refl _
theorem upF_len : ∀ f (h : List E) j, (upF lt f h j).length = h.length
  | 0, h, j => rfl
  | f + 1, h, j => by
    rw [upF]
    split
    · rfl
    · split
      · rw [upF_len, swp_len]
      · rfl
include ht
theorem heap_min {n : Nat} {h : List E} (hp : HeapFrom lt 0 n h) (hr : ∀ a, lt a a = false) : ∀ k, k < n → lt (at_ h k) (at_ h 0) = false := by
  intro k
  induction k using Nat.strongRecOn with
  | ind k ih =>
    intro hk
    by_cases h0 : k = 0
    · rw [h0]; exact hr _
    · exact ht _ _ _ (hp k hk (by omega) (Nat.zero_le _)) (ih _ (by omega) (by omega))
include ha
theorem initF_heap (n : Nat) : ∀ i (h : List E), n = h.length → 2 * i ≤ n → (∀ k, k < n → 0 < k → i ≤ (k - 1) / 2 → lt (at_ h k) (at_ h ((k - 1) / 2)) = false) → HeapFrom lt 0 n (initF lt n i h) ∧ (initF lt n i h).Perm h
  | 0, h, hn, _, h1 => ⟨fun k hk hk0 hl => h1 k hk hk0 hl, List.Perm.refl _⟩
  | i + 1, h, hn, hi, h1 => by
    rw [initF]
    have hd := downF_heap lt ht ha i n n h i (by omega) (Nat.le_refl _) (by omega) (fun k hk hk0 hl hp => h1 k hk hk0 (by omega)) (fun k hk hk0 hp h0 hl => by omega)
    have hpm := downF_perm lt n n h i (by omega) (by omega)
    obtain ⟨r1, r2⟩ := initF_heap n i (downF lt n h i n) (by rw [downF_len]; exact hn) (by omega) (fun k hk hk0 hl => hd k hk hk0 hl)
    exact ⟨r1, r2.trans hpm⟩
end
end Go.Proofs.YtnapnaaejignaaaGreat.Hu

/-! HuQ: Plain: nodes of a Huffman tree and their order. No program is in sight here. -/
namespace Go.Proofs.YtnapnaaejignaaaGreat.Hu

inductive Nd where
  | leaf (c : Int) (s : Nat)
  | join (c : Int) (g : Nat) (a b : Nd)
instance : Inhabited Nd := ⟨.leaf 0 0⟩
namespace Nd
def cnt : Nd → Int
  | leaf c _ => c
  | join c _ _ _ => c
def mk : Nd → Bool
  | leaf _ _ => false
  | join _ _ _ _ => true
def age : Nd → Nat
  | leaf _ s => s
  | join _ g _ _ => g
end Nd
def cmpZ (a b : Int) : Int := if a < b then -1 else if b < a then 1 else 0
def b2i (b : Bool) : Int := if b then 1 else 0
def or3 (a b c : Int) : Int := if a ≠ 0 then a else if b ≠ 0 then b else c
def ordZ (x y : Nd) : Int := or3 (cmpZ x.cnt y.cnt) (cmpZ (b2i x.mk) (b2i y.mk)) (cmpZ x.age y.age)
def ndLt (x y : Nd) : Bool := decide (ordZ x y < 0)
theorem cmpZ_cases (a b : Int) : (a < b ∧ cmpZ a b = -1) ∨ (b < a ∧ cmpZ a b = 1) ∨ (a = b ∧ cmpZ a b = 0) := by
  unfold cmpZ
  by_cases h : a < b
  · exact .inl ⟨h, if_pos h⟩
  · by_cases h2 : b < a
    · exact .inr (.inl ⟨h2, by rw [if_neg h, if_pos h2]⟩)
    · exact .inr (.inr ⟨by omega, by rw [if_neg h, if_neg h2]⟩)
/-- the order, told by numbers -/
theorem ndLt_iff (x y : Nd) : ndLt x y = true ↔ x.cnt < y.cnt ∨ (x.cnt = y.cnt ∧ (b2i x.mk < b2i y.mk ∨ (b2i x.mk = b2i y.mk ∧ x.age < y.age))) := by
  unfold ndLt ordZ or3
  rw [decide_eq_true_iff]
  rcases cmpZ_cases x.cnt y.cnt with ⟨h1, h2⟩ | ⟨h1, h2⟩ | ⟨h1, h2⟩ <;> rcases cmpZ_cases (b2i x.mk) (b2i y.mk) with ⟨h3, h4⟩ | ⟨h3, h4⟩ | ⟨h3, h4⟩ <;> rcases cmpZ_cases x.age y.age with ⟨h5, h6⟩ | ⟨h5, h6⟩ | ⟨h5, h6⟩ <;>
    rw [h2, h4, h6] <;> simp <;> omega
theorem ndLt_false (x y : Nd) : ndLt x y = false ↔ ¬ (x.cnt < y.cnt ∨ (x.cnt = y.cnt ∧ (b2i x.mk < b2i y.mk ∨ (b2i x.mk = b2i y.mk ∧ x.age < y.age)))) := by
  rw [← ndLt_iff]; simp
theorem ndLt_trans (a b c : Nd) (h1 : ndLt a b = false) (h2 : ndLt b c = false) : ndLt a c = false := by
  rw [ndLt_false] at *; omega
theorem ndLt_asymm (a b : Nd) (h : ndLt a b = true) : ndLt b a = false := by
  rw [ndLt_iff] at h; rw [ndLt_false]; omega
theorem ndLt_irr (a : Nd) : ndLt a a = false := by rw [ndLt_false]; omega
theorem ndLt_tr (a b c : Nd) (h1 : ndLt a b = true) (h2 : ndLt b c = true) : ndLt a c = true := by
  rw [ndLt_iff] at *; omega
/-- the order of what stands in a heap: an address, a node -/
abbrev Pn := Nat × Nd
def pnLt (x y : Pn) : Bool := ndLt x.2 y.2
theorem pnLt_trans (a b c : Pn) (h1 : pnLt a b = false) (h2 : pnLt b c = false) : pnLt a c = false := ndLt_trans _ _ _ h1 h2
theorem pnLt_asymm (a b : Pn) (h : pnLt a b = true) : pnLt b a = false := ndLt_asymm _ _ h
end Go.Proofs.YtnapnaaejignaaaGreat.Hu

/-! HuA: huff: cmp.Compare, cmp.Or at int; the nodes' order walked. -/
namespace Go.Proofs.YtnapnaaejignaaaGreat.Hu
open Go.RowKit

set_option maxHeartbeats 2000000 in
theorem isNaN_walk (a : Int) (w : World) : Calls Tryz.prog 107 #[.int .i64 a] w fun e w' => e = .returned (.bool false) ∧ w = w' := by
  go_enter Tryz.func107, Tryz.ntmps107
  go_wp2
  go_ret
  exact ⟨rfl, rfl⟩
set_option maxRecDepth 100000 in
set_option maxHeartbeats 4000000 in
theorem cmp_walk (a b : Int) (w : World) : Calls Tryz.prog 104 #[.int .i64 a, .int .i64 b] w fun e w' => e = .returned (.int .i64 (cmpZ a b)) ∧ w = w' := by
  rcases cmpZ_cases a b with ⟨h, e⟩ | ⟨h, e⟩ | ⟨h, e⟩
  · rw [e]
    clear e
    go_enter Tryz.func104, Tryz.ntmps104
    go_wp2_with fail
    refine (isNaN_walk _ _).mono ?_; rintro e w1 ⟨rfl, rfl⟩
    go_wp2_with fail
    refine (isNaN_walk _ _).mono ?_; rintro e w1 ⟨rfl, rfl⟩
    go_wp2_with fail
    go_ret
    exact ⟨rfl, rfl⟩
  · rw [e]
    have h' : ¬ a < b := by omega
    clear e
    go_enter Tryz.func104, Tryz.ntmps104
    go_wp2_with fail
    refine (isNaN_walk _ _).mono ?_; rintro e w1 ⟨rfl, rfl⟩
    go_wp2_with fail
    refine (isNaN_walk _ _).mono ?_; rintro e w1 ⟨rfl, rfl⟩
    go_wp2_with fail
    go_ret
    exact ⟨rfl, rfl⟩
  · rw [e]
    subst h
    have h' : ¬ a < a := by omega
    clear e
    go_enter Tryz.func104, Tryz.ntmps104
    go_wp2_with fail
    refine (isNaN_walk _ _).mono ?_; rintro e w1 ⟨rfl, rfl⟩
    go_wp2_with fail
    refine (isNaN_walk _ _).mono ?_; rintro e w1 ⟨rfl, rfl⟩
    go_wp2_with fail
    go_ret
    exact ⟨rfl, rfl⟩
set_option maxRecDepth 100000 in
set_option maxHeartbeats 4000000 in
theorem or_walk (a b c : Int) (g cap : Nat) (w : World) (h0 : w.cell? ⟨g, 0, none⟩ = some (.int .i64 a)) (h1 : w.cell? ⟨g, 1, none⟩ = some (.int .i64 b)) (h2 : w.cell? ⟨g, 2, none⟩ = some (.int .i64 c)) :
    Calls Tryz.prog 138 #[.slice (some ⟨g, 0, none⟩) 3 cap] w fun e w' => e = .returned (.int .i64 (or3 a b c)) ∧ w = w' := by
  obtain ⟨R, hR⟩ : ∃ R, or3 a b c = R := ⟨_, rfl⟩
  rw [hR]
  have HR := Lib.hid hR
  have HC := Lib.hid (⟨h0, h1, h2⟩ : _ ∧ _ ∧ _)
  clear hR h0 h1 h2
  go_enter Tryz.func138, Tryz.ntmps138
  go_wp2_with fail
  go_loopg [5, 8] 3 (fun gg _ iv wr => ∃ k : Nat, gg + k = 3 ∧ iv = .int .i64 k ∧ (0 < k → a = 0) ∧ (1 < k → b = 0) ∧ (2 < k → c = 0) ∧ w = wr)
  case atStart => exact ⟨0, by omega, rfl, by omega, by omega, by omega, rfl⟩
  case round =>
    obtain ⟨k, hk, rfl, k0, k1, k2, rfl⟩ := hrel
    by_cases hlt : k < 3
    · have hv : ∃ x, w.cell? ⟨g, k, none⟩ = some (.int .i64 x) ∧ (x ≠ 0 → R = x) ∧ (x = 0 → (0 < k + 1 → a = 0) ∧ (1 < k + 1 → b = 0) ∧ (2 < k + 1 → c = 0)) := by
        have hR := HR.out
        unfold or3 at hR
        match k, hlt with
        | 0, _ => exact ⟨a, HC.out.1, fun h => by rw [if_pos h] at hR; exact hR.symm, fun h => ⟨fun _ => h, by omega, by omega⟩⟩
        | 1, _ => exact ⟨b, HC.out.2.1, fun h => by rw [if_neg (by simp [k0 (by omega)]), if_pos h] at hR; exact hR.symm, fun h => ⟨fun _ => k0 (by omega), fun _ => h, by omega⟩⟩
        | 2, _ => exact ⟨c, HC.out.2.2, fun h => by rw [if_neg (by simp [k0 (by omega)]), if_neg (by simp [k1 (by omega)])] at hR; exact hR.symm, fun h => ⟨fun _ => k0 (by omega), fun _ => k1 (by omega), fun _ => h⟩⟩
      obtain ⟨x, hx, hx1, hx2⟩ := hv
      have HX1 := Lib.hid hx1
      have HX2 := Lib.hid hx2
      clear hx1 hx2 k0 k1 k2
      by_cases h0 : x = 0
      · subst h0
        go_wp2_with fail
        go_roundg (3 - (k + 1))
        case measure => omega
        case rel => exact ⟨k + 1, by omega, by go_num, (HX2.out (by trivial)).1, (HX2.out (by trivial)).2.1, (HX2.out (by trivial)).2.2, rfl⟩
      · have e0 : (x == 0) = false := beq_eq_false_iff_ne.2 h0
        have e1 : (x != 0) = true := by simpa using h0
        have hRx := HX1.out h0
        subst hRx
        clear h0
        go_wp2_with fail
        go_ret
        exact ⟨rfl, rfl⟩
    · obtain rfl : k = 3 := by omega
      have hR : R = 0 := by
        have hR := HR.out
        unfold or3 at hR
        rw [if_neg (by simp [k0 (by omega)]), if_neg (by simp [k1 (by omega)])] at hR
        rw [← hR]; exact k2 (by omega)
      subst hR
      clear k0 k1 k2
      go_wp2_with fail
      go_ret
      exact ⟨rfl, rfl⟩
/-! ### nodes in memory -/
abbrev ptr (a : Nat) : Value := .pointer (some ⟨a, 0, none⟩)
abbrev ndO (x : Nd) (p : Value) : Obj := .cells #[.int .i64 x.cnt, .bool x.mk, .int .i64 (x.age : Int), p] 145 (0, 0)
set_option maxHeartbeats 2000000 in
theorem made_walk (a : Nat) (x : Nd) (p : Value) (w : World) (h : w.heap[a]? = some (ndO x p)) : Calls Tryz.prog 137 #[ptr a] w fun e w' => e = .returned (.int .i64 (b2i x.mk)) ∧ w = w' := by
  have c1 : w.cell? ⟨a, 1, none⟩ = some (.bool x.mk) := cellOf h 1
  cases hm : x.mk
  · rw [hm] at c1
    clear hm h
    go_enter Tryz.func137, Tryz.ntmps137
    go_wp2
    go_ret
    exact ⟨rfl, rfl⟩
  · rw [hm] at c1
    clear hm h
    go_enter Tryz.func137, Tryz.ntmps137
    go_wp2
    go_ret
    exact ⟨rfl, rfl⟩
set_option maxRecDepth 100000 in
set_option maxHeartbeats 8000000 in
theorem compare_walk (a b : Nat) (x y : Nd) (p q : Value) (w : World) (ha : w.heap[a]? = some (ndO x p)) (hb : w.heap[b]? = some (ndO y q)) :
    Calls Tryz.prog 136 #[ptr a, ptr b] w fun e w' => e = .returned (.int .i64 (ordZ x y)) ∧ Ext [] w w' := by
  have a0 : ∀ z : Ex w, z.w.cell? ⟨a, 0, none⟩ = some (.int .i64 x.cnt) := fun z => cellOf (z.heap ha) 0
  have a2 : ∀ z : Ex w, z.w.cell? ⟨a, 2, none⟩ = some (.int .i64 (x.age : Int)) := fun z => cellOf (z.heap ha) 2
  have b0 : ∀ z : Ex w, z.w.cell? ⟨b, 0, none⟩ = some (.int .i64 y.cnt) := fun z => cellOf (z.heap hb) 0
  have b2 : ∀ z : Ex w, z.w.cell? ⟨b, 2, none⟩ = some (.int .i64 (y.age : Int)) := fun z => cellOf (z.heap hb) 2
  have HAB := Lib.hid (⟨ha, hb⟩ : _ ∧ _)
  clear ha hb
  go_enter Tryz.func136, Tryz.ntmps136
  go_wp2_with fail
  refine wp_region_quiet_tail (C := fun w' => ∃ x : Ex w, w' = x.w) 25 (by kernel_rfl) (by kernel_rfl) ⟨Ex.mk _ ((Ext.refl [] w).drew), rfl⟩ ?_
  simp only [List.take_succ_cons, List.take_zero, List.drop_succ_cons, List.drop_zero]
  repeat (go_big_quiet_step (first
    | (go_at_call 104; refine (cmp_walk _ _ _).mono ?_; rintro e w' ⟨rfl, rfl⟩; exact ⟨rfl, _, rfl⟩)
    | (go_at_call 137; refine (made_walk a x p _ (Ex.heap _ HAB.out.1)).mono ?_; rintro e w' ⟨rfl, rfl⟩; exact ⟨rfl, _, rfl⟩)
    | (go_at_call 137; refine (made_walk b y q _ (Ex.heap _ HAB.out.2)).mono ?_; rintro e w' ⟨rfl, rfl⟩; exact ⟨rfl, _, rfl⟩)))
  refine wpQuiet_nil ?_
  rintro _ ⟨z, rfl⟩
  have HZ := Lib.hid z.ext
  clear a0 a2 b0 b2
  obtain ⟨W, hW⟩ : ∃ W, z.w = W := ⟨_, rfl⟩
  rw [hW] at HZ
  rw [hW]
  clear hW
  have hB := heap_alloc_at (w := W) (.cells #[.int .i64 (cmpZ x.cnt y.cnt), .int .i64 (cmpZ (b2i x.mk) (b2i y.mk)), .int .i64 (cmpZ x.age y.age)] 3)
  have HOR := Lib.hid (or_walk (cmpZ x.cnt y.cnt) (cmpZ (b2i x.mk) (b2i y.mk)) (cmpZ x.age y.age) W.heap.size 3 _ (cellOf hB 0) (cellOf hB 1) (cellOf hB 2))
  clear hB
  go_wp2_with fail
  refine HOR.out.mono ?_
  clear HOR
  rintro e w1 ⟨rfl, rfl⟩
  go_wp2_with fail
  go_ret
  exact ⟨rfl, HZ.out.alloc _⟩

/-! ### the heap's row -/
def pv (p : Pn) : Value := ptr p.1
/-- node a in the world: its blocks are of N -/
def NdAt (w : World) (N : List Nat) : Nat → Nd → Prop
  | a, .leaf c s => a ∈ N ∧ w.heap[a]? = some (ndO (.leaf c s) (.slice none 0 0))
  | a, .join c g x y => a ∈ N ∧ ∃ r ax ay, r ∈ N ∧ w.heap[a]? = some (ndO (.join c g x y) (.slice (some ⟨r, 0, none⟩) 2 2)) ∧ w.heap[r]? = some (.cells #[ptr ax, ptr ay] 143 (0, 0)) ∧ NdAt w N ax x ∧ NdAt w N ay y
theorem NdAt.ext {S N : List Nat} {w w' : World} (hx : Ext S w w') (hN : ∀ k ∈ N, k ∉ S) : ∀ {x : Nd} {a : Nat}, NdAt w N a x → NdAt w' N a x
  | .leaf _ _, _, h => ⟨h.1, hx.keep h.2 (hN _ h.1)⟩
  | .join _ _ _ _, _, ⟨h1, r, ax, ay, h2, h3, h4, h5, h6⟩ => ⟨h1, r, ax, ay, h2, hx.keep h3 (hN _ h1), hx.keep h4 (hN _ h2), NdAt.ext hx hN h5, NdAt.ext hx hN h6⟩
theorem NdAt.mono {N M : List Nat} {w : World} (hN : ∀ k ∈ N, k ∈ M) : ∀ {x : Nd} {a : Nat}, NdAt w N a x → NdAt w M a x
  | .leaf _ _, _, h => ⟨hN _ h.1, h.2⟩
  | .join _ _ _ _, _, ⟨h1, r, ax, ay, h2, h3, h4, h5, h6⟩ => ⟨hN _ h1, r, ax, ay, hN _ h2, h3, h4, NdAt.mono hN h5, NdAt.mono hN h6⟩
theorem NdAt.head {N : List Nat} {w : World} {x : Nd} {a : Nat} (h : NdAt w N a x) : ∃ p, w.heap[a]? = some (ndO x p) := by
  cases x with
  | leaf c s => exact ⟨_, h.2⟩
  | join c g x y => obtain ⟨_, _, _, _, _, h3, _⟩ := h; exact ⟨_, h3⟩
theorem NdAt.lt {N : List Nat} {w : World} {x : Nd} {a : Nat} (h : NdAt w N a x) : a < w.heap.size := by
  obtain ⟨p, hp⟩ := h.head
  exact lt_of_block hp
/-- the row of a heap, and the nodes that it tells -/
structure HpR (w : World) (v : Value) (N : List Nat) (H : List Pn) : Prop where
  own : w.ownsRow 0 143 1 v H.length (H.map pv)
  far : ∀ g, v.ownBlock = some g → g ∉ N
  nds : ∀ p ∈ H, NdAt w N p.1 p.2
  lt : ∀ k ∈ N, k < w.heap.size
theorem HpR.ext {S N : List Nat} {w w' : World} {v : Value} {H : List Pn} (h : HpR w v N H) (hx : Ext S w w') (hv : ∀ g, v.ownBlock = some g → g ∉ S) (hN : ∀ k ∈ N, k ∉ S) : HpR w' v N H :=
  ⟨ownsRow_ext h.own hx hv, h.far, fun p hp => (h.nds p hp).ext hx hN, fun k hk => Nat.lt_of_lt_of_le (h.lt k hk) hx.size⟩
theorem HpR.form {N : List Nat} {w : World} {v : Value} {H : List Pn} (h : HpR w v N H) (h0 : 0 < H.length) : ∃ g cap, v = .slice (some ⟨g, 0, none⟩) H.length cap ∧ H.length ≤ cap ∧ cap ≤ maxLen := by
  rcases h.own.2 with ⟨_, hn⟩ | ⟨g, cap, cs, rfl, _, hg, hnc, hcap, _⟩
  · omega
  · exact ⟨g, cap, rfl, hnc, hcap⟩
theorem at_get {H : List Pn} {i : Nat} (h : i < H.length) : H[i]? = some (at_ H i) := by
  unfold at_
  rw [List.getD_eq_getElem?_getD, List.getElem?_eq_getElem h]
  rfl
theorem HpR.cell {N : List Nat} {w : World} {g cap : Nat} {H : List Pn} (h : HpR w (.slice (some ⟨g, 0, none⟩) H.length cap) N H) {i : Nat} (hi : i < H.length) : w.cell? ⟨g, i, none⟩ = some (ptr (at_ H i).1) :=
  ownsRow_at h.own (by rw [List.getElem?_map, at_get hi]; rfl)
set_option maxRecDepth 100000 in
set_option maxHeartbeats 4000000 in
theorem less_walk (v : Value) (N : List Nat) (H : List Pn) (i j : Nat) (w : World) (hR : HpR w v N H) (hi : i < H.length) (hj : j < H.length) :
    Calls Tryz.prog 134 #[v, .int .i64 i, .int .i64 j] w fun e w' => e = .returned (.bool (pnLt (at_ H i) (at_ H j))) ∧ Ext [] w w' := by
  obtain ⟨g, cap, rfl, _, _⟩ := hR.form (by omega)
  have hi' : ∀ z : Ex w, z.w.cell? ⟨g, i, none⟩ = some (ptr (at_ H i).1) := fun z => z.cell (hR.cell hi)
  have hj' : ∀ z : Ex w, z.w.cell? ⟨g, j, none⟩ = some (ptr (at_ H j).1) := fun z => z.cell (hR.cell hj)
  obtain ⟨p, hp⟩ := (hR.nds _ (List.mem_of_getElem? (at_get hi))).head
  obtain ⟨q, hq⟩ := (hR.nds _ (List.mem_of_getElem? (at_get hj))).head
  have HPQ := Lib.hid (⟨hp, hq⟩ : _ ∧ _)
  have e : pnLt (at_ H i) (at_ H j) = decide (ordZ (at_ H i).2 (at_ H j).2 < 0) := rfl
  rw [e]
  generalize at_ H i = x at *
  generalize at_ H j = y at *
  obtain ⟨xa, x⟩ := x
  obtain ⟨ya, y⟩ := y
  simp only at hi' hj' HPQ ⊢
  clear hp hq e hR
  go_enter Tryz.func134, Tryz.ntmps134
  go_wp2_with fail
  refine wp_region_ext (by kernel_rfl) (by kernel_rfl) ?_
  repeat (go_big_quiet_step ((go_at_call 136; refine (compare_walk xa ya x y p q _ (Ex.heap _ HPQ.out.1) (Ex.heap _ HPQ.out.2)).mono ?_; rintro e w' ⟨rfl, hx⟩; exact ⟨rfl, Ex.mk _ (Ext.trans (Ex.ext _) hx), rfl⟩)))
  refine wpQuiet_nil ?_
  rintro _ ⟨z, rfl⟩
  have HZ := Lib.hid z.ext
  go_wp2_with fail
  go_ret
  exact ⟨rfl, HZ.out⟩
set_option maxHeartbeats 2000000 in
theorem len_walk (ao : Option Addr) (n cap : Nat) (w : World) : Calls Tryz.prog 133 #[.slice ao n cap] w fun e w' => e = .returned (.int .i64 n) ∧ w = w' := by
  go_enter Tryz.func133, Tryz.ntmps133
  go_wp2
  go_ret
  exact ⟨rfl, rfl⟩
end Go.Proofs.YtnapnaaejignaaaGreat.Hu

/-! HuB: huff: the heap's methods walked. -/
namespace Go.Proofs.YtnapnaaejignaaaGreat.Hu
open Go.RowKit

theorem swp_map (H : List Pn) (i j : Nat) : (swp H i j).map pv = ((H.map pv).set i (pv (at_ H j))).set j (pv (at_ H i)) := by
  unfold swp
  rw [List.map_set, List.map_set]
theorem at_mem {H : List Pn} {i : Nat} (h : i < H.length) : at_ H i ∈ H := List.mem_of_getElem? (at_get h)
theorem mem_swp {H : List Pn} {i j : Nat} (hi : i < H.length) (hj : j < H.length) {p : Pn} (h : p ∈ swp H i j) : p ∈ H := by
  unfold swp at h
  rcases List.mem_or_eq_of_mem_set h with h | h
  · rcases List.mem_or_eq_of_mem_set h with h | h
    · exact h
    · rw [h]; exact at_mem hj
  · rw [h]; exact at_mem hi
set_option maxRecDepth 100000 in
set_option maxHeartbeats 4000000 in
theorem swap_walk (v : Value) (N : List Nat) (H : List Pn) (i j : Nat) (w : World) (hR : HpR w v N H) (hi : i < H.length) (hj : j < H.length) :
    Calls Tryz.prog 135 #[v, .int .i64 i, .int .i64 j] w fun e w' => e = .returned (.tuple #[]) ∧ Ext v.ownBlock.toList w w' ∧ HpR w' v N (swp H i j) := by
  obtain ⟨g, cap, rfl, _, _⟩ := hR.form (by omega)
  have ci : w.cell? ⟨g, i, none⟩ = some (ptr (at_ H i).1) := hR.cell hi
  have cj : w.cell? ⟨g, j, none⟩ = some (ptr (at_ H j).1) := hR.cell hj
  have fi : w.frozen? ⟨g, i, none⟩ = false := ownsRow_free hR.own i
  have fj : w.frozen? ⟨g, j, none⟩ = false := ownsRow_free hR.own j
  have hst := ownsRow_store (i := j) (ownsRow_store (i := i) hR.own (pv (at_ H j))) (pv (at_ H i))
  rw [← swp_map] at hst
  have hx2 : Ext [g] w ((w.setCell ⟨g, i, none⟩ (pv (at_ H j))).setCell ⟨g, j, none⟩ (pv (at_ H i))) := ((Ext.refl [g] w).setCell _ _ (.inl (by simp))).setCell _ _ (.inl (by simp))
  have hfin : Ext [g] w ((w.setCell ⟨g, i, none⟩ (ptr (at_ H j).1)).setCell ⟨g, j, none⟩ (ptr (at_ H i).1)) ∧ HpR ((w.setCell ⟨g, i, none⟩ (ptr (at_ H j).1)).setCell ⟨g, j, none⟩ (ptr (at_ H i).1)) (.slice (some ⟨g, 0, none⟩) H.length cap) N (swp H i j) := by
    have hgN : ∀ k ∈ N, k ∉ [g] := fun k hk h => by simp at h; subst h; exact hR.far k rfl hk
    refine ⟨hx2, ⟨by rw [swp_len]; exact hst, hR.far, fun p hp => (hR.nds p (mem_swp hi hj hp)).ext hx2 hgN, fun k hk => Nat.lt_of_lt_of_le (hR.lt k hk) hx2.size⟩⟩
  have HF := Lib.hid hfin
  have cj2 : (w.setCell ⟨g, i, none⟩ (ptr (at_ H j).1)).cell? ⟨g, j, none⟩ = some (ptr (at_ H j).1) := by
    refine ownsRow_at (ownsRow_store (i := i) hR.own (pv (at_ H j))) ?_
    rw [List.getElem?_set]
    split
    · rw [if_pos (by rw [List.length_map]; omega)]; rfl
    · rw [List.getElem?_map, at_get hj]; rfl
  have fj2 : (w.setCell ⟨g, i, none⟩ (ptr (at_ H j).1)).frozen? ⟨g, j, none⟩ = false := ownsRow_free (ownsRow_store (i := i) hR.own (pv (at_ H j))) j
  generalize (at_ H i).1 = x at *
  generalize (at_ H j).1 = y at *
  clear hfin hst hx2 hR
  go_enter Tryz.func135, Tryz.ntmps135
  go_wp2_with fail
  go_region
  go_wp2_with fail
  go_end0
  exact ⟨rfl, HF.out.1.drew, HF.out.2.ext ((Ext.refl [] _).drew) (by simp) (by simp)⟩
/-! ### methods of *nodes, called through heap.Interface -/
theorem run_wrapNil (ts : Array TypeId) (t : TypeId) (a : Addr) (x y : String) (w : World) : (Builtin.ssaWrapNilChk_ ts t #[.pointer (some a), strVal x, strVal y]).run Tryz.prog w = .ok (.pointer (some a)) w := rfl
theorem method_of {w : World} {lb : Nat} {v : Value} (name : String) (f : FuncId) (k : Nat) (hc : w.cell? ⟨lb, 0, none⟩ = some v)
    (hm : ((Tryz.prog.info? 147).bind fun i => (i.methods.find? (·.name == name)).map fun m => (m.path, m.func)) = some (#[], some (f, false))) :
    (method (k + 1) 147 (ptr lb) name).run Tryz.prog w = .ok (f, v) w := by
  cases hi : Tryz.prog.info? 147 with
  | none => rw [hi] at hm; cases hm
  | some i =>
    rw [hi] at hm
    simp only [Option.bind_some] at hm
    cases hf : i.methods.find? (·.name == name) with
    | none => rw [hf] at hm; cases hm
    | some m =>
      rw [hf] at hm
      simp only [Option.map_some, Option.some.injEq, Prod.mk.injEq] at hm
      obtain ⟨h1, h2⟩ := hm
      simp [method, typeInfo, hi, hf, h1, h2, follow, receiverAt, run_underlying Tryz.underlying147, Place.get, run_wrapNil, asAddr, loadVar, hc, go_sem]
theorem method_ptr {w : World} {lb : Nat} (name : String) (f : FuncId) (k : Nat)
    (hm : ((Tryz.prog.info? 147).bind fun i => (i.methods.find? (·.name == name)).map fun m => (m.path, m.func)) = some (#[], some (f, true))) :
    (method (k + 1) 147 (ptr lb) name).run Tryz.prog w = .ok (f, ptr lb) w := by
  cases hi : Tryz.prog.info? 147 with
  | none => rw [hi] at hm; cases hm
  | some i =>
    rw [hi] at hm
    simp only [Option.bind_some] at hm
    cases hf : i.methods.find? (·.name == name) with
    | none => rw [hf] at hm; cases hm
    | some m =>
      rw [hf] at hm
      simp only [Option.map_some, Option.some.injEq, Prod.mk.injEq] at hm
      obtain ⟨h1, h2⟩ := hm
      simp [method, typeInfo, hi, hf, h1, h2, follow, receiverAt, run_underlying Tryz.underlying147, Place.get, go_sem]
theorem m_len {w : World} {lb : Nat} {v : Value} (hc : w.cell? ⟨lb, 0, none⟩ = some v) : (method 296 147 (ptr lb) "Len").run Tryz.prog w = .ok (133, v) w := method_of "Len" _ _ hc (by kernel_rfl)
theorem m_less {w : World} {lb : Nat} {v : Value} (hc : w.cell? ⟨lb, 0, none⟩ = some v) : (method 296 147 (ptr lb) "Less").run Tryz.prog w = .ok (134, v) w := method_of "Less" _ _ hc (by kernel_rfl)
theorem m_swap {w : World} {lb : Nat} {v : Value} (hc : w.cell? ⟨lb, 0, none⟩ = some v) : (method 296 147 (ptr lb) "Swap").run Tryz.prog w = .ok (135, v) w := method_of "Swap" _ _ hc (by kernel_rfl)
theorem m_push (w : World) (lb : Nat) : (method 296 147 (ptr lb) "Push").run Tryz.prog w = .ok (140, ptr lb) w := method_ptr "Push" _ _ (by kernel_rfl)
theorem m_pop (w : World) (lb : Nat) : (method 296 147 (ptr lb) "Pop").run Tryz.prog w = .ok (139, ptr lb) w := method_ptr "Pop" _ _ (by kernel_rfl)
end Go.Proofs.YtnapnaaejignaaaGreat.Hu

/-! HuC: container/heap over huff's nodes walked. -/
namespace Go.Proofs.YtnapnaaejignaaaGreat.Hu
open Go.RowKit

/-- a heap in a variable: block lb holds the slice v -/
structure HpO (w : World) (lb : Nat) (v : Value) (N : List Nat) (H : List Pn) : Prop where
  var : w.heap[lb]? = some (.cells #[v] 142 (0, 0))
  row : HpR w v N H
  ne : v.ownBlock ≠ some lb
  nN : lb ∉ N
theorem HpO.ext {S N : List Nat} {w w' : World} {lb : Nat} {v : Value} {H : List Pn} (h : HpO w lb v N H) (hx : Ext S w w') (hl : lb ∉ S) (hv : ∀ g, v.ownBlock = some g → g ∉ S) (hN : ∀ k ∈ N, k ∉ S) : HpO w' lb v N H :=
  ⟨hx.keep h.var hl, h.row.ext hx hv hN, h.ne, h.nN⟩
theorem HpO.quiet {N : List Nat} {w w' : World} {lb : Nat} {v : Value} {H : List Pn} (h : HpO w lb v N H) (hx : Ext [] w w') : HpO w' lb v N H := h.ext hx (by simp) (by simp) (by simp)
theorem HpO.turn {N : List Nat} {w w' : World} {lb : Nat} {v : Value} {H H' : List Pn} (h : HpO w lb v N H) (hx : Ext v.ownBlock.toList w w') (hr : HpR w' v N H') : HpO w' lb v N H' :=
  ⟨hx.keep h.var (fun hm => h.ne (by simpa using hm)), hr, h.ne, h.nN⟩
theorem HpO.slice {N : List Nat} {w : World} {lb : Nat} {v : Value} {H : List Pn} (h : HpO w lb v N H) : ∃ ao cap, v = .slice ao H.length cap := by
  rcases h.row.own.2 with ⟨h0, hn⟩ | ⟨g, cap, cs, h0, _⟩
  · exact ⟨none, 0, by rw [h0, hn]⟩
  · exact ⟨_, cap, h0⟩
theorem downF_stop {E : Type} [Inhabited E] (lt : E → E → Bool) (n f i : Nat) (H : List E) (h : n ≤ 2 * i + 1) : downF lt f H i n = H := by
  cases f
  · rfl
  · rw [downF, if_pos h]
set_option maxRecDepth 100000 in
set_option maxHeartbeats 8000000 in
theorem down_walk (lb : Nat) (v : Value) (N : List Nat) (H : List Pn) (i0 n : Nat) (w : World) (hO : HpO w lb v N H) (hi : i0 ≤ n) (hn : n ≤ H.length) (hz : H.length ≤ 1048576) :
    Calls Tryz.prog 102 #[.iface 147 (ptr lb), .int .i64 i0, .int .i64 n] w fun e w' => ∃ b, e = .returned (.bool b) ∧ Ext v.ownBlock.toList w w' ∧ HpO w' lb v N (downF pnLt n H i0 n) := by
  obtain ⟨R, hR⟩ : ∃ R, downF pnLt n H i0 n = R := ⟨_, rfl⟩
  rw [hR]
  have HR := Lib.hid hR
  have HO := Lib.hid hO
  clear hR hO
  go_enter Tryz.func102, Tryz.ntmps102
  go_wp2_with fail
  go_loopg [7] n (fun g iv wr => ∃ (i : Nat) (H' : List Pn), iv = .int .i64 i ∧ n ≤ i + g ∧ i ≤ n ∧ (i < n ∨ g = n) ∧ H'.length = H.length ∧ downF pnLt g H' i n = R ∧ Ext v.ownBlock.toList w wr ∧ HpO wr lb v N H')
  case atStart => exact ⟨i0, H, rfl, by omega, hi, .inr rfl, rfl, HR.out, Ext.refl _ _, HO.out⟩
  case round =>
    clear HO HR
    obtain ⟨i, H', rfl, hg, hin, _, hl, hR, hx, hO⟩ := hrel
    have HO := Lib.hid (⟨hx, hO⟩ : _ ∧ _)
    have m1 := m_less (cellOf hO.var 0)
    clear hx hO
    obtain ⟨j1, hj1⟩ : ∃ j1, 2 * i + 1 = j1 := ⟨_, rfl⟩
    obtain ⟨j2, hj2⟩ : ∃ j2, 2 * i + 2 = j2 := ⟨_, rfl⟩
    have e1 : 2 * (i : Int) + 1 = (j1 : Int) := by omega
    have e2 : (j1 : Int) + 1 = (j2 : Int) := by omega
    have b1 : i < j1 := by omega
    have b2 : j2 ≤ 2097155 := by omega
    have b3 : j1 < j2 := by omega
    by_cases h1 : n ≤ j1
    · rw [downF_stop pnLt n gk i H' (by omega)] at hR
      subst hR
      have q1 : (n : Int) ≤ (j1 : Int) := by omega
      clear hj1 hj2
      go_wp2_with fail
      go_ret
      exact ⟨_, rfl, HO.out.1, HO.out.2⟩
    · obtain ⟨g', rfl⟩ : ∃ g', gk = g' + 1 := ⟨gk - 1, by omega⟩
      rw [downF, if_neg (by omega), hj1, hj2] at hR
      have q1 : (j1 : Int) < (n : Int) := by omega
      have q1' : (0 : Int) ≤ (j1 : Int) := by omega
      by_cases h2 : j2 < n
      · have q2 : (j2 : Int) < (n : Int) := by omega
        have HR := Lib.hid hR
        clear hR hj1 hj2
        go_wp2_with fail
        refine (less_walk v N H' j2 j1 wr (HO.out.2).row (by omega) (by omega)).mono ?_
        rintro e w5 ⟨rfl, hx9⟩
        have HO := Lib.hid (⟨HO.out.1.trans hx9.weak, HO.out.2.quiet hx9⟩ : _ ∧ _)
        have m2 := m_less (cellOf HO.out.2.var 0)
        clear hx9 m1
        cases hb : pnLt (at_ H' j2) (at_ H' j1)
        · have hR := HR.out
          rw [hb] at hR
          simp only [h2, Bool.false_eq_true, and_false, if_false] at hR
          have HR := Lib.hid hR
          clear hb hR
          go_wp2_with fail
          refine (less_walk v N H' j1 i w5 (HO.out.2).row (by omega) (by omega)).mono ?_
          rintro e w6 ⟨rfl, hx9⟩
          have HO := Lib.hid (⟨HO.out.1.trans hx9.weak, HO.out.2.quiet hx9⟩ : _ ∧ _)
          have m3 := m_swap (cellOf HO.out.2.var 0)
          clear hx9 m2
          cases hb2 : pnLt (at_ H' j1) (at_ H' i)
          · have hR := HR.out
            rw [hb2, if_neg (by simp)] at hR
            subst hR
            clear hb2
            go_wp2_with fail
            go_ret
            exact ⟨_, rfl, HO.out.1, HO.out.2⟩
          · have hR := HR.out
            rw [hb2, if_pos rfl] at hR
            have HR := Lib.hid hR
            clear hb2 hR
            go_wp2_with fail
            refine (swap_walk v N H' i j1 w6 (HO.out.2).row (by omega) (by omega)).mono ?_
            rintro e w8 ⟨rfl, hx9, hr9⟩
            have HO := Lib.hid (⟨HO.out.1.trans hx9, HO.out.2.turn hx9 hr9⟩ : _ ∧ _)
            clear hx9 hr9 m3
            go_wp2_with fail
            go_roundg g'
            case measure => omega
            case rel => exact ⟨j1, swp H' i j1, rfl, by omega, by omega, by omega, by rw [swp_len]; exact hl, HR.out, HO.out.1, HO.out.2⟩
        · have hR := HR.out
          rw [hb] at hR
          simp only [h2, and_self, if_true] at hR
          have HR := Lib.hid hR
          clear hb hR
          go_wp2_with fail
          refine (less_walk v N H' j2 i w5 (HO.out.2).row (by omega) (by omega)).mono ?_
          rintro e w6 ⟨rfl, hx9⟩
          have HO := Lib.hid (⟨HO.out.1.trans hx9.weak, HO.out.2.quiet hx9⟩ : _ ∧ _)
          have m3 := m_swap (cellOf HO.out.2.var 0)
          clear hx9 m2
          cases hb2 : pnLt (at_ H' j2) (at_ H' i)
          · have hR := HR.out
            rw [hb2, if_neg (by simp)] at hR
            subst hR
            clear hb2
            go_wp2_with fail
            go_ret
            exact ⟨_, rfl, HO.out.1, HO.out.2⟩
          · have hR := HR.out
            rw [hb2, if_pos rfl] at hR
            have HR := Lib.hid hR
            clear hb2 hR
            go_wp2_with fail
            refine (swap_walk v N H' i j2 w6 (HO.out.2).row (by omega) (by omega)).mono ?_
            rintro e w8 ⟨rfl, hx9, hr9⟩
            have HO := Lib.hid (⟨HO.out.1.trans hx9, HO.out.2.turn hx9 hr9⟩ : _ ∧ _)
            clear hx9 hr9 m3
            go_wp2_with fail
            go_roundg g'
            case measure => omega
            case rel => exact ⟨j2, swp H' i j2, rfl, by omega, by omega, by omega, by rw [swp_len]; exact hl, HR.out, HO.out.1, HO.out.2⟩
      · have q2 : (n : Int) ≤ (j2 : Int) := by omega
        have q2' : decide ((j2 : Int) < (n : Int)) = false := decide_eq_false (by omega)
        simp only [h2, false_and, if_false] at hR
        have HR := Lib.hid hR
        clear hR hj1 hj2
        go_wp2_with fail
        refine (less_walk v N H' j1 i wr (HO.out.2).row (by omega) (by omega)).mono ?_
        rintro e w6 ⟨rfl, hx9⟩
        have HO := Lib.hid (⟨HO.out.1.trans hx9.weak, HO.out.2.quiet hx9⟩ : _ ∧ _)
        have m3 := m_swap (cellOf HO.out.2.var 0)
        clear hx9 m1
        cases hb2 : pnLt (at_ H' j1) (at_ H' i)
        · have hR := HR.out
          rw [hb2, if_neg (by simp)] at hR
          subst hR
          clear hb2
          go_wp2_with fail
          go_ret
          exact ⟨_, rfl, HO.out.1, HO.out.2⟩
        · have hR := HR.out
          rw [hb2, if_pos rfl] at hR
          have HR := Lib.hid hR
          clear hb2 hR
          go_wp2_with fail
          refine (swap_walk v N H' i j1 w6 (HO.out.2).row (by omega) (by omega)).mono ?_
          rintro e w8 ⟨rfl, hx9, hr9⟩
          have HO := Lib.hid (⟨HO.out.1.trans hx9, HO.out.2.turn hx9 hr9⟩ : _ ∧ _)
          clear hx9 hr9 m3
          go_wp2_with fail
          go_roundg g'
          case measure => omega
          case rel => exact ⟨j1, swp H' i j1, rfl, by omega, by omega, by omega, by rw [swp_len]; exact hl, HR.out, HO.out.1, HO.out.2⟩
set_option maxRecDepth 100000 in
set_option maxHeartbeats 8000000 in
theorem up_walk (lb : Nat) (v : Value) (N : List Nat) (H : List Pn) (j0 : Nat) (w : World) (hO : HpO w lb v N H) (hj : j0 < H.length) (hz : H.length ≤ 1048576) :
    Calls Tryz.prog 103 #[.iface 147 (ptr lb), .int .i64 j0] w fun e w' => e = .returned (.tuple #[]) ∧ Ext v.ownBlock.toList w w' ∧ HpO w' lb v N (upF pnLt (j0 + 1) H j0) := by
  obtain ⟨R, hR⟩ : ∃ R, upF pnLt (j0 + 1) H j0 = R := ⟨_, rfl⟩
  rw [hR]
  have HR := Lib.hid hR
  have HO := Lib.hid hO
  clear hR hO
  go_enter Tryz.func103, Tryz.ntmps103
  go_wp2_with fail
  go_loopg [1] (j0 + 1) (fun g iv wr => ∃ (j : Nat) (H' : List Pn), iv = .int .i64 j ∧ j < g ∧ j < H.length ∧ H'.length = H.length ∧ upF pnLt g H' j = R ∧ Ext v.ownBlock.toList w wr ∧ HpO wr lb v N H')
  case atStart => exact ⟨j0, H, rfl, by omega, hj, rfl, HR.out, Ext.refl _ _, HO.out⟩
  case round =>
    clear HO HR
    obtain ⟨j, H', rfl, hg, hin, hl, hR, hx, hO⟩ := hrel
    have HO := Lib.hid (⟨hx, hO⟩ : _ ∧ _)
    have m1 := m_less (cellOf hO.var 0)
    clear hx hO
    obtain ⟨g', rfl⟩ : ∃ g', gk = g' + 1 := ⟨gk - 1, by omega⟩
    by_cases h0 : j = 0
    · subst h0
      rw [upF, if_pos rfl] at hR
      subst hR
      go_wp2_with fail
      go_end0
      exact ⟨rfl, HO.out.1, HO.out.2⟩
    · obtain ⟨i, hi⟩ : ∃ i, (j - 1) / 2 = i := ⟨_, rfl⟩
      have e1 : ((j : Int) - 1) / 2 = (i : Int) := by omega
      have e3 : 0 ≤ (j : Int) - 1 := by omega
      have hij : i < j := by omega
      have hij' : ((i : Int) == (j : Int)) = false := beq_eq_false_iff_ne.2 (by omega)
      rw [upF, if_neg (by omega), hi] at hR
      have HR := Lib.hid hR
      clear hR hi
      go_wp2_with fail
      refine (less_walk v N H' j i wr (HO.out.2).row (by omega) (by omega)).mono ?_
      rintro e w5 ⟨rfl, hx9⟩
      have HO := Lib.hid (⟨HO.out.1.trans hx9.weak, HO.out.2.quiet hx9⟩ : _ ∧ _)
      have m2 := m_swap (cellOf HO.out.2.var 0)
      clear hx9 m1
      cases hb : pnLt (at_ H' j) (at_ H' i)
      · have hR := HR.out
        rw [hb, if_neg (by simp)] at hR
        subst hR
        clear hb
        go_wp2_with fail
        go_end0
        exact ⟨rfl, HO.out.1, HO.out.2⟩
      · have hR := HR.out
        rw [hb, if_pos rfl] at hR
        have HR := Lib.hid hR
        clear hb hR
        go_wp2_with fail
        refine (swap_walk v N H' i j w5 (HO.out.2).row (by omega) (by omega)).mono ?_
        rintro e w8 ⟨rfl, hx9, hr9⟩
        have HO := Lib.hid (⟨HO.out.1.trans hx9, HO.out.2.turn hx9 hr9⟩ : _ ∧ _)
        clear hx9 hr9 m2
        go_wp2_with fail
        go_roundg g'
        case measure => omega
        case rel => exact ⟨i, swp H' i j, rfl, by omega, by omega, by rw [swp_len]; exact hl, HR.out, HO.out.1, HO.out.2⟩
set_option maxRecDepth 100000 in
set_option maxHeartbeats 8000000 in
theorem init_walk (lb : Nat) (v : Value) (N : List Nat) (H : List Pn) (w : World) (hO : HpO w lb v N H) (hz : H.length ≤ 1048576) :
    Calls Tryz.prog 82 #[.iface 147 (ptr lb)] w fun e w' => e = .returned (.tuple #[]) ∧ Ext v.ownBlock.toList w w' ∧ HpO w' lb v N (initF pnLt H.length (H.length / 2) H) := by
  obtain ⟨R, hR⟩ : ∃ R, initF pnLt H.length (H.length / 2) H = R := ⟨_, rfl⟩
  rw [hR]
  obtain ⟨ao, cap, rfl⟩ := hO.slice
  have m1 := m_len (cellOf hO.var 0)
  obtain ⟨n, hn⟩ : ∃ n, H.length = n := ⟨_, rfl⟩
  rw [hn] at hR hz hO m1 ⊢
  obtain ⟨k, hk⟩ : ∃ k, n / 2 = k := ⟨_, rfl⟩
  rw [hk] at hR
  have e1 : (n : Int) / 2 = (k : Int) := by omega
  have hk9 : k ≤ 1048576 := by omega
  have HK := Lib.hid hk
  have HN := Lib.hid hn
  have HR := Lib.hid hR
  have HO := Lib.hid hO
  clear hR hO hk hn
  go_enter Tryz.func82, Tryz.ntmps82
  go_wp2_with fail
  refine (len_walk ao n cap w).mono ?_
  rintro e w1 ⟨rfl, rfl⟩
  go_wp2_with fail
  clear m1 e1
  go_loopg [3] k (fun g iv wr => ∃ H' : List Pn, iv = .int .i64 ((g : Int) - 1) ∧ g ≤ k ∧ H'.length = n ∧ initF pnLt n g H' = R ∧ Ext (Value.slice ao n cap).ownBlock.toList w wr ∧ HpO wr lb (.slice ao n cap) N H')
  case atStart => exact ⟨H, rfl, by omega, HN.out, HR.out, Ext.refl _ _, HO.out⟩
  case round =>
    clear HO HR HN
    obtain ⟨H', rfl, hgk, hl, hR, hx, hO⟩ := hrel
    have HO := Lib.hid (⟨hx, hO⟩ : _ ∧ _)
    have HL := Lib.hid hl
    clear hx hO hl
    cases gk with
    | zero =>
      have hR' : H' = R := hR
      subst hR'
      clear hR
      go_wp2_with fail
      go_end0
      exact ⟨rfl, HO.out.1, HO.out.2⟩
    | succ g' =>
      rw [initF] at hR
      have HR := Lib.hid hR
      clear hR
      have e1 : (((g' + 1 : Nat) : Int)) - 1 = (g' : Int) := by omega
      have E1 := Lib.hid e1
      rw [e1]
      have b1 : (g' : Int) ≤ 1048576 := by omega
      have b2 : (0 : Int) ≤ (g' : Int) := by omega
      clear e1
      go_wp2_with fail
      refine (down_walk lb (.slice ao n cap) N H' g' n _ HO.out.2 (by have := HK.out; omega) (by have := HL.out; omega) (by have := HL.out; omega)).mono ?_
      rintro e w5 ⟨bb, rfl, hx9, ho9⟩
      have HO := Lib.hid (⟨HO.out.1.trans hx9, ho9⟩ : _ ∧ _)
      clear hx9 ho9
      go_wp2_with fail
      go_roundg g'
      case measure => omega
      case rel => exact ⟨downF pnLt n H' g' n, rfl, by omega, by rw [downF_len]; exact HL.out, HR.out, HO.out.1, HO.out.2⟩
end Go.Proofs.YtnapnaaejignaaaGreat.Hu

/-! HuR: Plain: the heap's pops and pushes as a sorted list; the merging of nodes; the depths. No program is in sight here. -/
namespace Go.Proofs.YtnapnaaejignaaaGreat.Hu

def insS (x : Nd) : List Nd → List Nd
  | [] => [x]
  | y :: L => if ndLt x y = true then x :: y :: L else y :: insS x L
def srtS : List Nd → List Nd
  | [] => []
  | x :: L => insS x (srtS L)
def mrgF : Nat → Nat → List Nd → List Nd
  | k + 1, g, a :: b :: L => mrgF k (g + 1) (insS (.join (a.cnt + b.cnt) g a b) L)
  | _, _, L => L
def setD : Nd → Nat → List Int → List Int
  | .leaf _ s, d, L => L.set s d
  | .join _ _ a b, d, L => setD b (d + 1) (setD a (d + 1) L)
def leavesF : List Int → Nat → List Nd
  | [], _ => []
  | c :: l, k => if 0 < c then .leaf c k :: leavesF l (k + 1) else leavesF l (k + 1)
def Srt (L : List Nd) : Prop := L.Pairwise (fun x y => ndLt x y = true)
/-- one of two comes first -/
def Tri (x y : Nd) : Prop := ndLt x y = true ∨ ndLt y x = true
theorem insS_perm (x : Nd) : ∀ L, (insS x L).Perm (x :: L)
  | [] => List.Perm.refl _
  | y :: L => by
    rw [insS]
    split
    · exact List.Perm.refl _
    · exact ((insS_perm x L).cons y).trans (List.Perm.swap x y L)
theorem insS_len (x : Nd) (L : List Nd) : (insS x L).length = L.length + 1 := (insS_perm x L).length_eq
theorem srtS_perm : ∀ L, (srtS L).Perm L
  | [] => List.Perm.refl _
  | x :: L => (insS_perm x (srtS L)).trans ((srtS_perm L).cons x)
theorem insS_srt (x : Nd) : ∀ L, Srt L → (∀ y ∈ L, Tri x y) → Srt (insS x L)
  | [], _, _ => List.pairwise_singleton _ _
  | y :: L, h, ht => by
    obtain ⟨h1, h2⟩ := List.pairwise_cons.1 h
    rw [insS]
    split
    · rename_i hlt
      refine List.pairwise_cons.2 ⟨fun z hz => ?_, h⟩
      rcases List.mem_cons.1 hz with rfl | hz
      · exact hlt
      · exact ndLt_tr _ _ _ hlt (h1 z hz)
    · rename_i hlt
      have hyx : ndLt y x = true := (ht y (by simp)).resolve_left hlt
      refine List.pairwise_cons.2 ⟨fun z hz => ?_, insS_srt x L h2 (fun z hz => ht z (by simp [hz]))⟩
      rcases List.mem_cons.1 ((insS_perm x L).mem_iff.1 hz) with rfl | hz
      · exact hyx
      · exact h1 z hz
theorem srtS_srt : ∀ L : List Nd, L.Pairwise Tri → Srt (srtS L)
  | [], _ => List.Pairwise.nil
  | x :: L, h => by
    obtain ⟨h1, h2⟩ := List.pairwise_cons.1 h
    exact insS_srt x _ (srtS_srt L h2) (fun y hy => h1 y ((srtS_perm L).mem_iff.1 hy))
/-- a heap that holds the nodes of a sorted list -/
structure HpS (H : List Pn) (L : List Nd) : Prop where
  heap : HeapFrom pnLt 0 H.length H
  perm : (H.map (·.2)).Perm L
  srt : Srt L
theorem HpS.len {H : List Pn} {L : List Nd} (h : HpS H L) : H.length = L.length := by have := h.perm.length_eq; simpa using this
theorem at_mem2 {H : List Pn} {i : Nat} (h : i < H.length) : at_ H i ∈ H := by
  unfold at_
  rw [List.getD_eq_getElem?_getD, List.getElem?_eq_getElem h]
  exact List.getElem_mem h
theorem mem_at {H : List Pn} {p : Pn} (h : p ∈ H) : ∃ i, i < H.length ∧ at_ H i = p := by
  obtain ⟨i, hi, rfl⟩ := List.getElem_of_mem h
  refine ⟨i, hi, ?_⟩
  unfold at_
  rw [List.getD_eq_getElem?_getD, List.getElem?_eq_getElem hi]
  rfl
theorem at_take {H : List Pn} {m i : Nat} (h : i < m) : at_ (H.take m) i = at_ H i := by
  unfold at_
  rw [List.getD_eq_getElem?_getD, List.getD_eq_getElem?_getD, List.getElem?_take_of_lt h]
theorem split_last {H : List Pn} (h : 0 < H.length) : H = H.take (H.length - 1) ++ [at_ H (H.length - 1)] := by
  have e := List.take_succ_eq_append_getElem (l := H) (i := H.length - 1) (by omega)
  rw [show H.length - 1 + 1 = H.length by omega, List.take_length] at e
  unfold at_
  rw [List.getD_eq_getElem?_getD, List.getElem?_eq_getElem (by omega)]
  exact e
def popL (H : List Pn) : List Pn := (downF pnLt (H.length - 1) (swp H 0 (H.length - 1)) 0 (H.length - 1)).take (H.length - 1)
def pushL (H : List Pn) (p : Pn) : List Pn := upF pnLt (H.length + 1) (H ++ [p]) H.length
theorem pop_last (H : List Pn) (h0 : 0 < H.length) : at_ (downF pnLt (H.length - 1) (swp H 0 (H.length - 1)) 0 (H.length - 1)) (H.length - 1) = at_ H 0 := by
  by_cases h1 : H.length - 1 = 0
  · have e : downF pnLt (H.length - 1) (swp H 0 (H.length - 1)) 0 (H.length - 1) = swp H 0 (H.length - 1) := by rw [h1]; rfl
    rw [e, at_swp H 0 (H.length - 1) _ h0 (by omega), if_pos rfl]
  · rw [downF_far pnLt (H.length - 1) _ _ 0 (by rw [swp_len]; omega) (by omega) _ (Nat.le_refl _), at_swp H 0 (H.length - 1) _ h0 (by omega), if_pos rfl]
theorem popL_len (H : List Pn) : (popL H).length = H.length - 1 := by unfold popL; rw [List.length_take, downF_len, swp_len]; omega
theorem popL_perm (H : List Pn) (h0 : 0 < H.length) : H.Perm (at_ H 0 :: popL H) := by
  have hl : (downF pnLt (H.length - 1) (swp H 0 (H.length - 1)) 0 (H.length - 1)).length = H.length := by rw [downF_len, swp_len]
  have e := split_last (H := downF pnLt (H.length - 1) (swp H 0 (H.length - 1)) 0 (H.length - 1)) (by omega)
  rw [hl, pop_last H h0] at e
  have p1 := downF_perm pnLt (H.length - 1) (H.length - 1) (swp H 0 (H.length - 1)) 0 (by rw [swp_len]; omega) (by rw [swp_len]; omega)
  have p2 := swp_perm H 0 (H.length - 1) h0 (by omega)
  have p3 := (p1.trans p2).symm
  rw [e] at p3
  exact p3.trans List.perm_append_comm
theorem HpS.pop {H : List Pn} {a : Nd} {L : List Nd} (h : HpS H (a :: L)) : (at_ H 0).2 = a ∧ HpS (popL H) L := by
  have hl := h.len
  have h0 : 0 < H.length := by rw [hl]; simp
  have hmin := heap_min pnLt pnLt_trans h.heap (fun p => ndLt_irr p.2)
  have ha : (at_ H 0).2 = a := by
    have hmem : (at_ H 0).2 ∈ a :: L := h.perm.mem_iff.1 (List.mem_map.2 ⟨_, at_mem2 h0, rfl⟩)
    rcases List.mem_cons.1 hmem with e | hm
    · exact e
    · have hlt : ndLt a (at_ H 0).2 = true := (List.pairwise_cons.1 h.srt).1 _ hm
      obtain ⟨p, hp, hpa⟩ := List.mem_map.1 (h.perm.mem_iff.2 (List.mem_cons_self (a := a) (l := L)))
      obtain ⟨i, hi, hip⟩ := mem_at hp
      have := hmin i hi
      unfold pnLt at this
      rw [hip, hpa, hlt] at this
      cases this
  refine ⟨ha, ?_, ?_, (List.pairwise_cons.1 h.srt).2⟩
  · rw [popL_len]
    have hd : HeapFrom pnLt 0 (H.length - 1) (downF pnLt (H.length - 1) (swp H 0 (H.length - 1)) 0 (H.length - 1)) := by
      refine downF_heap pnLt pnLt_trans pnLt_asymm 0 (H.length - 1) (H.length - 1) (swp H 0 (H.length - 1)) 0 (by rw [swp_len]; omega) (Nat.zero_le _) (by omega) (fun k hk hk0 _ hp => ?_) (fun k hk hk0 hp h0' _ => by omega)
      have hat := fun k => at_swp H 0 (H.length - 1) k h0 (by omega)
      rw [hat, hat, if_neg (by omega), if_neg (by omega), if_neg (by omega), if_neg (by omega)]
      exact h.heap k (by omega) hk0 (Nat.zero_le _)
    intro k hk hk0 _
    unfold popL
    rw [at_take hk, at_take (by omega)]
    exact hd k hk hk0 (Nat.zero_le _)
  · have p := ((popL_perm H h0).map (·.2)).symm.trans h.perm
    rw [List.map_cons, ha] at p
    exact p.cons_inv
theorem pushL_len (H : List Pn) (p : Pn) : (pushL H p).length = H.length + 1 := by unfold pushL; rw [upF_len]; simp
theorem at_app {H : List Pn} {p : Pn} {i : Nat} (h : i < H.length) : at_ (H ++ [p]) i = at_ H i := by
  unfold at_
  rw [List.getD_eq_getElem?_getD, List.getD_eq_getElem?_getD, List.getElem?_append_left h]
theorem HpS.push {H : List Pn} {L : List Nd} (h : HpS H L) (a : Nat) (x : Nd) (ht : ∀ y ∈ L, Tri x y) : HpS (pushL H (a, x)) (insS x L) := by
  refine ⟨?_, ?_, insS_srt x L h.srt ht⟩
  · rw [pushL_len]
    refine upF_heap pnLt pnLt_trans pnLt_asymm (H.length + 1) (H.length + 1) (H ++ [(a, x)]) H.length (by simp) (by omega) (by omega) (fun k hk hk0 hne => ?_) (fun k hk hk0 hp h0 => by omega)
    rw [at_app (by omega), at_app (by omega)]
    exact h.heap k (by omega) hk0 (Nat.zero_le _)
  · have p1 : (pushL H (a, x)).Perm (H ++ [(a, x)]) := upF_perm pnLt _ _ _ (by simp)
    have p2 : ((pushL H (a, x)).map (·.2)).Perm (x :: H.map (·.2)) := (p1.map (·.2)).trans (by rw [List.map_append]; exact List.perm_append_comm)
    exact (p2.trans (h.perm.cons x)).trans (insS_perm x L).symm
theorem HpS.init {H : List Pn} {L : List Nd} (h : H.map (·.2) = L) (ht : L.Pairwise Tri) : HpS (initF pnLt H.length (H.length / 2) H) (srtS L) := by
  obtain ⟨r1, r2⟩ := initF_heap pnLt pnLt_trans pnLt_asymm H.length (H.length / 2) H rfl (by omega) (fun k hk hk0 hl => by omega)
  have hl := r2.length_eq
  refine ⟨by rw [hl]; exact r1, ((r2.map (·.2)).trans (by rw [h])).trans (srtS_perm L).symm, srtS_srt L ht⟩
/-! ### leaves, ages -/
theorem leavesF_mem : ∀ (l : List Int) (k : Nat) (x : Nd), x ∈ leavesF l k → ∃ c s, x = .leaf c s ∧ k ≤ s ∧ s < k + l.length ∧ 0 < c ∧ l[s - k]? = some c
  | [], k, x, h => by simp [leavesF] at h
  | c :: l, k, x, h => by
    have step : x ∈ leavesF l (k + 1) → ∃ c' s, x = .leaf c' s ∧ k ≤ s ∧ s < k + (c :: l).length ∧ 0 < c' ∧ (c :: l)[s - k]? = some c' := fun h => by
      obtain ⟨c', s, e, h1, h2, h3, h4⟩ := leavesF_mem l (k + 1) x h
      refine ⟨c', s, e, by omega, by simp; omega, h3, ?_⟩
      rw [show s - k = (s - (k + 1)) + 1 by omega, List.getElem?_cons_succ]
      exact h4
    rw [leavesF] at h
    split at h
    · rename_i hc
      rcases List.mem_cons.1 h with e | h
      · exact ⟨c, k, e, Nat.le_refl _, by simp, hc, by simp⟩
      · exact step h
    · exact step h
theorem leavesF_tri : ∀ (l : List Int) (k : Nat), (leavesF l k).Pairwise Tri
  | [], k => List.Pairwise.nil
  | c :: l, k => by
    rw [leavesF]
    split
    · refine List.pairwise_cons.2 ⟨fun y hy => ?_, leavesF_tri l (k + 1)⟩
      obtain ⟨c', s, rfl, h1, _, _, _⟩ := leavesF_mem l (k + 1) y hy
      unfold Tri
      rw [ndLt_iff, ndLt_iff]
      simp [Nd.cnt, Nd.mk, Nd.age]
      omega
    · exact leavesF_tri l (k + 1)
theorem leavesF_len : ∀ (l : List Int) (k : Nat), (leavesF l k).length ≤ l.length
  | [], k => Nat.le_refl _
  | c :: l, k => by
    rw [leavesF]
    have := leavesF_len l (k + 1)
    split <;> simp <;> omega
/-- every node that was made is younger than g -/
def Young (g : Nat) (L : List Nd) : Prop := ∀ x ∈ L, x.mk = true → x.age < g
theorem tri_join {g : Nat} {c : Int} {a b : Nd} {L : List Nd} (h : Young g L) : ∀ y ∈ L, Tri (.join c g a b) y := by
  intro y hy
  unfold Tri
  rw [ndLt_iff, ndLt_iff]
  cases y with
  | leaf c' s => simp [Nd.cnt, Nd.mk, Nd.age, b2i]; omega
  | join c' g' x z =>
    have := h _ hy rfl
    simp [Nd.cnt, Nd.mk, Nd.age] at this ⊢
    omega
theorem Young.step {g : Nat} {a b : Nd} {c : Int} {L : List Nd} (h : Young g (a :: b :: L)) : Young (g + 1) (insS (.join c g a b) L) := by
  intro x hx hm
  rcases List.mem_cons.1 ((insS_perm _ L).mem_iff.1 hx) with rfl | hx
  · simp [Nd.age]
  · have := h x (by simp [hx]) hm
    omega
end Go.Proofs.YtnapnaaejignaaaGreat.Hu

/-! HuD: huff: Pop and Push of nodes, container/heap's Pop and Push walked. -/
namespace Go.Proofs.YtnapnaaejignaaaGreat.Hu
open Go.RowKit

theorem row_take {w : World} {e : TypeId} {g n cap m : Nat} {xs : List Value} (h : w.ownsRow 0 e 1 (.slice (some ⟨g, 0, none⟩) n cap) n xs) (hm : m ≤ n) : w.ownsRow 0 e 1 (.slice (some ⟨g, 0, none⟩) m cap) m (xs.take m) := by
  obtain ⟨cur, hg, h1, h2, h3, ht⟩ := ownsRow_open h
  have hl := h.1
  refine ⟨by rw [List.length_take]; omega, .inr ⟨g, cap, cur, rfl, Nat.zero_le _, hg, by omega, h2, by simpa using h3, ?_⟩⟩
  rw [← ht, Nat.mul_one, List.take_take, Nat.min_eq_left hm]
theorem mem_take {H : List Pn} {m : Nat} {p : Pn} (h : p ∈ H.take m) : p ∈ H := List.mem_of_mem_take h
set_option maxRecDepth 100000 in
set_option maxHeartbeats 8000000 in
theorem npop_walk (lb : Nat) (v : Value) (N : List Nat) (H : List Pn) (w : World) (hO : HpO w lb v N H) (h0 : 0 < H.length) (hz : H.length ≤ 1048576) :
    Calls Tryz.prog 139 #[ptr lb] w fun e w' => ∃ v', e = .returned (.iface 143 (ptr (at_ H (H.length - 1)).1)) ∧ v'.ownBlock = v.ownBlock ∧ Ext [lb] w w' ∧ HpO w' lb v' N (H.take (H.length - 1)) := by
  obtain ⟨g, cap, rfl, hc1, hc2⟩ := hO.row.form h0
  obtain ⟨m, hm⟩ : ∃ m, H.length - 1 = m := ⟨_, rfl⟩
  have hl : H.length = m + 1 := by omega
  have c0 : w.cell? ⟨lb, 0, none⟩ = some (.slice (some ⟨g, 0, none⟩) H.length cap) := cellOf hO.var 0
  have f0 : w.frozen? ⟨lb, 0, none⟩ = false := freeOf hO.var 0
  have ca : w.cell? ⟨g, m, none⟩ = some (ptr (at_ H m).1) := hO.row.cell (by omega)
  have hx2 : Ext [lb] w (w.setCell ⟨lb, 0, none⟩ (.slice (some ⟨g, 0, none⟩) m cap)) := (Ext.refl [lb] w).setCell _ _ (.inl (by simp))
  have hgl : g ≠ lb := fun e => hO.ne (by simp [Value.ownBlock, e])
  have hNl : ∀ k ∈ N, k ∉ [lb] := fun k hk h => by simp at h; subst h; exact hO.nN hk
  have htl : (H.take m).length = m := by rw [List.length_take]; omega
  have hfin : HpO (w.setCell ⟨lb, 0, none⟩ (.slice (some ⟨g, 0, none⟩) m cap)) lb (.slice (some ⟨g, 0, none⟩) m cap) N (H.take m) := by
    refine ⟨heap_setCell_same hO.var _, ⟨?_, hO.row.far, fun p hp => (hO.row.nds p (mem_take hp)).ext hx2 hNl, fun k hk => Nat.lt_of_lt_of_le (hO.row.lt k hk) hx2.size⟩, fun e => hgl (by simpa [Value.ownBlock] using e), hO.nN⟩
    rw [htl, List.map_take]
    exact ownsRow_ext (row_take hO.row.own (by omega)) hx2 (fun k hk h => by simp [Value.ownBlock] at hk h; omega)
  rw [hm]
  rw [hl] at c0 hc1
  have HF := Lib.hid (⟨hx2, hfin⟩ : _ ∧ _)
  have hm9 : m ≤ 1048576 := by omega
  unfold maxLen at hc2
  have q1 : (m : Int) ≤ (cap : Int) := by omega
  generalize (at_ H m).1 = x at *
  clear hm hl hO hx2 hfin hz h0 htl hNl
  go_enter Tryz.func139, Tryz.ntmps139
  go_wp2_with fail
  go_ret
  exact ⟨.slice (some ⟨g, 0, none⟩) m cap, rfl, rfl, HF.out.1, HF.out.2⟩
theorem infoNodeP : (Tryz.prog.info? 143).map (fun i => (i.zero, i.size, i.bytes)) = some (some (.pointer none), 1, 8) := by kernel_rfl
theorem assertNode (a : Nat) (w : World) : (Instr.typeAssert (.iface 143 (ptr a)) 20 143 false).run Tryz.prog w = .ok (ptr a) w := by kernel_rfl
set_option maxRecDepth 100000 in
set_option maxHeartbeats 8000000 in
theorem npush_walk (lb : Nat) (v : Value) (N : List Nat) (H : List Pn) (a : Nat) (x : Nd) (w : World) (hO : HpO w lb v N H) (ha : NdAt w N a x) (hz : H.length ≤ 1048576) :
    Calls Tryz.prog 140 #[ptr lb, .iface 143 (ptr a)] w fun e w' => ∃ v', e = .returned (.tuple #[]) ∧ (∀ g, v'.ownBlock = some g → v.ownBlock = some g ∨ w.heap.size ≤ g) ∧ Ext (lb :: v.ownBlock.toList) w w' ∧ HpO w' lb v' N (H ++ [(a, x)]) := by
  obtain ⟨i0, hi, hz0, hz1, hz2⟩ := info_parts infoNodeP
  have hne := hO.ne
  have hb := hO.var
  have hown := hO.row.own
  have c0 : ∀ z : ExS v.ownBlock.toList w, z.w.cell? ⟨lb, 0, none⟩ = some v := fun z => cellOf (z.heap hb (by simpa using hne)) 0
  have HA := Lib.hid ha
  have HO := Lib.hid hO
  clear ha hO
  go_enter Tryz.func140, Tryz.ntmps140
  go_wp2_with fail
  have hta := assertNode a
  refine wp_region_perm (C := fun w' => ∃ x : ExS v.ownBlock.toList w, w' = x.w) [0, 1, 2, 3, 4, 5] 8 (by kernel_rfl) (by kernel_rfl) ⟨ExS.mk _ ((Ext.refl _ w).drew), rfl⟩ ?_
  simp only [pick, List.getElem?_toArray, List.getElem?_cons_zero, List.getElem?_cons_succ, List.drop_succ_cons, List.drop_zero]
  repeat (go_big_quiet_step (fail))
  refine wpQuiet_nil ?_
  clear hta
  refine anyC_one (f := 1) (i := 6) (by kernel_rfl) (by decide) rfl rfl (fun K hK => ?_)
  go_wp2_with fail
  refine hK _ _ ⟨ExS.mk _ ((Ext.refl _ w).drew.alloc _), rfl⟩ ?_
  clear hK K
  refine anyC_one (f := 0) (i := 7) (by kernel_rfl) (by decide) rfl rfl (fun K hK => ?_)
  refine wp_append_lies _ _ _ 142 rfl 0 143 i0 _ 1 8 Tryz.underlying142 hi hz0 hz1 hz2 rfl (by decide) v H.length _ rfl ((hown.drew).alloc _) ⟨w.heap.size, 0, none⟩ 1 1 [ptr a] rfl rfl (World.news_of_block (heap_alloc_at (w := w.drew) _)) (by simp [Value.oneCell']) (by decide) (by unfold maxLen; omega) (by omega) (by omega) (w.heap.size + 1) (by simp) ?_
  intro g cap w1 hown1 hgrow hat hlt
  have hg2 : (w.alloc (.cells #[ptr a] 143)).grownBy w1 v.ownBlock := ⟨hgrow.os, hgrow.tape, hgrow.output, hgrow.size, hgrow.block⟩
  have hb1 : w1.heap[lb]? = some (.cells #[v] 142 (0, 0)) := grown_keep hg2 (heap_alloc_old _ hb) hne
  have P := push_field hb hne hown1 hg2 hat 0
  have HP := Lib.hid (⟨P, hat⟩ : _ ∧ _)
  refine hK _ _ ⟨ExS.mk w1 (((Ext.refl _ w).alloc _).grown hg2 (fun q hq => .inl (by simp [hq]))), rfl⟩ ?_
  clear hK K c0 P hgrow hat hlt hown hg2 hown1
  refine anyC_end (by kernel_rfl) ?_
  have d0 := cellOf hb1 0
  have d1 := freeOf hb1 0
  clear hb1
  go_wp2_with fail
  refine NoPanic.normal ?_
  go_wp2_with fail
  go_end0
  obtain ⟨⟨p1, p2, p3, p4, p5⟩, hat⟩ := HP.out
  have hO := HO.out
  have hNF : ∀ k ∈ N, k ∉ lb :: v.ownBlock.toList := fun k hk h => by
    rcases List.mem_cons.1 h with rfl | h
    · exact hO.nN hk
    · exact hO.row.far k (by simpa using h) hk
  have hgN : g ∉ N := fun hk => by
    rcases hat with h | h
    · exact hO.row.far g h hk
    · have := hO.row.lt g hk; omega
  have hlen : (H ++ [(a, x)]).length = H.length + 1 := by simp
  refine ⟨_, rfl, fun k hk => ?_, p3, ⟨p1, ⟨?_, fun k hk => ?_, fun p hp => ?_, fun k hk => Nat.lt_of_lt_of_le (hO.row.lt k hk) p3.size⟩, fun e => p4 (by simpa [Value.ownBlock] using e), hO.nN⟩⟩
  · obtain rfl : g = k := by simpa [Value.ownBlock] using hk
    rcases hat with h | h
    · exact .inl h
    · exact .inr (by omega)
  · rw [hlen, List.map_append]
    exact p2
  · obtain rfl : g = k := by simpa [Value.ownBlock] using hk
    exact hgN
  · rcases List.mem_append.1 hp with hp | hp
    · exact (hO.row.nds p hp).ext p3 hNF
    · rw [List.mem_singleton.1 hp]
      exact HA.out.ext p3 hNF
/-! ### container/heap.Pop, Push -/
set_option maxRecDepth 100000 in
set_option maxHeartbeats 8000000 in
theorem pop_walk (lb : Nat) (v : Value) (N : List Nat) (H : List Pn) (w : World) (hO : HpO w lb v N H) (h0 : 0 < H.length) (hz : H.length ≤ 1048576) :
    Calls Tryz.prog 83 #[.iface 147 (ptr lb)] w fun e w' => ∃ v', e = .returned (.iface 143 (ptr (at_ H 0).1)) ∧ v'.ownBlock = v.ownBlock ∧ Ext (lb :: v.ownBlock.toList) w w' ∧ HpO w' lb v' N (popL H) := by
  obtain ⟨g, cap, rfl, hc1, hc2⟩ := hO.row.form h0
  have hlast := pop_last H h0
  have hpl : popL H = (downF pnLt (H.length - 1) (swp H 0 (H.length - 1)) 0 (H.length - 1)).take (H.length - 1) := rfl
  rw [hpl, ← hlast]
  have m1 := m_len (cellOf hO.var 0)
  obtain ⟨n, hn⟩ : ∃ n, H.length = n := ⟨_, rfl⟩
  obtain ⟨m, hm⟩ : ∃ m, n - 1 = m := ⟨_, rfl⟩
  rw [hn] at hO m1 h0 hz
  simp only [hn, hm]
  have e1 : (n : Int) - 1 = (m : Int) := by omega
  have HN := Lib.hid (⟨hn, hm⟩ : _ ∧ _)
  have HO := Lib.hid hO
  have hmn : m < n := by omega
  clear hO hlast hpl hn hm hc1 hc2
  go_enter Tryz.func83, Tryz.ntmps83
  go_wp2_with fail
  refine (len_walk _ n cap w).mono ?_
  rintro e w1 ⟨rfl, rfl⟩
  have m2 := m_swap (cellOf HO.out.var 0)
  clear m1
  go_wp2_with fail
  clear e1
  refine (swap_walk _ N H 0 m w HO.out.row (by rw [HN.out.1]; omega) (by rw [HN.out.1]; omega)).mono ?_
  rintro e w2 ⟨rfl, hx, hr⟩
  have HO := Lib.hid (⟨hx, HO.out.turn hx hr⟩ : _ ∧ _)
  clear hx hr m2
  go_wp2_with fail
  refine (down_walk lb _ N (swp H 0 m) 0 m w2 HO.out.2 (by omega) (by rw [swp_len, HN.out.1]; omega) (by rw [swp_len, HN.out.1]; omega)).mono ?_
  rintro e w3 ⟨bb, rfl, hx, ho⟩
  have HO := Lib.hid (⟨HO.out.1.trans hx, ho⟩ : _ ∧ _)
  have m3 := m_pop w3 lb
  clear hx ho
  go_wp2_with fail
  have hlen : (downF pnLt m (swp H 0 m) 0 m).length = n := by rw [downF_len, swp_len, HN.out.1]
  have hp := npop_walk lb _ N (downF pnLt m (swp H 0 m) 0 m) w3 HO.out.2 (by rw [hlen]; omega) (by rw [hlen]; omega)
  rw [hlen, HN.out.2] at hp
  refine hp.mono ?_
  rintro e w4 ⟨v', rfl, hv, hx, ho⟩
  have HO := Lib.hid (⟨hv, HO.out.1, hx, ho⟩ : _ ∧ _ ∧ _ ∧ _)
  clear hv hx ho hp hlen m3
  go_wp2_with fail
  go_ret
  exact ⟨v', rfl, HO.out.1, (HO.out.2.1.mono (fun i _ h => by simp [h])).trans (HO.out.2.2.1.mono (fun i _ h => by simp at h; simp [h])), HO.out.2.2.2⟩
set_option maxRecDepth 100000 in
set_option maxHeartbeats 8000000 in
theorem push_walk (lb : Nat) (v : Value) (N : List Nat) (H : List Pn) (a : Nat) (x : Nd) (w : World) (hO : HpO w lb v N H) (ha : NdAt w N a x) (hz : H.length ≤ 1048570) :
    Calls Tryz.prog 84 #[.iface 147 (ptr lb), .iface 143 (ptr a)] w fun e w' => ∃ v', e = .returned (.tuple #[]) ∧ (∀ g, v'.ownBlock = some g → v.ownBlock = some g ∨ w.heap.size ≤ g) ∧ Ext (lb :: v.ownBlock.toList) w w' ∧ HpO w' lb v' N (pushL H (a, x)) := by
  obtain ⟨R, hR⟩ : ∃ R, pushL H (a, x) = R := ⟨_, rfl⟩
  rw [hR]
  unfold pushL at hR
  have m1 := m_push w lb
  have HO := Lib.hid hO
  have HA := Lib.hid ha
  have HR := Lib.hid hR
  clear hO ha hR
  go_enter Tryz.func84, Tryz.ntmps84
  go_wp2_with fail
  refine (npush_walk lb v N H a x w HO.out HA.out (by omega)).mono ?_
  rintro e w1 ⟨v1, rfl, hv, hx, ho⟩
  obtain ⟨g, cap, rfl, hc1, hc2⟩ := ho.row.form (by simp)
  have hl : (H ++ [(a, x)]).length = H.length + 1 := by simp
  have m2 := m_len (cellOf ho.var 0)
  have HO1 := Lib.hid (⟨hv, hx, ho⟩ : _ ∧ _ ∧ _)
  clear hv hx ho m1
  obtain ⟨H1, hH1⟩ : ∃ H1, H ++ [(a, x)] = H1 := ⟨_, rfl⟩
  have hR := HR.out
  rw [hH1] at hl HO1 m2 hR
  clear hH1 hc1 hc2
  obtain ⟨n, hn⟩ : ∃ n, H.length = n := ⟨_, rfl⟩
  rw [hn] at hl hz hR
  rw [hl] at HO1 m2
  have HR := Lib.hid hR
  have e1 : ((n + 1 : Nat) : Int) - 1 = (n : Int) := by omega
  have E1 := Lib.hid e1
  have HL := Lib.hid hl
  clear hn hl e1 hR
  go_wp2_with fail
  refine (len_walk _ (n + 1) cap w1).mono ?_
  rintro e w2 ⟨rfl, rfl⟩
  have e2 : (n : Int) + 1 - 1 = (n : Int) := by omega
  clear m2
  go_wp2_with fail
  clear e2
  refine (up_walk lb _ N H1 n w1 HO1.out.2.2 (by rw [HL.out]; omega) (by rw [HL.out]; omega)).mono ?_
  rintro e w3 ⟨rfl, hx, ho⟩
  have HO2 := Lib.hid (⟨hx, ho⟩ : _ ∧ _)
  clear hx ho
  go_wp2_with fail
  go_end0
  refine ⟨_, rfl, HO1.out.1, ?_, by rw [← HR.out]; exact HO2.out.2⟩
  exact HO1.out.2.1.trans' HO2.out.1 (fun i hi h => by
    obtain rfl : i = g := by simpa [Value.ownBlock] using h
    rcases HO1.out.1 i rfl with h | h
    · simp [h]
    · omega)
end Go.Proofs.YtnapnaaejignaaaGreat.Hu

/-! HuE: huff: a row of ints; deepen walked. -/
namespace Go.Proofs.YtnapnaaejignaaaGreat.Hu
open Go.RowKit

abbrev iz (x : Int) : Value := .int .i64 x
/-- the value v is a slice of the ints l in the world w -/
def IntsAt (w : World) (v : Value) (l : List Int) : Prop :=
  ∃ ao cap, v = .slice ao l.length cap ∧ (0 < l.length → ∃ b off, ao = some ⟨b, off, none⟩ ∧ ∀ i x, l[i]? = some x → w.cell? ⟨b, off + i, none⟩ = some (iz x))
theorem IntsAt.ext {w w' : World} {v : Value} {l : List Int} (h : IntsAt w v l) (hx : Ext [] w w') : IntsAt w' v l := by
  obtain ⟨ao, cap, rfl, hc⟩ := h
  refine ⟨ao, cap, rfl, fun hn => ?_⟩
  obtain ⟨b, off, rfl, h⟩ := hc hn
  exact ⟨b, off, rfl, fun i x hi => Ext.cell hx (h i x hi)⟩
theorem IntsAt.of_own {w : World} {v : Value} {l : List Int} (h : w.ownsRow 0 3 1 v l.length (l.map iz)) : IntsAt w v l := by
  rcases h.2 with ⟨rfl, hn⟩ | ⟨g, cap, cs, rfl, _, hg, hnc, hcap, hsz, ht⟩
  · exact ⟨none, 0, by rw [hn], fun h => by omega⟩
  · refine ⟨_, cap, rfl, fun _ => ⟨g, 0, rfl, fun i x hi => ?_⟩⟩
    rw [Nat.zero_add]
    exact ownsRow_at h (by rw [List.getElem?_map, hi]; rfl)
theorem IntsAt.slice {w : World} {v : Value} {l : List Int} (h : IntsAt w v l) : ∃ ao cap, v = .slice ao l.length cap := by
  obtain ⟨ao, cap, rfl, _⟩ := h
  exact ⟨ao, cap, rfl⟩
def NdS (n : Nat) : Nd → Prop
  | .leaf _ s => s < n
  | .join _ _ a b => NdS n a ∧ NdS n b
def hgt : Nd → Nat
  | .leaf _ _ => 0
  | .join _ _ a b => max (hgt a) (hgt b) + 1
theorem setD_len : ∀ (x : Nd) (d : Nat) (L : List Int), (setD x d L).length = L.length
  | .leaf _ _, _, _ => by rw [setD, List.length_set]
  | .join _ _ a b, d, L => by rw [setD, setD_len b, setD_len a]
theorem infoInt7 : (Tryz.prog.info? 3).map (fun i => (i.zero, i.size, i.bytes)) = some (some (.int .i64 0), 1, 8) := by kernel_rfl
set_option maxRecDepth 100000 in
set_option maxHeartbeats 8000000 in
theorem deepen_walk : ∀ (x : Nd) (N : List Nat) (a d q cap : Nat) (L : List Int) (w : World), NdAt w N a x → q ∉ N → w.ownsRow 0 3 1 (.slice (some ⟨q, 0, none⟩) L.length cap) L.length (L.map iz) → NdS L.length x → d + hgt x ≤ 1000000 →
    Calls Tryz.prog 85 #[ptr a, .slice (some ⟨q, 0, none⟩) L.length cap, .int .i64 d] w fun e w' => e = .returned (.tuple #[]) ∧ Ext [q] w w' ∧ w'.ownsRow 0 3 1 (.slice (some ⟨q, 0, none⟩) L.length cap) L.length ((setD x d L).map iz) := by
  intro x
  induction x with
  | leaf c s =>
    intro N a d q cap L w hN hq hown hs hd
    have hs' : s < L.length := hs
    have hb := hN.2
    have c1 : w.cell? ⟨a, 1, none⟩ = some (.bool false) := cellOf hb 1
    have c2 : w.cell? ⟨a, 2, none⟩ = some (.int .i64 (s : Int)) := cellOf hb 2
    have hcell : w.cell? ⟨q, s, none⟩ = some (iz (L.getD s 0)) := ownsRow_at hown (by rw [List.getElem?_map, List.getD_eq_getElem?_getD, List.getElem?_eq_getElem hs']; rfl)
    have hfree : w.frozen? ⟨q, s, none⟩ = false := ownsRow_free hown s
    have hx : Ext [q] w (w.setCell ⟨q, s, none⟩ (iz d)) := (Ext.refl [q] w).setCell _ _ (.inl (by simp))
    have hb' := hx.keep hb (by simp; rintro rfl; exact hq hN.1)
    have c3 : (w.setCell ⟨q, s, none⟩ (iz d)).cell? ⟨a, 3, none⟩ = some (.slice none 0 0) := cellOf hb' 3
    have hst := ownsRow_store (i := s) hown (iz d)
    rw [← List.map_set] at hst
    have HF := Lib.hid (⟨hx, hst⟩ : _ ∧ _)
    clear hx hst hb' hb hN hown hs
    go_enter Tryz.func85, Tryz.ntmps85
    go_wp2_with fail
    go_loopg [25] 0 (fun g iv wr => iv = .int .i64 0 ∧ wr = w.setCell ⟨q, s, none⟩ (iz d))
    case atStart => exact ⟨rfl, rfl⟩
    case round =>
      obtain ⟨rfl, rfl⟩ := hrel
      go_wp2_with fail
      go_end0
      exact ⟨rfl, HF.out.1, HF.out.2⟩
  | join c g x y ihx ihy =>
    intro N a d q cap L w hN hq hown hs hd
    obtain ⟨hs1, hs2⟩ := hs
    obtain ⟨haN, r, ax, ay, hrN, hb, hr, hnx, hny⟩ := hN
    have hd1 : d + 1 + hgt x ≤ 1000000 := by unfold hgt at hd; omega
    have hd2 : d + 1 + hgt y ≤ 1000000 := by unfold hgt at hd; omega
    have c1 : w.cell? ⟨a, 1, none⟩ = some (.bool true) := cellOf hb 1
    have c3 : w.cell? ⟨a, 3, none⟩ = some (.slice (some ⟨r, 0, none⟩) 2 2) := cellOf hb 3
    have hqr : r ∉ [q] := by simp; rintro rfl; exact hq hrN
    have hqN : ∀ k ∈ N, k ∉ [q] := fun k hk h => by simp at h; subst h; exact hq hk
    have HH := Lib.hid (⟨hr, hnx, hny, hown, hs1, hs2⟩ : _ ∧ _ ∧ _ ∧ _ ∧ _ ∧ _)
    have IH := Lib.hid (⟨ihx, ihy⟩ : _ ∧ _)
    clear hb hr hnx hny hown hs1 hs2 ihx ihy hd
    have hd9 : (d : Int) + 1 ≤ 1000000 := by omega
    go_enter Tryz.func85, Tryz.ntmps85
    go_wp2_with fail
    clear c1 c3
    go_loopg [25] 2 (fun gg iv wr => ∃ (k : Nat) (M : List Int), gg + k = 2 ∧ iv = .int .i64 k ∧ Ext [q] w wr ∧ M.length = L.length ∧ wr.ownsRow 0 3 1 (.slice (some ⟨q, 0, none⟩) L.length cap) L.length (M.map iz) ∧ ((k = 0 ∧ M = L) ∨ (k = 1 ∧ M = setD x (d + 1) L) ∨ (k = 2 ∧ M = setD y (d + 1) (setD x (d + 1) L))))
    case atStart => exact ⟨0, L, by omega, rfl, Ext.refl _ _, rfl, HH.out.2.2.2.1, .inl ⟨rfl, rfl⟩⟩
    case round =>
      obtain ⟨k, M, hk, rfl, hx, hl, hown, hM⟩ := hrel
      have hr := hx.keep HH.out.1 hqr
      rcases hM with ⟨rfl, rfl⟩ | ⟨rfl, rfl⟩ | ⟨rfl, rfl⟩
      · have r0 : wr.cell? ⟨r, 0, none⟩ = some (ptr ax) := cellOf hr 0
        have hc := IH.out.1 N ax (d + 1) q cap M wr (HH.out.2.1.ext hx hqN) hq hown HH.out.2.2.2.2.1 hd1
        rw [show ((d + 1 : Nat) : Int) = (d : Int) + 1 from by omega] at hc
        have HC := Lib.hid hc
        have HX := Lib.hid hx
        clear hc hx hown hr hl
        go_wp2_with fail
        refine HC.out.mono ?_
        clear r0 HC
        rintro e w2 ⟨rfl, hx2, ho2⟩
        have HX2 := Lib.hid (⟨HX.out.trans hx2, ho2⟩ : _ ∧ _)
        clear hx2 ho2
        go_wp2_with fail
        go_roundg 1
        case measure => omega
        case rel => exact ⟨1, setD x (d + 1) M, by omega, rfl, HX2.out.1, setD_len _ _ _, HX2.out.2, .inr (.inl ⟨rfl, rfl⟩)⟩
      · have r1 : wr.cell? ⟨r, 1, none⟩ = some (ptr ay) := cellOf hr 1
        have hc := IH.out.2 N ay (d + 1) q cap (setD x (d + 1) L) wr (HH.out.2.2.1.ext hx hqN) hq (by rw [setD_len]; exact hown) (by rw [setD_len]; exact HH.out.2.2.2.2.2) hd2
        rw [show ((d + 1 : Nat) : Int) = (d : Int) + 1 from by omega, setD_len] at hc
        have HC := Lib.hid hc
        have HX := Lib.hid hx
        clear hc hx hown hr hl
        go_wp2_with fail
        refine HC.out.mono ?_
        clear r1 HC
        rintro e w2 ⟨rfl, hx2, ho2⟩
        have HX2 := Lib.hid (⟨HX.out.trans hx2, ho2⟩ : _ ∧ _)
        clear hx2 ho2
        go_wp2_with fail
        go_roundg 0
        case measure => omega
        case rel => exact ⟨2, setD y (d + 1) (setD x (d + 1) L), by omega, rfl, HX2.out.1, by rw [setD_len, setD_len], HX2.out.2, .inr (.inr ⟨rfl, rfl⟩)⟩
      · have HX := Lib.hid (⟨hx, hown⟩ : _ ∧ _)
        clear hx hown hr hl
        go_wp2_with fail
        go_end0
        exact ⟨rfl, HX.out.1, HX.out.2⟩
end Go.Proofs.YtnapnaaejignaaaGreat.Hu

/-! HuF: huff.deep walked. -/
namespace Go.Proofs.YtnapnaaejignaaaGreat.Hu
open Go.RowKit

/-! ### plain -/
def zers (n : Nat) : List Int := List.replicate n 0
def topD (n : Nat) : List Nd → List Int
  | x :: _ => setD x 0 (zers n)
  | [] => zers n
def deepN (l : List Int) : List Int :=
  match leavesF l 0 with
  | [x] => (zers l.length).set x.age 1
  | _ => topD l.length (mrgF (leavesF l 0).length 0 (srtS (leavesF l 0)))
theorem deepN_one {l : List Int} {x : Nd} (h : leavesF l 0 = [x]) : deepN l = (zers l.length).set x.age 1 := by unfold deepN; rw [h]
theorem deepN_more {l : List Int} (h : (leavesF l 0).length ≠ 1) : deepN l = topD l.length (mrgF (leavesF l 0).length 0 (srtS (leavesF l 0))) := by
  unfold deepN
  split
  · rename_i heq
    rw [heq] at h
    simp at h
  · rfl
def sumC : List Nd → Int
  | [] => 0
  | x :: L => x.cnt + sumC L
theorem sumC_ins (x : Nd) : ∀ L, sumC (insS x L) = x.cnt + sumC L
  | [] => rfl
  | y :: L => by
    rw [insS]
    split
    · rfl
    · rw [sumC, sumC_ins x L, sumC]; omega
theorem sumC_srt : ∀ L, sumC (srtS L) = sumC L
  | [] => rfl
  | x :: L => by rw [srtS, sumC_ins, sumC_srt L, sumC]
theorem sumC_leaves : ∀ (l : List Int) (k : Nat), (∀ c ∈ l, c ≤ 1099511627776) → sumC (leavesF l k) ≤ 1099511627776 * l.length
  | [], k, _ => by simp [leavesF, sumC]
  | c :: l, k, h => by
    have hc := h c (by simp)
    have := sumC_leaves l (k + 1) (fun d hd => h d (by simp [hd]))
    rw [leavesF, List.length_cons]
    split
    · rw [sumC, Nd.cnt]; omega
    · omega
structure Inv (n g : Nat) (T : Int) (L : List Nd) : Prop where
  young : Young g L
  pos : ∀ x ∈ L, 0 < x.cnt
  sum : sumC L = T
  sz : ∀ x ∈ L, NdS n x ∧ hgt x ≤ g
theorem sumC_nn {L : List Nd} (h : ∀ x ∈ L, 0 < x.cnt) : 0 ≤ sumC L := by
  induction L with
  | nil => exact Int.le_refl 0
  | cons x L ih =>
    have := h x (by simp)
    have := ih (fun y hy => h y (by simp [hy]))
    rw [sumC]; omega
theorem Inv.two {n g : Nat} {T : Int} {a b : Nd} {L : List Nd} (h : Inv n g T (a :: b :: L)) : 0 < a.cnt ∧ 0 < b.cnt ∧ a.cnt + b.cnt ≤ T := by
  have h1 := h.pos a (by simp)
  have h2 := h.pos b (by simp)
  have h3 := sumC_nn (L := L) (fun y hy => h.pos y (by simp [hy]))
  have h4 := h.sum
  rw [sumC, sumC] at h4
  omega
theorem Inv.step {n g : Nat} {T : Int} {a b : Nd} {L : List Nd} (h : Inv n g T (a :: b :: L)) : Inv n (g + 1) T (insS (.join (a.cnt + b.cnt) g a b) L) := by
  have ht := h.two
  refine ⟨h.young.step, fun x hx => ?_, ?_, fun x hx => ?_⟩
  · rcases List.mem_cons.1 ((insS_perm _ L).mem_iff.1 hx) with rfl | hx
    · simp [Nd.cnt]; simp [Nd.cnt] at ht; omega
    · exact h.pos x (by simp [hx])
  · have := h.sum
    rw [sumC, sumC] at this
    rw [sumC_ins, Nd.cnt]
    omega
  · rcases List.mem_cons.1 ((insS_perm _ L).mem_iff.1 hx) with rfl | hx
    · have h1 := h.sz a (by simp)
      have h2 := h.sz b (by simp)
      exact ⟨⟨h1.1, h2.1⟩, by unfold hgt; omega⟩
    · have := h.sz x (by simp [hx])
      exact ⟨this.1, by omega⟩
theorem inv_start (l : List Int) : Inv l.length 0 (sumC (leavesF l 0)) (srtS (leavesF l 0)) := by
  have hm : ∀ x ∈ srtS (leavesF l 0), x ∈ leavesF l 0 := fun x hx => (srtS_perm _).mem_iff.1 hx
  refine ⟨fun x hx hmk => ?_, fun x hx => ?_, sumC_srt _, fun x hx => ?_⟩
  · obtain ⟨c, s, rfl, _⟩ := leavesF_mem l 0 x (hm x hx)
    cases hmk
  · obtain ⟨c, s, rfl, _, _, h, _⟩ := leavesF_mem l 0 x (hm x hx)
    exact h
  · obtain ⟨c, s, rfl, _, h, _, _⟩ := leavesF_mem l 0 x (hm x hx)
    exact ⟨by simpa [NdS] using h, Nat.le_refl _⟩
theorem mrgF_stop (k g : Nat) (L : List Nd) (h : L.length ≤ 1) : mrgF k g L = L := by
  match k, L, h with
  | 0, _, _ => rfl
  | k + 1, [], _ => rfl
  | k + 1, [x], _ => rfl
/-! ### the heap as an object -/
def oHp (lb : Nat) (v : Value) (N : List Nat) (H : List Pn) : Ob where
  F := lb :: (v.ownBlock.toList ++ N)
  P := fun w => HpO w lb v N H
  ok := fun h hx hS => h.ext hx (hS _ (by simp)) (fun g hg => hS g (by simp [hg])) (fun k hk => hS k (by simp [hk]))
  lt := fun h k hk => by
    rcases List.mem_cons.1 hk with rfl | hk
    · exact lt_of_block h.var
    · rcases List.mem_append.1 hk with hk | hk
      · exact (h.row.own.lt k (by simpa using hk)).2
      · exact h.row.lt k hk
/-- something is pushed: the new row is stored into the variable -/
theorem hpo_add {w w1 : World} {lb : Nat} {v : Value} {N : List Nat} {H : List Pn} {a : Nat} {x : Nd} {O : Obj} {g cap : Nat} (hO : HpO w lb v N H) (ha : NdAt w N a x)
    (hown : w1.ownsRow 0 143 1 (.slice (some ⟨g, 0, none⟩) (H.length + 1) cap) (H.length + 1) (H.map pv ++ [ptr a])) (hgrow : (w.alloc O).grownBy w1 v.ownBlock) (hat : v.ownBlock = some g ∨ g = w.heap.size + 1) :
    HpO (w1.setCell ⟨lb, 0, none⟩ (.slice (some ⟨g, 0, none⟩) (H.length + 1) cap)) lb (.slice (some ⟨g, 0, none⟩) (H.length + 1) cap) N (H ++ [(a, x)]) ∧ Ext (lb :: v.ownBlock.toList) w (w1.setCell ⟨lb, 0, none⟩ (.slice (some ⟨g, 0, none⟩) (H.length + 1) cap)) := by
  obtain ⟨p1, p2, p3, p4, p5⟩ := push_field hO.var hO.ne hown hgrow hat 0
  have hNF : ∀ k ∈ N, k ∉ lb :: v.ownBlock.toList := fun k hk h => by
    rcases List.mem_cons.1 h with rfl | h
    · exact hO.nN hk
    · exact hO.row.far k (by simpa using h) hk
  have hgN : g ∉ N := fun hk => by
    rcases hat with h | h
    · exact hO.row.far g h hk
    · have := hO.row.lt g hk; omega
  have hlen : (H ++ [(a, x)]).length = H.length + 1 := by simp
  refine ⟨⟨p1, ⟨?_, fun k hk => ?_, fun p hp => ?_, fun k hk => Nat.lt_of_lt_of_le (hO.row.lt k hk) p3.size⟩, fun e => p4 (by simpa [Value.ownBlock] using e), hO.nN⟩, p3⟩
  · rw [hlen, List.map_append]
    exact p2
  · obtain rfl : g = k := by simpa [Value.ownBlock] using hk
    exact hgN
  · rcases List.mem_append.1 hp with hp | hp
    · exact (hO.row.nds p hp).ext p3 hNF
    · rw [List.mem_singleton.1 hp]
      exact ha.ext p3 hNF
/-- more blocks of nodes -/
theorem HpO.wide {w : World} {lb : Nat} {v : Value} {N M : List Nat} {H : List Pn} (h : HpO w lb v N H) (hM : ∀ k ∈ M, k < w.heap.size ∧ k ≠ lb ∧ v.ownBlock ≠ some k) : HpO w lb v (M ++ N) H :=
  ⟨h.var, ⟨h.row.own, fun g hg hm => by
      rcases List.mem_append.1 hm with hm | hm
      · exact (hM g hm).2.2 hg
      · exact h.row.far g hg hm, fun p hp => (h.row.nds p hp).mono (fun k hk => List.mem_append_right _ hk), fun k hk => by
      rcases List.mem_append.1 hk with hk | hk
      · exact (hM k hk).1
      · exact h.row.lt k hk⟩, h.ne, fun hm => by
      rcases List.mem_append.1 hm with hm | hm
      · exact (hM lb hm).2.1 rfl
      · exact h.nN hm⟩
theorem hp_start (w : World) : HpO (w.alloc (.cells #[.slice none 0 0] 142)) w.heap.size (.slice none 0 0) [] [] :=
  ⟨heap_alloc_at _, ⟨World.ownsRow_nil _ _ _ _, by simp, by simp, by simp⟩, by simp [Value.ownBlock], by simp⟩
theorem leaves_take (l : List Int) : ∀ (k j : Nat) (c : Int), l[k]? = some c → leavesF (l.drop k) j = if 0 < c then .leaf c j :: leavesF (l.drop (k + 1)) (j + 1) else leavesF (l.drop (k + 1)) (j + 1) := by
  intro k j c h
  obtain ⟨h1, h2⟩ := List.getElem?_eq_some_iff.1 h
  rw [List.drop_eq_getElem_cons h1, h2, leavesF]
theorem popL_own {v v' : Value} {lb : Nat} {N : List Nat} (h : v'.ownBlock = v.ownBlock) : (oHp lb v' N []).F = (oHp lb v N []).F := by
  show lb :: (v'.ownBlock.toList ++ N) = lb :: (v.ownBlock.toList ++ N)
  rw [h]
theorem zers_len (n : Nat) : (zers n).length = n := by simp [zers]
theorem assertNode2 (a : Nat) (w : World) : (Instr.typeAssert (.iface 143 (ptr a)) 20 143 false).run Tryz.prog w = .ok (ptr a) w := assertNode a w
/-- two pops, the second one's world being known -/
theorem leaf_of {x : Nd} {l : List Int} (h : leavesF l 0 = [x]) : ∃ c s, x = .leaf c s ∧ s < l.length := by
  obtain ⟨c, s, e, _, h2, _, _⟩ := leavesF_mem l 0 x (by rw [h]; simp)
  exact ⟨c, s, e, by omega⟩
set_option maxRecDepth 100000 in
set_option maxHeartbeats 16000000 in
theorem deep_walk (v : Value) (l : List Int) (w : World) (hv : IntsAt w v l) (hl : l.length ≤ 1000) (hb : ∀ c ∈ l, c ≤ 1099511627776) :
    Calls Tryz.prog 57 #[v] w fun e w' => ∃ v', e = .returned v' ∧ Ext [] w w' ∧ (oSl 3 1 v' l.length ((deepN l).map iz)).P w' ∧ ∀ k ∈ v'.ownBlock.toList, w.heap.size ≤ k := by
  obtain ⟨i0, hif, hz0, hz1, hz2⟩ := info_parts infoNodeP
  obtain ⟨j0, hjf, hy0, hy1, hy2⟩ := info_parts infoInt7
  obtain ⟨ao, cap, rfl, hc⟩ := hv
  obtain ⟨R, hR⟩ : ∃ R, leavesF l 0 = R := ⟨_, rfl⟩
  obtain ⟨D, hD⟩ : ∃ D, deepN l = D := ⟨_, rfl⟩
  rw [hD]
  have HD := Lib.hid hD
  clear hD
  have HC := Lib.hid hc
  have HB := Lib.hid hb
  have HR := Lib.hid hR
  have HLV := Lib.hid hR
  clear hc hb hR
  go_enter Tryz.func57, Tryz.ntmps57
  go_wp2_with fail
  have HS := Lib.hid ((Sep.start w).new ((Ext.refl _ w).alloc _) (oHp w.heap.size (.slice none 0 0) [] []) (hp_start w) (fun k hk => by simp [oHp, Value.ownBlock] at hk; omega))
  obtain ⟨lb, hlb⟩ : ∃ lb, w.heap.size = lb := ⟨_, rfl⟩
  rw [hlb] at HS
  rw [hlb]
  clear hlb
  go_loopg [14] l.length (fun g iv wr => ∃ (k : Nat) (vv : Value) (N : List Nat) (H : List Pn), g + k = l.length ∧ iv = .int .i64 k ∧ H.length ≤ k ∧ H.map (·.2) ++ leavesF (l.drop k) k = R ∧ Sep w wr [oHp lb vv N H])
  case atStart => exact ⟨0, _, [], [], by omega, rfl, by simp, by simpa using HR.out, HS.out⟩
  case round =>
    clear HS HR
    obtain ⟨k, vv, N, H, hk, rfl, hHk, hR, S⟩ := hrel
    by_cases hlt : k < l.length
    · obtain ⟨b, off, rfl, hcell⟩ := HC.out (by omega)
      obtain ⟨c, hck⟩ : ∃ c, l[k]? = some c := ⟨_, List.getElem?_eq_getElem hlt⟩
      have d0 := Ext.cell S.ext (hcell k c hck)
      rw [leaves_take l k k c hck] at hR
      have HS := Lib.hid S
      clear hcell hck S
      by_cases h0 : 0 < c
      · rw [if_pos h0] at hR
        have HR := Lib.hid hR
        have hO : HpO wr lb vv N H := HS.out.get 0 rfl
        have c0 : wr.cell? ⟨lb, 0, none⟩ = some vv := cellOf hO.var 0
        have hown := hO.row.own
        have HO := Lib.hid hO
        clear hR hO
        have hblk : ((wr.alloc (.cells #[iz c, .bool false, .int .i64 k, .slice none 0 0] 145)).alloc (.cells #[ptr wr.heap.size] 143)).heap[wr.heap.size + 1]? = some (.cells #[ptr wr.heap.size] 143 (0, 0)) := by
          have := heap_alloc_at (w := wr.alloc (.cells #[iz c, .bool false, .int .i64 k, .slice none 0 0] 145)) (.cells #[ptr wr.heap.size] 143)
          simpa using this
        go_wp2_with (at_builtin; refine wpList_append_lies _ rfl _ _ 142 rfl 0 143 i0 _ 1 8 Tryz.underlying142 hif hz0 hz1 hz2 rfl (by decide) vv H.length _ rfl (World.ownsRow.alloc (World.ownsRow.alloc hown _) _) ⟨wr.heap.size + 1, 0, none⟩ 1 1 [ptr wr.heap.size] rfl rfl (World.news_of_block hblk) (by simp [Value.oneCell']) (by decide) (by unfold maxLen; omega) (by omega) (by omega) (wr.heap.size + 1 + 1) (by simp) ?_; intro g cap2 w6 hown1 hgrow hat hlt6; clear c0; have c1 : w6.cell? ⟨lb, 0, none⟩ = some vv := cellOf (grown_keep hgrow (heap_alloc_old _ (heap_alloc_old _ HO.out.var)) HO.out.ne) 0; have f1 : w6.frozen? ⟨lb, 0, none⟩ = false := freeOf (grown_keep hgrow (heap_alloc_old _ (heap_alloc_old _ HO.out.var)) HO.out.ne) 0; have HG := Lib.hid (⟨hown1, hgrow, hat⟩ : _ ∧ _ ∧ _); clear hown1 hgrow hat hlt6 hblk)
        go_roundg (l.length - (k + 1))
        case measure => omega
        case rel =>
          obtain ⟨hown1, hgrow, hat⟩ := HG.out
          have hO := HO.out
          have hx1 : Ext [] wr (wr.alloc (.cells #[iz c, .bool false, .int .i64 k, .slice none 0 0] 145)) := (Ext.refl _ _).alloc _
          have hlt0 := lt_of_block hO.var
          have hO1 := (hO.quiet hx1).wide (M := [wr.heap.size]) (fun q hq => by
            rw [List.mem_singleton] at hq
            subst hq
            exact ⟨by simp, by omega, fun e => by have := (hO.row.own.lt _ e).2; omega⟩)
          have hnd : NdAt (wr.alloc (.cells #[iz c, .bool false, .int .i64 k, .slice none 0 0] 145)) ([wr.heap.size] ++ N) wr.heap.size (.leaf c k) := ⟨by simp, heap_alloc_at _⟩
          obtain ⟨hO2, hx2⟩ := hpo_add hO1 hnd hown1 hgrow (hat.imp id (fun h => by simpa using h))
          have hx3 : Ext (oHp lb vv N H).F wr (w6.setCell ⟨lb, 0, none⟩ (.slice (some ⟨g, 0, none⟩) (H.length + 1) cap2)) := hx1.weak.trans (hx2.mono (fun q _ hq => by
            rcases List.mem_cons.1 hq with rfl | hq
            · simp [oHp]
            · simp [oHp] at hq ⊢; simp [hq]))
          refine ⟨k + 1, .slice (some ⟨g, 0, none⟩) (H.length + 1) cap2, [wr.heap.size] ++ N, H ++ [(wr.heap.size, .leaf c k)], by omega, by go_num, by simp; omega, ?_, ?_⟩
          · rw [List.map_append, List.append_assoc]
            exact HR.out
          · refine HS.out.upd 0 (oHp lb _ _ _) rfl hx3 (fun q hq => ?_) hO2
            simp [oHp, Value.ownBlock] at hq ⊢
            rcases hq with rfl | rfl | rfl | hq
            · exact .inl (.inl rfl)
            · rcases hat with h | h
              · exact .inl (.inr (.inl h))
              · exact .inr (by omega)
            · exact .inr (Nat.le_refl _)
            · exact .inl (.inr (.inr hq))
      · rw [if_neg h0] at hR
        have HR := Lib.hid hR
        clear hR
        go_wp2_with fail
        go_roundg (l.length - (k + 1))
        case measure => omega
        case rel => exact ⟨k + 1, vv, N, H, by omega, by go_num, by omega, HR.out, HS.out⟩
    · obtain rfl : k = l.length := by omega
      rw [List.drop_length] at hR
      have hRH : H.map (·.2) = R := by simpa [leavesF] using hR
      clear hR
      have hO : HpO wr lb vv N H := S.get 0 rfl
      obtain ⟨w2, hmk, hown, hgrow⟩ := run_make_full (P := Tryz.prog) wr 0 58 3 j0 (.int .i64 0) 1 Tryz.underlying58 hjf hy0 hy1 .i64 .i64 l.length (by rw [hy2]; omega) (by unfold maxLen; omega) (by omega)
      have hx2 : Ext [] wr w2 := (Ext.refl [] wr).grown hgrow (fun k hk => by cases hk)
      have S := S.new hx2 (oSl 3 1 (.slice (some ⟨wr.heap.size, 0, none⟩) l.length l.length) l.length ((zers l.length).map iz)) (by
        have hm : (madeCells (Value.int .i64 0).cells (l.length * 1)).toList = (zers l.length).map iz := by
          unfold zers
          rw [List.map_replicate, Nat.mul_one]
          exact toList_madeCells_one _ _
        rw [← hm]; exact hown) (fun q hq => by simp [oSl, Value.ownBlock] at hq; omega)
      have HS := Lib.hid S
      clear hx2 hown hgrow S
      obtain ⟨q, hq⟩ : ∃ q, wr.heap.size = q := ⟨_, rfl⟩
      rw [hq] at hmk HS
      clear hq hO
      have hO : HpO w2 lb vv N H := HS.out.get 1 rfl
      have c0 : w2.cell? ⟨lb, 0, none⟩ = some vv := cellOf hO.var 0
      obtain ⟨ao2, cap2, rfl⟩ := hO.slice
      by_cases h1 : H.length = 1
      · obtain ⟨⟨a, x⟩, rfl⟩ : ∃ p, H = [p] := List.length_eq_one_iff.1 h1
        have hlv : leavesF l 0 = [x] := by rw [HLV.out, ← hRH]; rfl
        obtain ⟨c, s, rfl, hs⟩ := leaf_of hlv
        have hd := deepN_one hlv
        rw [show (Nd.leaf c s).age = s from rfl] at hd
        rw [HD.out] at hd
        subst hd
        obtain ⟨g, cap3, he, _, _⟩ := hO.row.form (by simp)
        injection he with he1 he2 he3
        subst he1
        have hrow := hO.row.cell (i := 0) (by simp)
        have r0 : w2.cell? ⟨g, 0, none⟩ = some (ptr a) := hrow
        obtain ⟨_, hnb⟩ := (hO.row.nds (a, .leaf c s) (by simp) : NdAt w2 N a (.leaf c s))
        have n2 : w2.cell? ⟨a, 2, none⟩ = some (.int .i64 (s : Int)) := cellOf hnb 2
        have hrw : w2.ownsRow 0 3 1 (.slice (some ⟨q, 0, none⟩) l.length l.length) l.length ((zers l.length).map iz) := HS.out.get 0 rfl
        have hcl : w2.cell? ⟨q, s, none⟩ = some (iz 0) := ownsRow_at hrw (by unfold zers; rw [List.map_replicate, List.getElem?_replicate, if_pos hs])
        have hfr := ownsRow_free hrw s
        have hst := ownsRow_store (i := s) hrw (iz 1)
        rw [← List.map_set] at hst
        have S2 := HS.out.upd 0 (oSl 3 1 (.slice (some ⟨q, 0, none⟩) l.length l.length) l.length (((zers l.length).set s 1).map iz)) rfl ((Ext.refl _ w2).setCell ⟨q, s, none⟩ (iz 1) (.inl (by simp [oSl, Value.ownBlock]))) (Fr.refl _ _) hst
        have HF := Lib.hid S2
        have hsz : (s : Int) < (l.length : Int) := by omega
        clear S2 hst hrw hnb hrow hO hlv hRH he2 he3
        simp only [List.length_singleton] at *
        go_wp2_with fail
        go_ret
        exact ⟨_, rfl, HF.out.ext, HF.out.get 0 rfl, HF.out.base _ (List.mem_cons_self ..)⟩
      · have hlv1 : (leavesF l 0).length ≠ 1 := by rw [HLV.out, ← hRH]; simpa using h1
        have hdm := deepN_more hlv1
        have hinv := inv_start l
        have hsb := sumC_leaves l 0 (fun c hc => HB.out c hc)
        have htri := leavesF_tri l 0
        have hll := leavesF_len l 0
        rw [HLV.out, ← hRH] at hdm hinv hsb htri hll
        have hHS := HpS.init rfl htri
        simp only [List.length_map] at hdm hll
        rw [HD.out] at hdm
        have hT : sumC (H.map (·.2)) ≤ 1099511627776 * 1000 := by omega
        obtain ⟨T, hTT⟩ : ∃ T, sumC (H.map (·.2)) = T := ⟨_, rfl⟩
        rw [hTT] at hT hinv
        have hH9 : H.length ≤ 1000 := by omega
        have h1' : ((H.length : Int) == 1) = false := beq_eq_false_iff_ne.2 (by omega)
        have HINV := Lib.hid (⟨hinv, hHS⟩ : _ ∧ _)
        have HDM := Lib.hid hdm
        clear hdm
        clear hinv hsb htri hll hHS hlv1 hTT hO
        go_wp2_with fail
        have hO : HpO w2 lb (.slice ao2 H.length cap2) N H := HS.out.get 1 rfl
        refine (init_walk lb _ N H w2 hO (by omega)).mono ?_
        rintro e w3 ⟨rfl, hx3, hO3⟩
        have S := HS.out.upd 1 (oHp lb (.slice ao2 H.length cap2) N (initF pnLt H.length (H.length / 2) H)) rfl (hx3.mono (fun i _ hi => by simp [oHp] at hi ⊢; simp [hi])) (Fr.refl _ _) hO3
        have HS := Lib.hid S
        clear S hx3 hO3 hO c0 hmk
        obtain ⟨H0, hH0⟩ : ∃ H0, initF pnLt H.length (H.length / 2) H = H0 := ⟨_, rfl⟩
        obtain ⟨L0, hL0⟩ : ∃ L0, srtS (H.map (·.2)) = L0 := ⟨_, rfl⟩
        rw [hH0] at HS HINV
        rw [hL0] at HINV
        have hdm := HDM.out
        rw [hL0] at hdm
        obtain ⟨R2, hR2⟩ : ∃ R2, mrgF H.length 0 L0 = R2 := ⟨_, rfl⟩
        rw [hR2] at hdm
        have HDM := Lib.hid hdm
        clear hdm
        have hle0 : L0.length = H.length := by rw [← hL0]; have := (srtS_perm (H.map (·.2))).length_eq; simpa using this
        have HR2 := Lib.hid hR2
        have HLE := Lib.hid hle0
        clear hH0 hL0 hR2 hle0 hRH
        go_wp2_with fail
        go_loopg [7] H.length (fun gk gv wr => ∃ (g : Nat) (vv : Value) (N : List Nat) (K : List Pn) (L : List Nd), gv = .int .i64 g ∧ L.length ≤ gk ∧ g + gk ≤ 1000 ∧ mrgF gk g L = R2 ∧ HpS K L ∧ Inv l.length g T L ∧ Sep w wr [oSl 3 1 (.slice (some ⟨q, 0, none⟩) l.length l.length) l.length ((zers l.length).map iz), oHp lb vv N K])
        case atStart => exact ⟨0, _, N, H0, L0, rfl, by have := HLE.out; omega, by omega, HR2.out, HINV.out.2, HINV.out.1, HS.out⟩
        case round =>
          clear HS HR2 HINV HLE
          obtain ⟨g, vv, N, K, L, rfl, hLk, hgk, hR2, hHS, hinv, S⟩ := hrel
          have HS := Lib.hid S
          clear S
          have hO : HpO wr lb vv N K := HS.out.get 1 rfl
          have c0 : wr.cell? ⟨lb, 0, none⟩ = some vv := cellOf hO.var 0
          have hKL := hHS.len
          obtain ⟨ao3, cap3, rfl⟩ := hO.slice
          by_cases hlen : L.length ≤ 1
          · rw [mrgF_stop _ _ _ hlen] at hR2
            subst hR2
            have hk1 : (K.length : Int) ≤ 1 := by omega
            have HV := Lib.hid (⟨hHS, hinv, hO⟩ : _ ∧ _ ∧ _)
            have HK := Lib.hid hKL
            clear hHS hinv hO hKL
            go_wp2_with fail
            go_loopg [77] K.length (fun gk iv wr2 => ∃ (k : Nat) (M : List Int), gk + k = K.length ∧ iv = .int .i64 k ∧ M.length = l.length ∧ ((k = 0 ∧ M = zers l.length) ∨ (k = 1 ∧ ∃ x, L = [x] ∧ M = setD x 0 (zers l.length))) ∧ Sep w wr2 [oSl 3 1 (.slice (some ⟨q, 0, none⟩) l.length l.length) l.length (M.map iz), oHp lb (.slice ao3 K.length cap3) N K])
            case atStart => exact ⟨0, zers l.length, by omega, rfl, by simp [zers], .inl ⟨rfl, rfl⟩, HS.out⟩
            case round =>
              clear HS c0
              obtain ⟨k, M, hk, rfl, hMl, hM, S⟩ := hrel
              by_cases hkk : k < K.length
              · obtain ⟨rfl, rfl⟩ : k = 0 ∧ M = zers l.length := by
                  rcases hM with h | h
                  · exact h
                  · omega
                have hKl := HK.out
                have hK1 : K.length = 1 := by omega
                obtain ⟨⟨a, x⟩, rfl⟩ : ∃ p, K = [p] := List.length_eq_one_iff.1 hK1
                obtain ⟨y, rfl⟩ : ∃ y, L = [y] := List.length_eq_one_iff.1 (by omega)
                have hxy : x = y := by have := HV.out.1.perm; simpa using this
                subst hxy
                have hO : HpO wr lb (.slice ao3 1 cap3) N [(a, x)] := S.get 1 rfl
                obtain ⟨g3, cap4, he, _, _⟩ := hO.row.form (by simp)
                injection he with he1 he2 he3
                subst he1
                have r0 : wr.cell? ⟨g3, 0, none⟩ = some (ptr a) := HpR.cell (H := [(a, x)]) (i := 0) hO.row (by simp)
                have hrw : wr.ownsRow 0 3 1 (.slice (some ⟨q, 0, none⟩) l.length l.length) l.length ((zers l.length).map iz) := S.get 0 rfl
                have hsz := HV.out.2.1.sz x (by simp)
                have hqN : q ∉ N := fun hm => S.apart 0 1 _ _ rfl rfl (by decide) q (by simp [oSl, Value.ownBlock]) (by simp [oHp, hm])
                have hcall := deepen_walk x N a 0 q l.length (zers l.length) wr (hO.row.nds (a, x) (by simp)) hqN (by rw [zers_len]; exact hrw) (by rw [zers_len]; exact hsz.1) (by omega)
                rw [zers_len] at hcall
                have HCALL := Lib.hid hcall
                have HS := Lib.hid S
                clear hcall hrw hO S he2 he3 hKl hsz
                simp only [List.length_singleton] at *
                go_wp2_with fail
                refine HCALL.out.mono ?_
                clear HCALL r0
                rintro e w5 ⟨rfl, hx5, ho5⟩
                have S := HS.out.upd 0 (oSl 3 1 (.slice (some ⟨q, 0, none⟩) l.length l.length) l.length ((setD x 0 (zers l.length)).map iz)) rfl (hx5.mono (fun i _ hi => by simpa [oSl, Value.ownBlock] using hi)) (Fr.refl _ _) ho5
                have HS := Lib.hid S
                clear S hx5 ho5
                go_wp2_with fail
                go_roundg 0
                case measure => omega
                case rel => exact ⟨1, setD x 0 (zers l.length), by omega, rfl, by rw [setD_len, zers_len], .inr ⟨rfl, x, rfl, rfl⟩, HS.out⟩
              · have hKl := HK.out
                have hfin : topD l.length L = M := by
                  rcases hM with ⟨rfl, rfl⟩ | ⟨rfl, x, rfl, rfl⟩
                  · have : L = [] := List.eq_nil_of_length_eq_zero (by omega)
                    rw [this]
                    rfl
                  · rfl
                have HFIN := Lib.hid hfin
                have HS := Lib.hid S
                have hkI : (K.length : Int) ≤ (k : Int) := by omega
                clear hM hfin S
                go_wp2_with fail
                go_ret
                rw [HDM.out, HFIN.out]
                exact ⟨_, rfl, HS.out.ext, HS.out.get 0 rfl, HS.out.base _ (List.mem_cons_self ..)⟩
          · obtain ⟨a, L', rfl⟩ : ∃ a L', L = a :: L' := by
              cases L with
              | nil => simp at hlen
              | cons a L' => exact ⟨a, L', rfl⟩
            obtain ⟨b, L', rfl⟩ : ∃ b M, L' = b :: M := by
              cases L' with
              | nil => simp at hlen
              | cons b M => exact ⟨b, M, rfl⟩
            obtain ⟨g', rfl⟩ : ∃ g', gk = g' + 1 := ⟨gk - 1, by simp at hLk; omega⟩
            rw [mrgF] at hR2
            have hl2 : L'.length + 2 = K.length := by simp at hKL; omega
            obtain ⟨p1, hS1⟩ := hHS.pop
            obtain ⟨p2, hS2⟩ := hS1.pop
            have hk2 : (popL K).length = K.length - 1 := popL_len K
            have hk3 : (popL (popL K)).length = K.length - 2 := by rw [popL_len, popL_len]; omega
            have hm1 : at_ K 0 ∈ K := at_mem2 (by omega)
            have hm2 : at_ (popL K) 0 ∈ K := (popL_perm K (by omega)).mem_iff.2 (List.mem_cons_of_mem _ (at_mem2 (by omega)))
            have na := hO.row.nds _ hm1
            have nb := hO.row.nds _ hm2
            rw [p1] at na
            rw [p2] at nb
            obtain ⟨hpa, hpb, hpt⟩ := hinv.two
            have hstep := hinv.step
            have hpush := fun ad => hS2.push ad (.join (a.cnt + b.cnt) g a b) (tri_join (fun x hx => hinv.young x (by simp [hx])))
            have hPK := fun w1 (ho : HpO w1 lb (.slice ao3 K.length cap3) N K) => pop_walk lb _ N K w1 ho (by omega) (by omega)
            have hPK2 := fun v5 w1 (ho : HpO w1 lb v5 N (popL K)) => pop_walk lb v5 N (popL K) w1 ho (by omega) (by omega)
            obtain ⟨a1, ha1⟩ : ∃ a1, (at_ K 0).1 = a1 := ⟨_, rfl⟩
            obtain ⟨a2, ha2⟩ : ∃ a2, (at_ (popL K) 0).1 = a2 := ⟨_, rfl⟩
            obtain ⟨K2, hK2⟩ : ∃ K2, popL (popL K) = K2 := ⟨_, rfl⟩
            rw [ha1] at na hPK
            rw [ha2] at nb hPK2
            rw [hK2] at hPK2 hpush hS2 hk3
            have HV := Lib.hid (⟨hstep, hpush, hR2⟩ : _ ∧ _ ∧ _)
            have HN := Lib.hid (⟨na, nb⟩ : _ ∧ _)
            have HPK := Lib.hid hPK
            have HPK2 := Lib.hid hPK2
            have HO := Lib.hid hO
            have hLg : L'.length + 1 ≤ g' := by simp at hLk; omega
            have hk1 : (1 : Int) < (K.length : Int) := by omega
            have hta1 := assertNode a1
            have hta2 := assertNode a2
            have HKS := Lib.hid (⟨hl2, hk2, hk3⟩ : _ ∧ _ ∧ _)
            clear hstep hpush hR2 na nb hPK hPK2 hO hS1 hS2 hHS hinv p1 p2 hm1 hm2 ha1 ha2 hK2 hKL hLk hlen hl2 hk2 hk3
            go_wp2_with fail
            refine wp_region_perm (C := fun w' => ∃ x : ExS (lb :: (Value.slice ao3 K.length cap3).ownBlock.toList) wr, w' = x.w) [0, 3] 7 (by kernel_rfl) (by kernel_rfl) ⟨ExS.mk _ ((Ext.refl _ wr).drew), rfl⟩ ?_
            simp only [pick, List.getElem?_toArray, List.getElem?_cons_zero, List.getElem?_cons_succ, List.drop_succ_cons, List.drop_zero]
            repeat (go_big_quiet_step (fail))
            refine wpQuiet_nil ?_
            clear c0
            refine anyC_one (f := 4) (i := 1) (by kernel_rfl) (by decide) rfl rfl (fun Kc hK => ?_)
            go_wp2_with fail
            refine (HPK.out wr.drew (HO.out.quiet ((Ext.refl [] wr).drew))).mono ?_
            rintro e w5 ⟨v5, rfl, hv5, hx5, hO5⟩
            have hx5 : Ext (lb :: (Value.slice ao3 K.length cap3).ownBlock.toList) wr w5 := ((Ext.refl _ wr).drew).trans hx5
            refine hK _ _ ⟨ExS.mk w5 hx5, rfl⟩ ?_
            have H5 := Lib.hid (⟨hv5, hx5, hO5⟩ : _ ∧ _ ∧ _)
            clear hK Kc hv5 hx5 hO5 HPK
            refine anyC_two (f := 3) (i := 2) (j := 4) (by kernel_rfl) (by decide) (by decide) rfl rfl rfl rfl (fun Kc hK => ?_) (fun Kc hK => ?_)
            · go_wp2_with fail
              refine hK _ _ ⟨ExS.mk w5 H5.out.2.1, rfl⟩ ?_
              clear hK Kc
              refine anyC_one (f := 2) (i := 4) (by kernel_rfl) (by decide) rfl rfl (fun Kc hK => ?_)
              go_wp2_with fail
              refine (HPK2.out v5 w5 H5.out.2.2).mono ?_
              rintro e w6 ⟨v6, rfl, hv6, hx6, hO6⟩
              have hv6 : v6.ownBlock = (Value.slice ao3 K.length cap3).ownBlock := hv6.trans H5.out.1
              have hx6 : Ext (lb :: (Value.slice ao3 K.length cap3).ownBlock.toList) wr w6 := H5.out.2.1.trans (by have := H5.out.1; rw [this] at hx6; exact hx6)
              have H6 := Lib.hid (⟨hv6, hx6, hO6⟩ : _ ∧ _ ∧ _)
              refine hK _ _ ⟨ExS.mk w6 hx6, rfl⟩ ?_
              clear hK Kc hv6 hx6 hO6 HPK2
              refine anyC_two (f := 1) (i := 5) (j := 6) (by kernel_rfl) (by decide) (by decide) rfl rfl rfl rfl (fun Kc hK => ?_) (fun Kc hK => ?_)
              · go_wp2_with fail
                refine hK _ _ ⟨ExS.mk w6 H6.out.2.1, rfl⟩ ?_
                clear hK Kc
                refine anyC_one (f := 0) (i := 6) (by kernel_rfl) (by decide) rfl rfl (fun Kc hK => ?_)
                go_wp2_with fail
                refine hK _ _ ⟨ExS.mk w6 H6.out.2.1, rfl⟩ ?_
                clear hK Kc
                refine anyC_end (by kernel_rfl) ?_
                go_wp2_with fail
                refine NoPanic.normal ?_
                clear hta1 hta2
                have hNF : ∀ k ∈ N, k ∉ lb :: (Value.slice ao3 K.length cap3).ownBlock.toList := fun k hk h => by
                  rcases List.mem_cons.1 h with rfl | h
                  · exact HO.out.nN hk
                  · exact HO.out.row.far k (by simpa using h) hk
                have na6 := HN.out.1.ext H6.out.2.1 hNF
                have nb6 := HN.out.2.ext H6.out.2.1 hNF
                obtain ⟨pa, hpa6⟩ := na6.head
                obtain ⟨pb, hpb6⟩ := nb6.head
                have ca : ∀ z : Ex w6, z.w.cell? ⟨a1, 0, none⟩ = some (.int .i64 a.cnt) := fun z => cellOf (z.heap hpa6) 0
                have cb : ∀ z : Ex w6, z.w.cell? ⟨a2, 0, none⟩ = some (.int .i64 b.cnt) := fun z => cellOf (z.heap hpb6) 0
                have hwrap : IntKind.i64.wrap (a.cnt + b.cnt) = a.cnt + b.cnt := IntWalk.i64_in _ (by omega)
                have HN6 := Lib.hid (⟨na6, nb6⟩ : _ ∧ _)
                clear na6 nb6 hpa6 hpb6 hNF HN
                obtain ⟨xa, hxa⟩ : ∃ xa, a.cnt = xa := ⟨_, rfl⟩
                obtain ⟨xb, hxb⟩ : ∃ xb, b.cnt = xb := ⟨_, rfl⟩
                rw [hxa] at ca hwrap hpa hpt HV
                rw [hxb] at cb hwrap hpb hpt HV
                clear hxa hxb
                go_wp2_with fail
                refine wp_region_perm (C := fun w' => ∃ x : Ex w6, w' = x.w) [0, 1, 2, 3, 4, 5, 6, 7, 8, 9, 10, 11, 12] 17 (by kernel_rfl) (by kernel_rfl) ⟨Ex.mk _ ((Ext.refl [] w6).drew), rfl⟩ ?_
                simp only [pick, List.getElem?_toArray, List.getElem?_cons_zero, List.getElem?_cons_succ, List.drop_succ_cons, List.drop_zero]
                repeat (go_big_quiet_step (fail))
                refine wpQuiet_nil ?_
                clear ca cb hwrap
                refine anyC_one (f := 3) (i := 13) (by kernel_rfl) (by decide) rfl rfl (fun Kc hK => ?_)
                go_wp2_with fail
                refine hK _ _ ⟨Ex.mk _ (((Ext.refl [] w6).drew).alloc _), rfl⟩ ?_
                clear hK Kc
                refine anyC_one (f := 2) (i := 14) (by kernel_rfl) (by decide) rfl rfl (fun Kc hK => ?_)
                go_wp2_with fail
                refine hK _ _ ⟨Ex.mk _ (((Ext.refl [] w6).drew).alloc _), rfl⟩ ?_
                clear hK Kc
                refine anyC_one (f := 1) (i := 15) (by kernel_rfl) (by decide) rfl rfl (fun Kc hK => ?_)
                go_wp2_with fail
                refine hK _ _ ⟨Ex.mk _ ((((Ext.refl [] w6).drew).alloc _).alloc _), rfl⟩ ?_
                clear hK Kc
                refine anyC_one (f := 0) (i := 16) (by kernel_rfl) (by decide) rfl rfl (fun Kc hK => ?_)
                go_wp2_with fail
                refine hK _ _ ⟨Ex.mk _ ((((Ext.refl [] w6).drew).alloc _).alloc _), rfl⟩ ?_
                clear hK Kc
                refine anyC_end (by kernel_rfl) ?_
                go_wp2_with fail
                obtain ⟨rb, hrb⟩ : ∃ rb, w6.heap.size = rb := ⟨_, rfl⟩
                have hA := heap_alloc_at (w := w6.drew) (.cells #[ptr a1, ptr a2] 143)
                have hB := heap_alloc_at (w := w6.drew.alloc (.cells #[ptr a1, ptr a2] 143)) (ndO (.join (xa + xb) g a b) (.slice (some ⟨rb, 0, none⟩) 2 2))
                rw [show (w6.drew.alloc (.cells #[ptr a1, ptr a2] 143)).heap.size = rb + 1 from by rw [← hrb]; simp] at hB
                rw [show w6.drew.heap.size = rb from hrb] at hA
                rw [hrb]
                obtain ⟨W7, hW7⟩ : ∃ W7, (w6.drew.alloc (.cells #[ptr a1, ptr a2] 143)).alloc (ndO (.join (xa + xb) g a b) (.slice (some ⟨rb, 0, none⟩) 2 2)) = W7 := ⟨_, rfl⟩
                have hx7 : Ext [] w6 W7 := by rw [← hW7]; exact (((Ext.refl [] w6).drew).alloc _).alloc _
                have hA7 : W7.heap[rb]? = some (.cells #[ptr a1, ptr a2] 143 (0, 0)) := by rw [← hW7]; exact heap_alloc_old _ hA
                have hB7 : W7.heap[rb + 1]? = some (ndO (.join (xa + xb) g a b) (.slice (some ⟨rb, 0, none⟩) 2 2)) := by rw [← hW7]; exact hB
                have hsz7 := lt_of_block hB7
                have hlt6 := lt_of_block H6.out.2.2.var
                have hO7 := (H6.out.2.2.quiet hx7).wide (M := [rb + 1, rb]) (fun q hq => by
                  simp at hq
                  have hown := fun k hk => (H6.out.2.2.row.own.lt k hk).2
                  rcases hq with rfl | rfl
                  · exact ⟨hsz7, by omega, fun e => by have := hown _ e; omega⟩
                  · exact ⟨by omega, by omega, fun e => by have := hown _ e; omega⟩)
                have hn7 : NdAt W7 ([rb + 1, rb] ++ N) (rb + 1) (.join (xa + xb) g a b) :=
                  ⟨by simp, rb, a1, a2, by simp, hB7, hA7, (HN6.out.1.ext hx7 (by simp)).mono (fun k hk => List.mem_append_right _ hk), (HN6.out.2.ext hx7 (by simp)).mono (fun k hk => List.mem_append_right _ hk)⟩
                have hcall := push_walk lb v6 ([rb + 1, rb] ++ N) K2 (rb + 1) (.join (xa + xb) g a b) W7 hO7 hn7 (by have := HKS.out.2.2; have := HKS.out.1; omega)
                rw [← hW7] at hcall
                have HCALL := Lib.hid hcall
                have H7 := Lib.hid (⟨hx7, hsz7, hrb⟩ : _ ∧ _ ∧ _)
                clear hcall hA hB hA7 hB7 hO7 hn7 hx7 hlt6 hsz7
                refine HCALL.out.mono ?_
                clear HCALL HN6
                rintro e w8 ⟨v8, rfl, hv8, hx8, hO8⟩
                rw [hW7] at hv8 hx8
                clear hW7
                have H8 := Lib.hid (⟨hv8, hx8, hO8⟩ : _ ∧ _ ∧ _)
                clear hv8 hx8 hO8 hrb
                go_wp2_with fail
                refine NoPanic.normal ?_
                go_wp2_with fail
                go_roundg g'
                case measure => omega
                case rel =>
                  obtain ⟨hv6, hx6, hO6⟩ := H6.out
                  obtain ⟨hv8, hx8, hO8⟩ := H8.out
                  obtain ⟨hx7, hsz7, hrb⟩ := H7.out
                  rw [hv6] at hv8 hx8
                  have hxx : Ext (oHp lb (.slice ao3 K.length cap3) N K).F wr w8 := ((hx6.trans hx7.weak).trans hx8).mono (fun i _ hi => by
                    simp [oHp] at hi ⊢
                    rcases hi with h | h
                    · exact .inl h
                    · exact .inr (.inl h))
                  refine ⟨g + 1, v8, [rb + 1, rb] ++ N, pushL K2 (rb + 1, .join (xa + xb) g a b), _, by go_num, by rw [insS_len]; exact hLg, by omega, HV.out.2.2, HV.out.2.1 _, HV.out.1, ?_⟩
                  refine HS.out.upd 1 (oHp lb v8 _ _) rfl hxx (fun i hi => ?_) hO8
                  have hs6 := hx6.size
                  simp [oHp] at hi ⊢
                  rcases hi with h | h | h | h | h
                  · exact .inl (.inl h)
                  · rcases hv8 i h with h | h
                    · exact .inl (.inr (.inl h))
                    · exact .inr (by have := hx7.size; omega)
                  · exact .inr (by omega)
                  · exact .inr (by omega)
                  · exact .inl (.inr (.inr h))
              · go_wp2_with fail
                refine hK _ _ ⟨ExS.mk w6 H6.out.2.1, rfl⟩ ?_
                clear hK Kc
                refine anyC_one (f := 0) (i := 5) (by kernel_rfl) (by decide) rfl rfl (fun Kc hK => ?_)
                go_wp2_with fail
                refine hK _ _ ⟨ExS.mk w6 H6.out.2.1, rfl⟩ ?_
                clear hK Kc
                refine anyC_end (by kernel_rfl) ?_
                go_wp2_with fail
                refine NoPanic.normal ?_
                clear hta1 hta2
                have hNF : ∀ k ∈ N, k ∉ lb :: (Value.slice ao3 K.length cap3).ownBlock.toList := fun k hk h => by
                  rcases List.mem_cons.1 h with rfl | h
                  · exact HO.out.nN hk
                  · exact HO.out.row.far k (by simpa using h) hk
                have na6 := HN.out.1.ext H6.out.2.1 hNF
                have nb6 := HN.out.2.ext H6.out.2.1 hNF
                obtain ⟨pa, hpa6⟩ := na6.head
                obtain ⟨pb, hpb6⟩ := nb6.head
                have ca : ∀ z : Ex w6, z.w.cell? ⟨a1, 0, none⟩ = some (.int .i64 a.cnt) := fun z => cellOf (z.heap hpa6) 0
                have cb : ∀ z : Ex w6, z.w.cell? ⟨a2, 0, none⟩ = some (.int .i64 b.cnt) := fun z => cellOf (z.heap hpb6) 0
                have hwrap : IntKind.i64.wrap (a.cnt + b.cnt) = a.cnt + b.cnt := IntWalk.i64_in _ (by omega)
                have HN6 := Lib.hid (⟨na6, nb6⟩ : _ ∧ _)
                clear na6 nb6 hpa6 hpb6 hNF HN
                obtain ⟨xa, hxa⟩ : ∃ xa, a.cnt = xa := ⟨_, rfl⟩
                obtain ⟨xb, hxb⟩ : ∃ xb, b.cnt = xb := ⟨_, rfl⟩
                rw [hxa] at ca hwrap hpa hpt HV
                rw [hxb] at cb hwrap hpb hpt HV
                clear hxa hxb
                go_wp2_with fail
                refine wp_region_perm (C := fun w' => ∃ x : Ex w6, w' = x.w) [0, 1, 2, 3, 4, 5, 6, 7, 8, 9, 10, 11, 12] 17 (by kernel_rfl) (by kernel_rfl) ⟨Ex.mk _ ((Ext.refl [] w6).drew), rfl⟩ ?_
                simp only [pick, List.getElem?_toArray, List.getElem?_cons_zero, List.getElem?_cons_succ, List.drop_succ_cons, List.drop_zero]
                repeat (go_big_quiet_step (fail))
                refine wpQuiet_nil ?_
                clear ca cb hwrap
                refine anyC_one (f := 3) (i := 13) (by kernel_rfl) (by decide) rfl rfl (fun Kc hK => ?_)
                go_wp2_with fail
                refine hK _ _ ⟨Ex.mk _ (((Ext.refl [] w6).drew).alloc _), rfl⟩ ?_
                clear hK Kc
                refine anyC_one (f := 2) (i := 14) (by kernel_rfl) (by decide) rfl rfl (fun Kc hK => ?_)
                go_wp2_with fail
                refine hK _ _ ⟨Ex.mk _ (((Ext.refl [] w6).drew).alloc _), rfl⟩ ?_
                clear hK Kc
                refine anyC_one (f := 1) (i := 15) (by kernel_rfl) (by decide) rfl rfl (fun Kc hK => ?_)
                go_wp2_with fail
                refine hK _ _ ⟨Ex.mk _ ((((Ext.refl [] w6).drew).alloc _).alloc _), rfl⟩ ?_
                clear hK Kc
                refine anyC_one (f := 0) (i := 16) (by kernel_rfl) (by decide) rfl rfl (fun Kc hK => ?_)
                go_wp2_with fail
                refine hK _ _ ⟨Ex.mk _ ((((Ext.refl [] w6).drew).alloc _).alloc _), rfl⟩ ?_
                clear hK Kc
                refine anyC_end (by kernel_rfl) ?_
                go_wp2_with fail
                obtain ⟨rb, hrb⟩ : ∃ rb, w6.heap.size = rb := ⟨_, rfl⟩
                have hA := heap_alloc_at (w := w6.drew) (.cells #[ptr a1, ptr a2] 143)
                have hB := heap_alloc_at (w := w6.drew.alloc (.cells #[ptr a1, ptr a2] 143)) (ndO (.join (xa + xb) g a b) (.slice (some ⟨rb, 0, none⟩) 2 2))
                rw [show (w6.drew.alloc (.cells #[ptr a1, ptr a2] 143)).heap.size = rb + 1 from by rw [← hrb]; simp] at hB
                rw [show w6.drew.heap.size = rb from hrb] at hA
                rw [hrb]
                obtain ⟨W7, hW7⟩ : ∃ W7, (w6.drew.alloc (.cells #[ptr a1, ptr a2] 143)).alloc (ndO (.join (xa + xb) g a b) (.slice (some ⟨rb, 0, none⟩) 2 2)) = W7 := ⟨_, rfl⟩
                have hx7 : Ext [] w6 W7 := by rw [← hW7]; exact (((Ext.refl [] w6).drew).alloc _).alloc _
                have hA7 : W7.heap[rb]? = some (.cells #[ptr a1, ptr a2] 143 (0, 0)) := by rw [← hW7]; exact heap_alloc_old _ hA
                have hB7 : W7.heap[rb + 1]? = some (ndO (.join (xa + xb) g a b) (.slice (some ⟨rb, 0, none⟩) 2 2)) := by rw [← hW7]; exact hB
                have hsz7 := lt_of_block hB7
                have hlt6 := lt_of_block H6.out.2.2.var
                have hO7 := (H6.out.2.2.quiet hx7).wide (M := [rb + 1, rb]) (fun q hq => by
                  simp at hq
                  have hown := fun k hk => (H6.out.2.2.row.own.lt k hk).2
                  rcases hq with rfl | rfl
                  · exact ⟨hsz7, by omega, fun e => by have := hown _ e; omega⟩
                  · exact ⟨by omega, by omega, fun e => by have := hown _ e; omega⟩)
                have hn7 : NdAt W7 ([rb + 1, rb] ++ N) (rb + 1) (.join (xa + xb) g a b) :=
                  ⟨by simp, rb, a1, a2, by simp, hB7, hA7, (HN6.out.1.ext hx7 (by simp)).mono (fun k hk => List.mem_append_right _ hk), (HN6.out.2.ext hx7 (by simp)).mono (fun k hk => List.mem_append_right _ hk)⟩
                have hcall := push_walk lb v6 ([rb + 1, rb] ++ N) K2 (rb + 1) (.join (xa + xb) g a b) W7 hO7 hn7 (by have := HKS.out.2.2; have := HKS.out.1; omega)
                rw [← hW7] at hcall
                have HCALL := Lib.hid hcall
                have H7 := Lib.hid (⟨hx7, hsz7, hrb⟩ : _ ∧ _ ∧ _)
                clear hcall hA hB hA7 hB7 hO7 hn7 hx7 hlt6 hsz7
                refine HCALL.out.mono ?_
                clear HCALL HN6
                rintro e w8 ⟨v8, rfl, hv8, hx8, hO8⟩
                rw [hW7] at hv8 hx8
                clear hW7
                have H8 := Lib.hid (⟨hv8, hx8, hO8⟩ : _ ∧ _ ∧ _)
                clear hv8 hx8 hO8 hrb
                go_wp2_with fail
                refine NoPanic.normal ?_
                go_wp2_with fail
                go_roundg g'
                case measure => omega
                case rel =>
                  obtain ⟨hv6, hx6, hO6⟩ := H6.out
                  obtain ⟨hv8, hx8, hO8⟩ := H8.out
                  obtain ⟨hx7, hsz7, hrb⟩ := H7.out
                  rw [hv6] at hv8 hx8
                  have hxx : Ext (oHp lb (.slice ao3 K.length cap3) N K).F wr w8 := ((hx6.trans hx7.weak).trans hx8).mono (fun i _ hi => by
                    simp [oHp] at hi ⊢
                    rcases hi with h | h
                    · exact .inl h
                    · exact .inr (.inl h))
                  refine ⟨g + 1, v8, [rb + 1, rb] ++ N, pushL K2 (rb + 1, .join (xa + xb) g a b), _, by go_num, by rw [insS_len]; exact hLg, by omega, HV.out.2.2, HV.out.2.1 _, HV.out.1, ?_⟩
                  refine HS.out.upd 1 (oHp lb v8 _ _) rfl hxx (fun i hi => ?_) hO8
                  have hs6 := hx6.size
                  simp [oHp] at hi ⊢
                  rcases hi with h | h | h | h | h
                  · exact .inl (.inl h)
                  · rcases hv8 i h with h | h
                    · exact .inl (.inr (.inl h))
                    · exact .inr (by have := hx7.size; omega)
                  · exact .inr (by omega)
                  · exact .inr (by omega)
                  · exact .inl (.inr (.inr h))
            · go_wp2_with fail
              refine (HPK2.out v5 w5 H5.out.2.2).mono ?_
              rintro e w6 ⟨v6, rfl, hv6, hx6, hO6⟩
              have hv6 : v6.ownBlock = (Value.slice ao3 K.length cap3).ownBlock := hv6.trans H5.out.1
              have hx6 : Ext (lb :: (Value.slice ao3 K.length cap3).ownBlock.toList) wr w6 := H5.out.2.1.trans (by have := H5.out.1; rw [this] at hx6; exact hx6)
              have H6 := Lib.hid (⟨hv6, hx6, hO6⟩ : _ ∧ _ ∧ _)
              refine hK _ _ ⟨ExS.mk w6 hx6, rfl⟩ ?_
              clear hK Kc hv6 hx6 hO6 HPK2
              refine anyC_two (f := 2) (i := 2) (j := 5) (by kernel_rfl) (by decide) (by decide) rfl rfl rfl rfl (fun Kc hK => ?_) (fun Kc hK => ?_)
              · go_wp2_with fail
                refine hK _ _ ⟨ExS.mk w6 H6.out.2.1, rfl⟩ ?_
                clear hK Kc
                refine anyC_two (f := 1) (i := 5) (j := 6) (by kernel_rfl) (by decide) (by decide) rfl rfl rfl rfl (fun Kc hK => ?_) (fun Kc hK => ?_)
                · go_wp2_with fail
                  refine hK _ _ ⟨ExS.mk w6 H6.out.2.1, rfl⟩ ?_
                  clear hK Kc
                  refine anyC_one (f := 0) (i := 6) (by kernel_rfl) (by decide) rfl rfl (fun Kc hK => ?_)
                  go_wp2_with fail
                  refine hK _ _ ⟨ExS.mk w6 H6.out.2.1, rfl⟩ ?_
                  clear hK Kc
                  refine anyC_end (by kernel_rfl) ?_
                  go_wp2_with fail
                  refine NoPanic.normal ?_
                  clear hta1 hta2
                  have hNF : ∀ k ∈ N, k ∉ lb :: (Value.slice ao3 K.length cap3).ownBlock.toList := fun k hk h => by
                    rcases List.mem_cons.1 h with rfl | h
                    · exact HO.out.nN hk
                    · exact HO.out.row.far k (by simpa using h) hk
                  have na6 := HN.out.1.ext H6.out.2.1 hNF
                  have nb6 := HN.out.2.ext H6.out.2.1 hNF
                  obtain ⟨pa, hpa6⟩ := na6.head
                  obtain ⟨pb, hpb6⟩ := nb6.head
                  have ca : ∀ z : Ex w6, z.w.cell? ⟨a1, 0, none⟩ = some (.int .i64 a.cnt) := fun z => cellOf (z.heap hpa6) 0
                  have cb : ∀ z : Ex w6, z.w.cell? ⟨a2, 0, none⟩ = some (.int .i64 b.cnt) := fun z => cellOf (z.heap hpb6) 0
                  have hwrap : IntKind.i64.wrap (a.cnt + b.cnt) = a.cnt + b.cnt := IntWalk.i64_in _ (by omega)
                  have HN6 := Lib.hid (⟨na6, nb6⟩ : _ ∧ _)
                  clear na6 nb6 hpa6 hpb6 hNF HN
                  obtain ⟨xa, hxa⟩ : ∃ xa, a.cnt = xa := ⟨_, rfl⟩
                  obtain ⟨xb, hxb⟩ : ∃ xb, b.cnt = xb := ⟨_, rfl⟩
                  rw [hxa] at ca hwrap hpa hpt HV
                  rw [hxb] at cb hwrap hpb hpt HV
                  clear hxa hxb
                  go_wp2_with fail
                  refine wp_region_perm (C := fun w' => ∃ x : Ex w6, w' = x.w) [0, 1, 2, 3, 4, 5, 6, 7, 8, 9, 10, 11, 12] 17 (by kernel_rfl) (by kernel_rfl) ⟨Ex.mk _ ((Ext.refl [] w6).drew), rfl⟩ ?_
                  simp only [pick, List.getElem?_toArray, List.getElem?_cons_zero, List.getElem?_cons_succ, List.drop_succ_cons, List.drop_zero]
                  repeat (go_big_quiet_step (fail))
                  refine wpQuiet_nil ?_
                  clear ca cb hwrap
                  refine anyC_one (f := 3) (i := 13) (by kernel_rfl) (by decide) rfl rfl (fun Kc hK => ?_)
                  go_wp2_with fail
                  refine hK _ _ ⟨Ex.mk _ (((Ext.refl [] w6).drew).alloc _), rfl⟩ ?_
                  clear hK Kc
                  refine anyC_one (f := 2) (i := 14) (by kernel_rfl) (by decide) rfl rfl (fun Kc hK => ?_)
                  go_wp2_with fail
                  refine hK _ _ ⟨Ex.mk _ (((Ext.refl [] w6).drew).alloc _), rfl⟩ ?_
                  clear hK Kc
                  refine anyC_one (f := 1) (i := 15) (by kernel_rfl) (by decide) rfl rfl (fun Kc hK => ?_)
                  go_wp2_with fail
                  refine hK _ _ ⟨Ex.mk _ ((((Ext.refl [] w6).drew).alloc _).alloc _), rfl⟩ ?_
                  clear hK Kc
                  refine anyC_one (f := 0) (i := 16) (by kernel_rfl) (by decide) rfl rfl (fun Kc hK => ?_)
                  go_wp2_with fail
                  refine hK _ _ ⟨Ex.mk _ ((((Ext.refl [] w6).drew).alloc _).alloc _), rfl⟩ ?_
                  clear hK Kc
                  refine anyC_end (by kernel_rfl) ?_
                  go_wp2_with fail
                  obtain ⟨rb, hrb⟩ : ∃ rb, w6.heap.size = rb := ⟨_, rfl⟩
                  have hA := heap_alloc_at (w := w6.drew) (.cells #[ptr a1, ptr a2] 143)
                  have hB := heap_alloc_at (w := w6.drew.alloc (.cells #[ptr a1, ptr a2] 143)) (ndO (.join (xa + xb) g a b) (.slice (some ⟨rb, 0, none⟩) 2 2))
                  rw [show (w6.drew.alloc (.cells #[ptr a1, ptr a2] 143)).heap.size = rb + 1 from by rw [← hrb]; simp] at hB
                  rw [show w6.drew.heap.size = rb from hrb] at hA
                  rw [hrb]
                  obtain ⟨W7, hW7⟩ : ∃ W7, (w6.drew.alloc (.cells #[ptr a1, ptr a2] 143)).alloc (ndO (.join (xa + xb) g a b) (.slice (some ⟨rb, 0, none⟩) 2 2)) = W7 := ⟨_, rfl⟩
                  have hx7 : Ext [] w6 W7 := by rw [← hW7]; exact (((Ext.refl [] w6).drew).alloc _).alloc _
                  have hA7 : W7.heap[rb]? = some (.cells #[ptr a1, ptr a2] 143 (0, 0)) := by rw [← hW7]; exact heap_alloc_old _ hA
                  have hB7 : W7.heap[rb + 1]? = some (ndO (.join (xa + xb) g a b) (.slice (some ⟨rb, 0, none⟩) 2 2)) := by rw [← hW7]; exact hB
                  have hsz7 := lt_of_block hB7
                  have hlt6 := lt_of_block H6.out.2.2.var
                  have hO7 := (H6.out.2.2.quiet hx7).wide (M := [rb + 1, rb]) (fun q hq => by
                    simp at hq
                    have hown := fun k hk => (H6.out.2.2.row.own.lt k hk).2
                    rcases hq with rfl | rfl
                    · exact ⟨hsz7, by omega, fun e => by have := hown _ e; omega⟩
                    · exact ⟨by omega, by omega, fun e => by have := hown _ e; omega⟩)
                  have hn7 : NdAt W7 ([rb + 1, rb] ++ N) (rb + 1) (.join (xa + xb) g a b) :=
                    ⟨by simp, rb, a1, a2, by simp, hB7, hA7, (HN6.out.1.ext hx7 (by simp)).mono (fun k hk => List.mem_append_right _ hk), (HN6.out.2.ext hx7 (by simp)).mono (fun k hk => List.mem_append_right _ hk)⟩
                  have hcall := push_walk lb v6 ([rb + 1, rb] ++ N) K2 (rb + 1) (.join (xa + xb) g a b) W7 hO7 hn7 (by have := HKS.out.2.2; have := HKS.out.1; omega)
                  rw [← hW7] at hcall
                  have HCALL := Lib.hid hcall
                  have H7 := Lib.hid (⟨hx7, hsz7, hrb⟩ : _ ∧ _ ∧ _)
                  clear hcall hA hB hA7 hB7 hO7 hn7 hx7 hlt6 hsz7
                  refine HCALL.out.mono ?_
                  clear HCALL HN6
                  rintro e w8 ⟨v8, rfl, hv8, hx8, hO8⟩
                  rw [hW7] at hv8 hx8
                  clear hW7
                  have H8 := Lib.hid (⟨hv8, hx8, hO8⟩ : _ ∧ _ ∧ _)
                  clear hv8 hx8 hO8 hrb
                  go_wp2_with fail
                  refine NoPanic.normal ?_
                  go_wp2_with fail
                  go_roundg g'
                  case measure => omega
                  case rel =>
                    obtain ⟨hv6, hx6, hO6⟩ := H6.out
                    obtain ⟨hv8, hx8, hO8⟩ := H8.out
                    obtain ⟨hx7, hsz7, hrb⟩ := H7.out
                    rw [hv6] at hv8 hx8
                    have hxx : Ext (oHp lb (.slice ao3 K.length cap3) N K).F wr w8 := ((hx6.trans hx7.weak).trans hx8).mono (fun i _ hi => by
                      simp [oHp] at hi ⊢
                      rcases hi with h | h
                      · exact .inl h
                      · exact .inr (.inl h))
                    refine ⟨g + 1, v8, [rb + 1, rb] ++ N, pushL K2 (rb + 1, .join (xa + xb) g a b), _, by go_num, by rw [insS_len]; exact hLg, by omega, HV.out.2.2, HV.out.2.1 _, HV.out.1, ?_⟩
                    refine HS.out.upd 1 (oHp lb v8 _ _) rfl hxx (fun i hi => ?_) hO8
                    have hs6 := hx6.size
                    simp [oHp] at hi ⊢
                    rcases hi with h | h | h | h | h
                    · exact .inl (.inl h)
                    · rcases hv8 i h with h | h
                      · exact .inl (.inr (.inl h))
                      · exact .inr (by have := hx7.size; omega)
                    · exact .inr (by omega)
                    · exact .inr (by omega)
                    · exact .inl (.inr (.inr h))
                · go_wp2_with fail
                  refine hK _ _ ⟨ExS.mk w6 H6.out.2.1, rfl⟩ ?_
                  clear hK Kc
                  refine anyC_one (f := 0) (i := 5) (by kernel_rfl) (by decide) rfl rfl (fun Kc hK => ?_)
                  go_wp2_with fail
                  refine hK _ _ ⟨ExS.mk w6 H6.out.2.1, rfl⟩ ?_
                  clear hK Kc
                  refine anyC_end (by kernel_rfl) ?_
                  go_wp2_with fail
                  refine NoPanic.normal ?_
                  clear hta1 hta2
                  have hNF : ∀ k ∈ N, k ∉ lb :: (Value.slice ao3 K.length cap3).ownBlock.toList := fun k hk h => by
                    rcases List.mem_cons.1 h with rfl | h
                    · exact HO.out.nN hk
                    · exact HO.out.row.far k (by simpa using h) hk
                  have na6 := HN.out.1.ext H6.out.2.1 hNF
                  have nb6 := HN.out.2.ext H6.out.2.1 hNF
                  obtain ⟨pa, hpa6⟩ := na6.head
                  obtain ⟨pb, hpb6⟩ := nb6.head
                  have ca : ∀ z : Ex w6, z.w.cell? ⟨a1, 0, none⟩ = some (.int .i64 a.cnt) := fun z => cellOf (z.heap hpa6) 0
                  have cb : ∀ z : Ex w6, z.w.cell? ⟨a2, 0, none⟩ = some (.int .i64 b.cnt) := fun z => cellOf (z.heap hpb6) 0
                  have hwrap : IntKind.i64.wrap (a.cnt + b.cnt) = a.cnt + b.cnt := IntWalk.i64_in _ (by omega)
                  have HN6 := Lib.hid (⟨na6, nb6⟩ : _ ∧ _)
                  clear na6 nb6 hpa6 hpb6 hNF HN
                  obtain ⟨xa, hxa⟩ : ∃ xa, a.cnt = xa := ⟨_, rfl⟩
                  obtain ⟨xb, hxb⟩ : ∃ xb, b.cnt = xb := ⟨_, rfl⟩
                  rw [hxa] at ca hwrap hpa hpt HV
                  rw [hxb] at cb hwrap hpb hpt HV
                  clear hxa hxb
                  go_wp2_with fail
                  refine wp_region_perm (C := fun w' => ∃ x : Ex w6, w' = x.w) [0, 1, 2, 3, 4, 5, 6, 7, 8, 9, 10, 11, 12] 17 (by kernel_rfl) (by kernel_rfl) ⟨Ex.mk _ ((Ext.refl [] w6).drew), rfl⟩ ?_
                  simp only [pick, List.getElem?_toArray, List.getElem?_cons_zero, List.getElem?_cons_succ, List.drop_succ_cons, List.drop_zero]
                  repeat (go_big_quiet_step (fail))
                  refine wpQuiet_nil ?_
                  clear ca cb hwrap
                  refine anyC_one (f := 3) (i := 13) (by kernel_rfl) (by decide) rfl rfl (fun Kc hK => ?_)
                  go_wp2_with fail
                  refine hK _ _ ⟨Ex.mk _ (((Ext.refl [] w6).drew).alloc _), rfl⟩ ?_
                  clear hK Kc
                  refine anyC_one (f := 2) (i := 14) (by kernel_rfl) (by decide) rfl rfl (fun Kc hK => ?_)
                  go_wp2_with fail
                  refine hK _ _ ⟨Ex.mk _ (((Ext.refl [] w6).drew).alloc _), rfl⟩ ?_
                  clear hK Kc
                  refine anyC_one (f := 1) (i := 15) (by kernel_rfl) (by decide) rfl rfl (fun Kc hK => ?_)
                  go_wp2_with fail
                  refine hK _ _ ⟨Ex.mk _ ((((Ext.refl [] w6).drew).alloc _).alloc _), rfl⟩ ?_
                  clear hK Kc
                  refine anyC_one (f := 0) (i := 16) (by kernel_rfl) (by decide) rfl rfl (fun Kc hK => ?_)
                  go_wp2_with fail
                  refine hK _ _ ⟨Ex.mk _ ((((Ext.refl [] w6).drew).alloc _).alloc _), rfl⟩ ?_
                  clear hK Kc
                  refine anyC_end (by kernel_rfl) ?_
                  go_wp2_with fail
                  obtain ⟨rb, hrb⟩ : ∃ rb, w6.heap.size = rb := ⟨_, rfl⟩
                  have hA := heap_alloc_at (w := w6.drew) (.cells #[ptr a1, ptr a2] 143)
                  have hB := heap_alloc_at (w := w6.drew.alloc (.cells #[ptr a1, ptr a2] 143)) (ndO (.join (xa + xb) g a b) (.slice (some ⟨rb, 0, none⟩) 2 2))
                  rw [show (w6.drew.alloc (.cells #[ptr a1, ptr a2] 143)).heap.size = rb + 1 from by rw [← hrb]; simp] at hB
                  rw [show w6.drew.heap.size = rb from hrb] at hA
                  rw [hrb]
                  obtain ⟨W7, hW7⟩ : ∃ W7, (w6.drew.alloc (.cells #[ptr a1, ptr a2] 143)).alloc (ndO (.join (xa + xb) g a b) (.slice (some ⟨rb, 0, none⟩) 2 2)) = W7 := ⟨_, rfl⟩
                  have hx7 : Ext [] w6 W7 := by rw [← hW7]; exact (((Ext.refl [] w6).drew).alloc _).alloc _
                  have hA7 : W7.heap[rb]? = some (.cells #[ptr a1, ptr a2] 143 (0, 0)) := by rw [← hW7]; exact heap_alloc_old _ hA
                  have hB7 : W7.heap[rb + 1]? = some (ndO (.join (xa + xb) g a b) (.slice (some ⟨rb, 0, none⟩) 2 2)) := by rw [← hW7]; exact hB
                  have hsz7 := lt_of_block hB7
                  have hlt6 := lt_of_block H6.out.2.2.var
                  have hO7 := (H6.out.2.2.quiet hx7).wide (M := [rb + 1, rb]) (fun q hq => by
                    simp at hq
                    have hown := fun k hk => (H6.out.2.2.row.own.lt k hk).2
                    rcases hq with rfl | rfl
                    · exact ⟨hsz7, by omega, fun e => by have := hown _ e; omega⟩
                    · exact ⟨by omega, by omega, fun e => by have := hown _ e; omega⟩)
                  have hn7 : NdAt W7 ([rb + 1, rb] ++ N) (rb + 1) (.join (xa + xb) g a b) :=
                    ⟨by simp, rb, a1, a2, by simp, hB7, hA7, (HN6.out.1.ext hx7 (by simp)).mono (fun k hk => List.mem_append_right _ hk), (HN6.out.2.ext hx7 (by simp)).mono (fun k hk => List.mem_append_right _ hk)⟩
                  have hcall := push_walk lb v6 ([rb + 1, rb] ++ N) K2 (rb + 1) (.join (xa + xb) g a b) W7 hO7 hn7 (by have := HKS.out.2.2; have := HKS.out.1; omega)
                  rw [← hW7] at hcall
                  have HCALL := Lib.hid hcall
                  have H7 := Lib.hid (⟨hx7, hsz7, hrb⟩ : _ ∧ _ ∧ _)
                  clear hcall hA hB hA7 hB7 hO7 hn7 hx7 hlt6 hsz7
                  refine HCALL.out.mono ?_
                  clear HCALL HN6
                  rintro e w8 ⟨v8, rfl, hv8, hx8, hO8⟩
                  rw [hW7] at hv8 hx8
                  clear hW7
                  have H8 := Lib.hid (⟨hv8, hx8, hO8⟩ : _ ∧ _ ∧ _)
                  clear hv8 hx8 hO8 hrb
                  go_wp2_with fail
                  refine NoPanic.normal ?_
                  go_wp2_with fail
                  go_roundg g'
                  case measure => omega
                  case rel =>
                    obtain ⟨hv6, hx6, hO6⟩ := H6.out
                    obtain ⟨hv8, hx8, hO8⟩ := H8.out
                    obtain ⟨hx7, hsz7, hrb⟩ := H7.out
                    rw [hv6] at hv8 hx8
                    have hxx : Ext (oHp lb (.slice ao3 K.length cap3) N K).F wr w8 := ((hx6.trans hx7.weak).trans hx8).mono (fun i _ hi => by
                      simp [oHp] at hi ⊢
                      rcases hi with h | h
                      · exact .inl h
                      · exact .inr (.inl h))
                    refine ⟨g + 1, v8, [rb + 1, rb] ++ N, pushL K2 (rb + 1, .join (xa + xb) g a b), _, by go_num, by rw [insS_len]; exact hLg, by omega, HV.out.2.2, HV.out.2.1 _, HV.out.1, ?_⟩
                    refine HS.out.upd 1 (oHp lb v8 _ _) rfl hxx (fun i hi => ?_) hO8
                    have hs6 := hx6.size
                    simp [oHp] at hi ⊢
                    rcases hi with h | h | h | h | h
                    · exact .inl (.inl h)
                    · rcases hv8 i h with h | h
                      · exact .inl (.inr (.inl h))
                      · exact .inr (by have := hx7.size; omega)
                    · exact .inr (by omega)
                    · exact .inr (by omega)
                    · exact .inl (.inr (.inr h))
              · go_wp2_with fail
                refine hK _ _ ⟨ExS.mk w6 H6.out.2.1, rfl⟩ ?_
                clear hK Kc
                refine anyC_one (f := 1) (i := 2) (by kernel_rfl) (by decide) rfl rfl (fun Kc hK => ?_)
                go_wp2_with fail
                refine hK _ _ ⟨ExS.mk w6 H6.out.2.1, rfl⟩ ?_
                clear hK Kc
                refine anyC_one (f := 0) (i := 6) (by kernel_rfl) (by decide) rfl rfl (fun Kc hK => ?_)
                go_wp2_with fail
                refine hK _ _ ⟨ExS.mk w6 H6.out.2.1, rfl⟩ ?_
                clear hK Kc
                refine anyC_end (by kernel_rfl) ?_
                go_wp2_with fail
                refine NoPanic.normal ?_
                clear hta1 hta2
                have hNF : ∀ k ∈ N, k ∉ lb :: (Value.slice ao3 K.length cap3).ownBlock.toList := fun k hk h => by
                  rcases List.mem_cons.1 h with rfl | h
                  · exact HO.out.nN hk
                  · exact HO.out.row.far k (by simpa using h) hk
                have na6 := HN.out.1.ext H6.out.2.1 hNF
                have nb6 := HN.out.2.ext H6.out.2.1 hNF
                obtain ⟨pa, hpa6⟩ := na6.head
                obtain ⟨pb, hpb6⟩ := nb6.head
                have ca : ∀ z : Ex w6, z.w.cell? ⟨a1, 0, none⟩ = some (.int .i64 a.cnt) := fun z => cellOf (z.heap hpa6) 0
                have cb : ∀ z : Ex w6, z.w.cell? ⟨a2, 0, none⟩ = some (.int .i64 b.cnt) := fun z => cellOf (z.heap hpb6) 0
                have hwrap : IntKind.i64.wrap (a.cnt + b.cnt) = a.cnt + b.cnt := IntWalk.i64_in _ (by omega)
                have HN6 := Lib.hid (⟨na6, nb6⟩ : _ ∧ _)
                clear na6 nb6 hpa6 hpb6 hNF HN
                obtain ⟨xa, hxa⟩ : ∃ xa, a.cnt = xa := ⟨_, rfl⟩
                obtain ⟨xb, hxb⟩ : ∃ xb, b.cnt = xb := ⟨_, rfl⟩
                rw [hxa] at ca hwrap hpa hpt HV
                rw [hxb] at cb hwrap hpb hpt HV
                clear hxa hxb
                go_wp2_with fail
                refine wp_region_perm (C := fun w' => ∃ x : Ex w6, w' = x.w) [0, 1, 2, 3, 4, 5, 6, 7, 8, 9, 10, 11, 12] 17 (by kernel_rfl) (by kernel_rfl) ⟨Ex.mk _ ((Ext.refl [] w6).drew), rfl⟩ ?_
                simp only [pick, List.getElem?_toArray, List.getElem?_cons_zero, List.getElem?_cons_succ, List.drop_succ_cons, List.drop_zero]
                repeat (go_big_quiet_step (fail))
                refine wpQuiet_nil ?_
                clear ca cb hwrap
                refine anyC_one (f := 3) (i := 13) (by kernel_rfl) (by decide) rfl rfl (fun Kc hK => ?_)
                go_wp2_with fail
                refine hK _ _ ⟨Ex.mk _ (((Ext.refl [] w6).drew).alloc _), rfl⟩ ?_
                clear hK Kc
                refine anyC_one (f := 2) (i := 14) (by kernel_rfl) (by decide) rfl rfl (fun Kc hK => ?_)
                go_wp2_with fail
                refine hK _ _ ⟨Ex.mk _ (((Ext.refl [] w6).drew).alloc _), rfl⟩ ?_
                clear hK Kc
                refine anyC_one (f := 1) (i := 15) (by kernel_rfl) (by decide) rfl rfl (fun Kc hK => ?_)
                go_wp2_with fail
                refine hK _ _ ⟨Ex.mk _ ((((Ext.refl [] w6).drew).alloc _).alloc _), rfl⟩ ?_
                clear hK Kc
                refine anyC_one (f := 0) (i := 16) (by kernel_rfl) (by decide) rfl rfl (fun Kc hK => ?_)
                go_wp2_with fail
                refine hK _ _ ⟨Ex.mk _ ((((Ext.refl [] w6).drew).alloc _).alloc _), rfl⟩ ?_
                clear hK Kc
                refine anyC_end (by kernel_rfl) ?_
                go_wp2_with fail
                obtain ⟨rb, hrb⟩ : ∃ rb, w6.heap.size = rb := ⟨_, rfl⟩
                have hA := heap_alloc_at (w := w6.drew) (.cells #[ptr a1, ptr a2] 143)
                have hB := heap_alloc_at (w := w6.drew.alloc (.cells #[ptr a1, ptr a2] 143)) (ndO (.join (xa + xb) g a b) (.slice (some ⟨rb, 0, none⟩) 2 2))
                rw [show (w6.drew.alloc (.cells #[ptr a1, ptr a2] 143)).heap.size = rb + 1 from by rw [← hrb]; simp] at hB
                rw [show w6.drew.heap.size = rb from hrb] at hA
                rw [hrb]
                obtain ⟨W7, hW7⟩ : ∃ W7, (w6.drew.alloc (.cells #[ptr a1, ptr a2] 143)).alloc (ndO (.join (xa + xb) g a b) (.slice (some ⟨rb, 0, none⟩) 2 2)) = W7 := ⟨_, rfl⟩
                have hx7 : Ext [] w6 W7 := by rw [← hW7]; exact (((Ext.refl [] w6).drew).alloc _).alloc _
                have hA7 : W7.heap[rb]? = some (.cells #[ptr a1, ptr a2] 143 (0, 0)) := by rw [← hW7]; exact heap_alloc_old _ hA
                have hB7 : W7.heap[rb + 1]? = some (ndO (.join (xa + xb) g a b) (.slice (some ⟨rb, 0, none⟩) 2 2)) := by rw [← hW7]; exact hB
                have hsz7 := lt_of_block hB7
                have hlt6 := lt_of_block H6.out.2.2.var
                have hO7 := (H6.out.2.2.quiet hx7).wide (M := [rb + 1, rb]) (fun q hq => by
                  simp at hq
                  have hown := fun k hk => (H6.out.2.2.row.own.lt k hk).2
                  rcases hq with rfl | rfl
                  · exact ⟨hsz7, by omega, fun e => by have := hown _ e; omega⟩
                  · exact ⟨by omega, by omega, fun e => by have := hown _ e; omega⟩)
                have hn7 : NdAt W7 ([rb + 1, rb] ++ N) (rb + 1) (.join (xa + xb) g a b) :=
                  ⟨by simp, rb, a1, a2, by simp, hB7, hA7, (HN6.out.1.ext hx7 (by simp)).mono (fun k hk => List.mem_append_right _ hk), (HN6.out.2.ext hx7 (by simp)).mono (fun k hk => List.mem_append_right _ hk)⟩
                have hcall := push_walk lb v6 ([rb + 1, rb] ++ N) K2 (rb + 1) (.join (xa + xb) g a b) W7 hO7 hn7 (by have := HKS.out.2.2; have := HKS.out.1; omega)
                rw [← hW7] at hcall
                have HCALL := Lib.hid hcall
                have H7 := Lib.hid (⟨hx7, hsz7, hrb⟩ : _ ∧ _ ∧ _)
                clear hcall hA hB hA7 hB7 hO7 hn7 hx7 hlt6 hsz7
                refine HCALL.out.mono ?_
                clear HCALL HN6
                rintro e w8 ⟨v8, rfl, hv8, hx8, hO8⟩
                rw [hW7] at hv8 hx8
                clear hW7
                have H8 := Lib.hid (⟨hv8, hx8, hO8⟩ : _ ∧ _ ∧ _)
                clear hv8 hx8 hO8 hrb
                go_wp2_with fail
                refine NoPanic.normal ?_
                go_wp2_with fail
                go_roundg g'
                case measure => omega
                case rel =>
                  obtain ⟨hv6, hx6, hO6⟩ := H6.out
                  obtain ⟨hv8, hx8, hO8⟩ := H8.out
                  obtain ⟨hx7, hsz7, hrb⟩ := H7.out
                  rw [hv6] at hv8 hx8
                  have hxx : Ext (oHp lb (.slice ao3 K.length cap3) N K).F wr w8 := ((hx6.trans hx7.weak).trans hx8).mono (fun i _ hi => by
                    simp [oHp] at hi ⊢
                    rcases hi with h | h
                    · exact .inl h
                    · exact .inr (.inl h))
                  refine ⟨g + 1, v8, [rb + 1, rb] ++ N, pushL K2 (rb + 1, .join (xa + xb) g a b), _, by go_num, by rw [insS_len]; exact hLg, by omega, HV.out.2.2, HV.out.2.1 _, HV.out.1, ?_⟩
                  refine HS.out.upd 1 (oHp lb v8 _ _) rfl hxx (fun i hi => ?_) hO8
                  have hs6 := hx6.size
                  simp [oHp] at hi ⊢
                  rcases hi with h | h | h | h | h
                  · exact .inl (.inl h)
                  · rcases hv8 i h with h | h
                    · exact .inl (.inr (.inl h))
                    · exact .inr (by have := hx7.size; omega)
                  · exact .inr (by omega)
                  · exact .inr (by omega)
                  · exact .inl (.inr (.inr h))
end Go.Proofs.YtnapnaaejignaaaGreat.Hu

/-! HuG: huff: counts and State walked. -/
namespace Go.Proofs.YtnapnaaejignaaaGreat.Hu
open Go.RowKit

/-! ### an array of sixteen numbers -/
def arrC (c : Nat → Nat) : Array Value := ((List.range 16).map fun j => iz (c j)).toArray
theorem arrC_at (c : Nat → Nat) (j : Nat) (h : j < 16) : (arrC c)[j]? = some (iz (c j)) := by
  unfold arrC
  simp [List.getElem?_range h]
def up1 (c : Nat → Nat) (x v : Nat) : Nat → Nat := fun j => if j = x then v else c j
theorem arrC_set (c : Nat → Nat) (x v : Nat) : (arrC c).setIfInBounds x (iz v) = arrC (up1 c x v) := by
  unfold arrC
  apply Array.ext'
  simp only [Array.toList_setIfInBounds]
  apply List.ext_getElem?
  intro j
  rw [List.getElem?_set]
  by_cases hj : j < 16
  · by_cases hx : x = j
    · subst hx
      rw [if_pos rfl, if_pos (by simpa using hj), List.getElem?_map, List.getElem?_range hj]
      simp [up1]
    · rw [if_neg hx, List.getElem?_map, List.getElem?_map, List.getElem?_range hj]
      simp [up1, show ¬ j = x from fun h => hx h.symm]
  · have h1 : ((List.range 16).map fun k => iz (c k))[j]? = none := by rw [List.getElem?_eq_none]; simp; omega
    have h2 : ((List.range 16).map fun k => iz (up1 c x v k))[j]? = none := by rw [List.getElem?_eq_none]; simp; omega
    show (if x = j then _ else ((List.range 16).map fun k => iz (c k))[j]?) = ((List.range 16).map fun k => iz (up1 c x v k))[j]?
    rw [h1, h2]
    split
    · rw [if_neg (by simp; omega)]
    · rfl
theorem arrC_congr {c d : Nat → Nat} (h : ∀ j, j < 16 → c j = d j) : arrC c = arrC d := by
  unfold arrC
  congr 1
  refine List.map_congr_left (fun j hj => ?_)
  rw [h j (List.mem_range.1 hj)]
/-- how often a number stands in a list -/
def cntI (l : List Int) (j : Nat) : Nat := l.countP fun x => decide (x = (j : Int))
def cntF (l : List Int) : Nat → Nat := fun j => if j = 0 then 0 else cntI l j
def badL (l : List Int) : Bool := decide (288 < l.length) || l.any fun x => decide (x < 0 ∨ 15 < x)
theorem cntI_snoc (l : List Int) (x : Int) (j : Nat) : cntI (l ++ [x]) j = cntI l j + if x = (j : Int) then 1 else 0 := by
  unfold cntI
  rw [List.countP_append, List.countP_singleton]
  by_cases h : x = (j : Int) <;> simp [h]
theorem cntI_le (l : List Int) (j : Nat) : cntI l j ≤ l.length := List.countP_le_length
theorem info16 : (Tryz.prog.info? 116).map (·.size) = some 16 := by kernel_rfl
theorem arrC_size (c : Nat → Nat) : (arrC c).size = 16 := by simp [arrC]
theorem info16c (c : Nat → Nat) : (Tryz.prog.info? 116).map (·.size) = some (arrC c).size := by rw [arrC_size]; exact info16
theorem arrC_one (c : Nat → Nat) : (arrC c).all (·.oneCell') = true := by
  rw [Array.all_eq_true_iff_forall_mem]
  intro x hx
  unfold arrC at hx
  simp at hx
  obtain ⟨j, _, rfl⟩ := hx
  rfl
theorem results_arr {fn : Func} {p q : Tmp} (h : fn.results = #[.cell p 116, .tmp q]) (tmps : Array Value) (w : World) (g : Nat) (c : Nat → Nat) (v : Value) (hp : tmps.getD p undef = .pointer (some ⟨g, 0, none⟩)) (hq : tmps.getD q undef = v) (hg : w.heap[g]? = some (.cells (arrC c) 116 (0, 0))) :
    (results fn tmps).run Tryz.prog w = .ok (.tuple #[.agg (arrC c), v]) w := by
  have hp' : tmps[p]?.getD undef = .pointer (some ⟨g, 0, none⟩) := by simpa using hp
  have hq' : tmps[q]?.getD undef = v := by simpa using hq
  simp [results, h, hp', hq', asAddr, run_loadVar_row w g 116 116 (arrC c) (0, 0) _ hg Tryz.underlying116 rfl (info16c c)]
theorem setRow_heap9 {w : World} {g : Nat} {cs ds : Array Value} {t : TypeId} (h : w.heap[g]? = some (.cells cs t (0, 0))) : (w.setRow g ds).heap[g]? = some (.cells ds t (0, 0)) := setRow_heap w g cs ds t _ h
theorem ext_setRow {S : List Nat} {a w : World} (h : Ext S a w) (g : Nat) (cs : Array Value) (hp : g ∈ S ∨ a.heap.size ≤ g) : Ext S a (w.setRow g cs) :=
  h.trans' (T := [g]) ⟨rfl, rfl, rfl, by simp [World.setRow], fun k _ hk => setRow_other w g k _ (by simpa using hk)⟩ (fun i hi hS => by simp at hS; subst hS; rcases hp with hp | hp; exact hp; omega)
theorem ints_take (l : List Int) (k : Nat) (x : Int) (h : l[k]? = some x) : l.take (k + 1) = l.take k ++ [x] := by
  rw [List.take_add_one, h]; rfl
def RetArr (w : World) (e : Ending) (w' : World) : Prop := ∃ c, e = .returned (.tuple #[.agg (arrC c), .bool false]) ∧ Ext [] w w'
theorem bad_false {l : List Int} (hb : badL l = false) : l.length ≤ 288 ∧ ∀ x ∈ l, 0 ≤ x ∧ x ≤ 15 := by
  unfold badL at hb
  rw [Bool.or_eq_false_iff, List.any_eq_false] at hb
  refine ⟨by have := of_decide_eq_false hb.1; omega, fun x hx => ?_⟩
  have h := hb.2 x hx
  simp at h
  omega
set_option maxRecDepth 100000 in
set_option maxHeartbeats 8000000 in
theorem counts_good (v : Value) (l : List Int) (w : World) (hv : IntsAt w v l) (hb : badL l = false) :
    Calls Tryz.prog 64 #[v] w fun e w' => e = .returned (.tuple #[.agg (arrC (cntF l)), .bool true]) ∧ Ext [] w w' := by
  obtain ⟨hl, hx⟩ := bad_false hb
  obtain ⟨ao, cap, rfl, hc⟩ := hv
  have HC := Lib.hid hc
  have HXX := Lib.hid hx
  have hl' : ¬ 288 < l.length := by omega
  obtain ⟨R, hR⟩ : ∃ R, arrC (cntF l) = R := ⟨_, rfl⟩
  rw [hR]
  have HR := Lib.hid hR
  clear hc hx hb hR
  go_enter Tryz.func64, Tryz.ntmps64
  go_wp2_with fail
  obtain ⟨nb, hnb⟩ : ∃ nb, w.heap.size = nb := ⟨_, rfl⟩
  have HNB := Lib.hid hnb
  rw [hnb]
  clear hnb
  go_loopg [12] l.length (fun g iv wr => ∃ (k : Nat) (c : Nat → Nat), g + k = l.length ∧ iv = .int .i64 k ∧ Ext [] w wr ∧ wr.heap[nb]? = some (.cells (arrC c) 116 (0, 0)) ∧ ∀ j, j < 16 → c j = cntI (l.take k) j)
  case atStart => exact ⟨0, fun _ => 0, by omega, rfl, (Ext.refl _ _).alloc _, by rw [← HNB.out]; exact heap_alloc_at _, fun j _ => by simp [cntI]⟩
  case round =>
    obtain ⟨k, c, hk, rfl, hx, hbk, hcc⟩ := hrel
    by_cases hlt : k < l.length
    · obtain ⟨b, off, rfl, hcell⟩ := HC.out (by omega)
      obtain ⟨x, hck⟩ : ∃ x, l[k]? = some x := ⟨_, List.getElem?_eq_getElem hlt⟩
      have d0 := Ext.cell hx (hcell k x hck)
      have hxr := HXX.out x (List.mem_of_getElem? hck)
      obtain ⟨m, rfl⟩ : ∃ m : Nat, x = m := ⟨x.toNat, by omega⟩
      have hm : m < 16 := by omega
      have hm' : (m : Int) < 16 := by omega
      have hm15 : ¬ (15 : Int) < (m : Int) := by omega
      have n0 : wr.cell? ⟨nb, m, none⟩ = some (iz (c m)) := (cellOf hbk m).trans (arrC_at c m hm)
      have n1 := freeOf hbk m
      have hcm : c m ≤ 288 := by rw [hcc m hm]; have := cntI_le (l.take k) m; have := List.length_take_le k l; omega
      have hst := heap_setCell_same hbk (i := m) (iz ((c m + 1 : Nat) : Int))
      rw [arrC_set] at hst
      have hx2 : Ext [] w (wr.setCell ⟨nb, m, none⟩ (iz ((c m + 1 : Nat) : Int))) := hx.setCell _ _ (.inr (by show w.heap.size ≤ nb; rw [HNB.out]; exact Nat.le_refl _))
      have hnew : ∀ j, j < 16 → up1 c m (c m + 1) j = cntI (l.take (k + 1)) j := fun j hj => by
        rw [ints_take l k m hck, cntI_snoc, ← hcc j hj]
        unfold up1
        by_cases h : j = m
        · subst h; rw [if_pos rfl, if_pos rfl]
        · rw [if_neg h, if_neg (by omega)]; rfl
      rw [show ((c m + 1 : Nat) : Int) = (c m : Int) + 1 from by omega] at hst hx2
      have HF := Lib.hid (⟨hx2, hst, hnew⟩ : _ ∧ _ ∧ _)
      generalize c m = cm at n0 hcm HF
      clear hst hx2 hnew hcc hcell hck hx hbk hxr
      go_wp2_with fail
      go_roundg (l.length - (k + 1))
      case measure => omega
      case rel => exact ⟨k + 1, up1 c m (cm + 1), by omega, by go_num, HF.out.1, HF.out.2.1, HF.out.2.2⟩
    · obtain rfl : k = l.length := by omega
      have n1 := freeOf hbk 0
      have n0 : wr.cell? ⟨nb, 0, none⟩ = some (iz (c 0)) := (cellOf hbk 0).trans (arrC_at c 0 (by omega))
      have hst := heap_setCell_same hbk (i := 0) (iz ((0 : Nat) : Int))
      rw [arrC_set] at hst
      have hx2 : Ext [] w (wr.setCell ⟨nb, 0, none⟩ (iz ((0 : Nat) : Int))) := hx.setCell _ _ (.inr (by show w.heap.size ≤ nb; rw [HNB.out]; exact Nat.le_refl _))
      have hRc : arrC (up1 c 0 0) = R := by
        rw [← HR.out]
        refine arrC_congr (fun j hj => ?_)
        unfold up1 cntF
        by_cases h : j = 0
        · rw [if_pos h, if_pos h]
        · rw [if_neg h, if_neg h, hcc j hj, List.take_length]
      obtain ⟨W, hW⟩ : ∃ W, wr.setCell ⟨nb, 0, none⟩ (iz 0) = W := ⟨_, rfl⟩
      change (wr.setCell ⟨nb, 0, none⟩ (iz 0)).heap[nb]? = _ at hst
      change Ext [] w (wr.setCell ⟨nb, 0, none⟩ (iz 0)) at hx2
      have HF := Lib.hid (⟨hst, hx2, hRc⟩ : _ ∧ _ ∧ _)
      clear hst hx2 hRc hcc hx hbk
      go_upto_region 11 with (fail)
      have HF := Lib.hid (⟨by have := HF.out.1; rw [hW] at this; exact this, by have := HF.out.2.1; rw [hW] at this; exact this, HF.out.2.2⟩ : W.heap[nb]? = some (.cells (arrC (up1 c 0 0)) 116 (0, 0)) ∧ Ext [] w W ∧ arrC (up1 c 0 0) = R)
      clear hW n0 n1
      generalize up1 c 0 0 = d at *
      have hg := HF.out.1
      go_wp2_with (first | (refine wpList_load_row rfl 116 _ rfl nb rfl 116 _ (0, 0) _ hg Tryz.underlying116 rfl (info16c d) ?_) | (refine wpList_store_row rfl 116 _ _ rfl nb _ rfl rfl 116 _ hg (info16c d) rfl (arrC_one d) ?_))
      have hx3 := ext_setRow HF.out.2.1 nb (arrC d) (.inr (by rw [HNB.out]; exact Nat.le_refl _))
      exact bodyPost_ret (results_arr rfl _ _ nb d (.bool true) rfl rfl (setRow_heap9 hg)) rfl ⟨by rw [HF.out.2.2], hx3⟩
set_option maxRecDepth 100000 in
set_option maxHeartbeats 8000000 in
theorem counts_bad (v : Value) (l : List Int) (w : World) (hv : IntsAt w v l) (hl : l.length ≤ 1048576) (hb : badL l = true) :
    Calls Tryz.prog 64 #[v] w (RetArr w) := by
  obtain ⟨ao, cap, rfl, hc⟩ := hv
  have HC := Lib.hid hc
  clear hc
  obtain ⟨nb, hnb⟩ : ∃ nb, w.heap.size = nb := ⟨_, rfl⟩
  have HNB := Lib.hid hnb
  by_cases h2 : 288 < l.length
  · have hl' : (288 : Int) < (l.length : Int) := by omega
    go_enter Tryz.func64, Tryz.ntmps64
    go_wp2_with fail
    exact bodyPost_ret (results_arr rfl _ _ nb (fun _ => 0) (.bool false) rfl rfl (by rw [← HNB.out]; exact heap_alloc_at _)) rfl ⟨_, rfl, (Ext.refl _ w).alloc _⟩
  · have hl' : ¬ (288 : Int) < (l.length : Int) := by omega
    have ha : (l.any fun x => decide (x < 0 ∨ 15 < x)) = true := by
      unfold badL at hb
      rw [decide_eq_false h2] at hb
      simpa using hb
    have HA := Lib.hid ha
    clear ha hb
    go_enter Tryz.func64, Tryz.ntmps64
    go_wp2_with fail
    clear hnb
    go_loopg [12] l.length (fun g iv wr => ∃ (k : Nat) (c : Nat → Nat), g + k = l.length ∧ iv = .int .i64 k ∧ Ext [] w wr ∧ wr.heap[nb]? = some (.cells (arrC c) 116 (0, 0)) ∧ (∀ j, j < 16 → c j ≤ k) ∧ ((l.drop k).any fun x => decide (x < 0 ∨ 15 < x)) = true)
    case atStart => exact ⟨0, fun _ => 0, by omega, rfl, (Ext.refl _ _).alloc _, by rw [← HNB.out]; exact heap_alloc_at _, fun j _ => Nat.zero_le _, HA.out⟩
    case round =>
      clear HA
      obtain ⟨k, c, hk, rfl, hx, hbk, hcc, ha⟩ := hrel
      by_cases hlt : k < l.length
      · obtain ⟨b, off, rfl, hcell⟩ := HC.out (by omega)
        obtain ⟨x, hck⟩ : ∃ x, l[k]? = some x := ⟨_, List.getElem?_eq_getElem hlt⟩
        have d0 := Ext.cell hx (hcell k x hck)
        have hdr : l.drop k = x :: l.drop (k + 1) := by
          obtain ⟨h1, h2⟩ := List.getElem?_eq_some_iff.1 hck
          rw [List.drop_eq_getElem_cons h1, h2]
        rw [hdr, List.any_cons] at ha
        clear hcell hck hdr
        by_cases hx0 : x < 0 ∨ 15 < x
        · have HX := Lib.hid (⟨hbk, hx⟩ : _ ∧ _)
          clear ha hx hcc hbk
          rcases hx0 with h | h
          · have hg := HX.out.1
            go_wp2_with (first | (refine wpList_load_row rfl 116 _ rfl nb rfl 116 _ (0, 0) _ hg Tryz.underlying116 rfl (info16c c) ?_) | (refine wpList_store_row rfl 116 _ _ rfl nb _ rfl rfl 116 _ hg (info16c c) rfl (arrC_one c) ?_))
            exact bodyPost_ret (results_arr rfl _ _ nb c (.bool false) rfl rfl (setRow_heap9 hg)) rfl ⟨c, rfl, ext_setRow HX.out.2 nb (arrC c) (.inr (by rw [HNB.out]; exact Nat.le_refl _))⟩
          · have h' : ¬ x < 0 := by omega
            have hg := HX.out.1
            go_wp2_with (first | (refine wpList_load_row rfl 116 _ rfl nb rfl 116 _ (0, 0) _ hg Tryz.underlying116 rfl (info16c c) ?_) | (refine wpList_store_row rfl 116 _ _ rfl nb _ rfl rfl 116 _ hg (info16c c) rfl (arrC_one c) ?_))
            exact bodyPost_ret (results_arr rfl _ _ nb c (.bool false) rfl rfl (setRow_heap9 hg)) rfl ⟨c, rfl, ext_setRow HX.out.2 nb (arrC c) (.inr (by rw [HNB.out]; exact Nat.le_refl _))⟩
        · rw [decide_eq_false hx0, Bool.false_or] at ha
          obtain ⟨m, rfl⟩ : ∃ m : Nat, x = m := ⟨x.toNat, by omega⟩
          have hm : m < 16 := by omega
          have hm' : (m : Int) < 16 := by omega
          have hm15 : ¬ (15 : Int) < (m : Int) := by omega
          have n0 : wr.cell? ⟨nb, m, none⟩ = some (iz (c m)) := (cellOf hbk m).trans (arrC_at c m hm)
          have n1 := freeOf hbk m
          have hcm : c m ≤ 288 := by have := hcc m hm; omega
          have hst := heap_setCell_same hbk (i := m) (iz ((c m + 1 : Nat) : Int))
          rw [arrC_set] at hst
          have hx2 : Ext [] w (wr.setCell ⟨nb, m, none⟩ (iz ((c m + 1 : Nat) : Int))) := hx.setCell _ _ (.inr (by show w.heap.size ≤ nb; rw [HNB.out]; exact Nat.le_refl _))
          have hnew : ∀ j, j < 16 → up1 c m (c m + 1) j ≤ k + 1 := fun j hj => by
            have := hcc j hj
            unfold up1
            split
            · rename_i h; subst h; omega
            · omega
          rw [show ((c m + 1 : Nat) : Int) = (c m : Int) + 1 from by omega] at hst hx2
          have HF := Lib.hid (⟨hx2, hst, hnew, ha⟩ : _ ∧ _ ∧ _ ∧ _)
          generalize c m = cm at n0 hcm HF
          clear hst hx2 hnew hcc hx hbk hx0 ha
          go_wp2_with fail
          go_roundg (l.length - (k + 1))
          case measure => omega
          case rel => exact ⟨k + 1, up1 c m (cm + 1), by omega, by go_num, HF.out.1, HF.out.2.1, HF.out.2.2.1, HF.out.2.2.2⟩
      · obtain rfl : k = l.length := by omega
        rw [List.drop_length] at ha
        cases ha
end Go.Proofs.YtnapnaaejignaaaGreat.Hu

/-! HuH: huff.State walked. -/
namespace Go.Proofs.YtnapnaaejignaaaGreat.Hu
open Go.RowKit

theorem run_index_arr (c : Nat → Nat) (k : Nat) (hk : k < 16) (w : World) : (Instr.index 116 (.agg (arrC c)) (.int .i64 (k : Int))).run Tryz.prog w = .ok (iz (c k)) w := by
  have h1 : (0 : Int) ≤ (k : Int) ∧ (k : Int) < 16 := by omega
  have h2 := arrC_at c k hk
  have hz := Tryz.sizeOf3
  have ha := Tryz.isAgg3
  simp [Instr.index, run_underlying Tryz.underlying116, asIntOf, h1, part, hz, ha, h2, go_sem]
  intro h; omega
/-- how full lengths are: by numbers of two to the fifteenth -/
def kraF (c : Nat → Nat) : Nat → Nat
  | 0 => 0
  | k + 1 => kraF c k + c k * 2 ^ (15 - k)
def kra (l : List Int) : Nat := kraF (cntF l) 16
def stateN (l : List Int) : Int × Int := if badL l then (0, 2) else (cmpZ (kra l) 32768, 0)
theorem kraF_le (c : Nat → Nat) (m : Nat) (h : ∀ j, c j ≤ m) : ∀ k, kraF c k ≤ k * (m * 32768)
  | 0 => Nat.zero_le _
  | k + 1 => by
    rw [kraF, Nat.add_mul, Nat.one_mul]
    have h1 := kraF_le c m h k
    have h2 : 2 ^ (15 - k) ≤ 2 ^ 15 := Nat.pow_le_pow_right (by omega) (by omega)
    have h3 := Nat.mul_le_mul (h k) h2
    omega
theorem cntF_le (l : List Int) (j : Nat) : cntF l j ≤ l.length := by
  unfold cntF
  split
  · exact Nat.zero_le _
  · exact cntI_le l j
theorem zeros16_at (w : World) : (w.alloc (.cells #[.int .i64 0, .int .i64 0, .int .i64 0, .int .i64 0, .int .i64 0, .int .i64 0, .int .i64 0, .int .i64 0, .int .i64 0, .int .i64 0, .int .i64 0, .int .i64 0, .int .i64 0, .int .i64 0, .int .i64 0, .int .i64 0] 116)).heap[w.heap.size]? = some (.cells #[.int .i64 0, .int .i64 0, .int .i64 0, .int .i64 0, .int .i64 0, .int .i64 0, .int .i64 0, .int .i64 0, .int .i64 0, .int .i64 0, .int .i64 0, .int .i64 0, .int .i64 0, .int .i64 0, .int .i64 0, .int .i64 0] 116 (0, 0)) := heap_alloc_at _
set_option maxRecDepth 100000 in
set_option maxHeartbeats 8000000 in
theorem state_walk (v : Value) (l : List Int) (w : World) (hv : IntsAt w v l) (hl : l.length ≤ 1048576) :
    Calls Tryz.prog 88 #[v] w fun e w' => e = .returned (.tuple #[.int .i64 (stateN l).1, .int .i64 (stateN l).2]) ∧ Ext [] w w' := by
  cases hb : badL l
  · have e : stateN l = (cmpZ (kra l) 32768, 0) := by unfold stateN; rw [hb]; rfl
    rw [e]
    simp only
    have hl2 := (bad_false hb).1
    obtain ⟨R, hR⟩ : ∃ R, cmpZ (kra l) 32768 = R := ⟨_, rfl⟩
    rw [hR]
    unfold kra at hR
    have hcl := cntF_le l
    have hcc := counts_good v l w hv hb
    generalize cntF l = c at *
    have hle := kraF_le c 288 (fun j => by have := hcl j; omega)
    have HCC := Lib.hid hcc
    have HR := Lib.hid (show ∀ u : Nat, u = 16 → cmpZ (kraF c u) 32768 = R from fun u hu => by rw [hu]; exact hR)
    have HLE := Lib.hid (⟨hcl, hle⟩ : _ ∧ _)
    clear hcc hR hb e hcl hle
    go_enter Tryz.func88, Tryz.ntmps88
    go_wp2_with fail
    refine HCC.out.mono ?_
    clear HCC
    rintro e w1 ⟨rfl, hx1⟩
    have HX := Lib.hid hx1
    have hg := Lib.hid (zeros16_at w1)
    clear hx1
    go_wp2_with (first | (refine wpList_store_row rfl 116 _ _ rfl w1.heap.size (arrC c) rfl rfl 116 _ hg.out (info16c c) (by rw [arrC_size]; rfl) (arrC_one c) ?_) | (refine wpList_load_row rfl 116 _ rfl w1.heap.size rfl 116 (arrC c) (0, 0) _ (setRow_heap9 hg.out) Tryz.underlying116 rfl (info16c c) ?_))
    have hx2 := ext_setRow ((HX.out).alloc (.cells #[.int .i64 0, .int .i64 0, .int .i64 0, .int .i64 0, .int .i64 0, .int .i64 0, .int .i64 0, .int .i64 0, .int .i64 0, .int .i64 0, .int .i64 0, .int .i64 0, .int .i64 0, .int .i64 0, .int .i64 0, .int .i64 0] 116)) w1.heap.size (arrC c) (.inr HX.out.size)
    have HX2 := Lib.hid hx2
    obtain ⟨W, hW⟩ : ∃ W, (w1.alloc (.cells #[.int .i64 0, .int .i64 0, .int .i64 0, .int .i64 0, .int .i64 0, .int .i64 0, .int .i64 0, .int .i64 0, .int .i64 0, .int .i64 0, .int .i64 0, .int .i64 0, .int .i64 0, .int .i64 0, .int .i64 0, .int .i64 0] 116)).setRow w1.heap.size (arrC c) = W := ⟨_, rfl⟩
    rw [hW] at HX2
    rw [hW]
    clear hx2 hW
    go_loopg [6, 17] 16 (fun g sv iv wr => ∃ k : Nat, g + k = 16 ∧ iv = .int .i64 k ∧ sv = .int .i64 (kraF c k : Nat) ∧ W = wr)
    case atStart => exact ⟨0, by omega, rfl, rfl, rfl⟩
    case round =>
      obtain ⟨k, hk, rfl, rfl, rfl⟩ := hrel
      by_cases hlt : k < 16
      · have hix := run_index_arr c k hlt
        have hc9 : c k ≤ 288 := by have := HLE.out.1 k; omega
        have hp : 2 ^ (15 - k) ≤ 2 ^ 15 := Nat.pow_le_pow_right (by omega) (by omega)
        have hmul := Nat.mul_le_mul hc9 hp
        have hle : kraF c k ≤ 16 * (288 * 32768) := by
          have h := kraF_le c 288 (fun j => by have := HLE.out.1 j; omega) k
          exact Nat.le_trans h (Nat.mul_le_mul_right _ (by omega))
        have hst : kraF c (k + 1) = kraF c k + c k * 2 ^ (15 - k) := rfl
        obtain ⟨q, hq⟩ : ∃ q, 15 - k = q := ⟨_, rfl⟩
        rw [hq] at hst hmul hp
        have e1 : 15 - (k : Int) = (q : Int) := by omega
        have e2 : (c k : Int) * 2 ^ q = ((c k * 2 ^ q : Nat) : Int) := by push_cast; rfl
        have hq15 : q ≤ 15 := by omega
        obtain ⟨t, ht⟩ : ∃ t, c k * 2 ^ q = t := ⟨_, rfl⟩
        rw [ht] at hmul hst e2
        have ht9 : t ≤ 9437184 := by omega
        have HST := Lib.hid hst
        generalize kraF c k = s at *
        generalize c k = ck at *
        clear hst hp hmul ht hq
        go_wp2_with fail
        go_roundg (16 - (k + 1))
        case measure => omega
        case rel => exact ⟨k + 1, by omega, by go_num, by rw [HST.out]; push_cast; rfl, rfl⟩
      · obtain rfl : k = 16 := by omega
        go_wp2_with fail
        refine (cmp_walk _ _ _).mono ?_
        rintro e w5 ⟨rfl, rfl⟩
        go_wp2_with fail
        exact bodyPost_ret (results_tmp2 rfl _ _ _) rfl ⟨by rw [HR.out 16 rfl]; rfl, HX2.out⟩
  · have e : stateN l = (0, 2) := by unfold stateN; rw [hb]; rfl
    rw [e]
    simp only
    have HCC := Lib.hid (counts_bad v l w hv hl hb)
    clear hb e
    go_enter Tryz.func88, Tryz.ntmps88
    go_wp2_with fail
    refine HCC.out.mono ?_
    clear HCC
    rintro e w1 ⟨c, rfl, hx1⟩
    have HX := Lib.hid hx1
    have hg := Lib.hid (zeros16_at w1)
    clear hx1
    go_wp2_with (first | (refine wpList_store_row rfl 116 _ _ rfl w1.heap.size (arrC c) rfl rfl 116 _ hg.out (info16c c) (by rw [arrC_size]; rfl) (arrC_one c) ?_))
    have hx2 := ext_setRow ((HX.out).alloc (.cells #[.int .i64 0, .int .i64 0, .int .i64 0, .int .i64 0, .int .i64 0, .int .i64 0, .int .i64 0, .int .i64 0, .int .i64 0, .int .i64 0, .int .i64 0, .int .i64 0, .int .i64 0, .int .i64 0, .int .i64 0, .int .i64 0] 116)) w1.heap.size (arrC c) (.inr HX.out.size)
    exact bodyPost_ret (results_tmp2 rfl _ _ _) rfl ⟨rfl, hx2⟩
end Go.Proofs.YtnapnaaejignaaaGreat.Hu

/-! HuI: huff.Codes walked. -/
namespace Go.Proofs.YtnapnaaejignaaaGreat.Hu
open Go.RowKit

/-! ### plain -/
def nxN (c : Nat → Nat) : Nat → Nat
  | 0 => 0
  | k + 1 => 2 * (nxN c k + c k)
theorem nxN_kra (c : Nat → Nat) : ∀ k, k ≤ 15 → nxN c k * 2 ^ (15 - k) = kraF c k
  | 0, _ => by simp [nxN, kraF]
  | k + 1, h => by
    have ih := nxN_kra c k (by omega)
    have e : 2 ^ (15 - k) = 2 * 2 ^ (15 - (k + 1)) := by rw [show 15 - k = (15 - (k + 1)) + 1 by omega, Nat.pow_succ, Nat.mul_comm]
    rw [nxN, kraF, ← ih, e]
    rw [Nat.mul_comm 2 (nxN c k + c k), Nat.mul_assoc, Nat.add_mul]
theorem kraF_mono (c : Nat → Nat) {a b : Nat} (h : a ≤ b) : kraF c a ≤ kraF c b := by
  induction h with
  | refl => exact Nat.le_refl _
  | step _ ih => exact Nat.le_trans ih (Nat.le_add_right _ _)
theorem nxN_le (c : Nat → Nat) (hk : kraF c 16 ≤ 32768) (k : Nat) (h : k ≤ 15) : nxN c k + c k ≤ 2 ^ k := by
  have h1 := nxN_kra c k h
  have h2 := kraF_mono c (show k + 1 ≤ 16 by omega)
  rw [kraF, ← h1, ← Nat.add_mul] at h2
  have h3 : 2 ^ k * 2 ^ (15 - k) = 32768 := by rw [← Nat.pow_add, show k + (15 - k) = 15 by omega]
  have h4 : (nxN c k + c k) * 2 ^ (15 - k) ≤ 2 ^ k * 2 ^ (15 - k) := by omega
  exact Nat.le_of_mul_le_mul_right h4 (Nat.pow_pos (by omega))
def codesF : List Int → (Nat → Nat) → List Nat
  | [], _ => []
  | x :: l, nx => if 0 < x then nx x.toNat :: codesF l (up1 nx x.toNat (nx x.toNat + 1)) else 0 :: codesF l nx
def codesN (l : List Int) : List Nat := codesF l (nxN (cntF l))
theorem codesF_len : ∀ (l : List Int) (nx : Nat → Nat), (codesF l nx).length = l.length
  | [], _ => rfl
  | x :: l, nx => by
    rw [codesF]
    split <;> rw [List.length_cons, codesF_len l, List.length_cons]
def codesE (l : List Int) : Int := if badL l then 2 else if 32768 < kra l then 4 else 0
/-! ### an array of seventeen numbers -/
abbrev u32v (n : Nat) : Value := .int .u32 (n : Int)
def arrU (c : Nat → Nat) : Array Value := ((List.range 17).map fun j => u32v (c j)).toArray
theorem arrU_at (c : Nat → Nat) (j : Nat) (h : j < 17) : (arrU c)[j]? = some (u32v (c j)) := by
  unfold arrU
  simp [List.getElem?_range h]
theorem arrU_set (c : Nat → Nat) (x v : Nat) : (arrU c).setIfInBounds x (u32v v) = arrU (up1 c x v) := by
  unfold arrU
  apply Array.ext'
  simp only [Array.toList_setIfInBounds]
  apply List.ext_getElem?
  intro j
  rw [List.getElem?_set]
  by_cases hj : j < 17
  · by_cases hx : x = j
    · subst hx
      rw [if_pos rfl, if_pos (by simpa using hj), List.getElem?_map, List.getElem?_range hj]
      simp [up1]
    · rw [if_neg hx, List.getElem?_map, List.getElem?_map, List.getElem?_range hj]
      simp [up1, show ¬ j = x from fun h => hx h.symm]
  · have h1 : ((List.range 17).map fun k => u32v (c k))[j]? = none := by rw [List.getElem?_eq_none]; simp; omega
    have h2 : ((List.range 17).map fun k => u32v (up1 c x v k))[j]? = none := by rw [List.getElem?_eq_none]; simp; omega
    show (if x = j then _ else ((List.range 17).map fun k => u32v (c k))[j]?) = ((List.range 17).map fun k => u32v (up1 c x v k))[j]?
    rw [h1, h2]
    split
    · rw [if_neg (by simp; omega)]
    · rfl
theorem arrU_congr {c d : Nat → Nat} (h : ∀ j, j < 17 → c j = d j) : arrU c = arrU d := by
  unfold arrU
  congr 1
  refine List.map_congr_left (fun j hj => ?_)
  rw [h j (List.mem_range.1 hj)]
theorem infoU32 : (Tryz.prog.info? 32).map (fun i => (i.zero, i.size, i.bytes)) = some (some (.int .u32 0), 1, 4) := by kernel_rfl
set_option maxRecDepth 100000 in
set_option maxHeartbeats 8000000 in
theorem codes_ok (v : Value) (l : List Int) (w : World) (hv : IntsAt w v l) (hl : l.length ≤ 1048576) (hb : badL l = false) (hk : kra l ≤ 32768) :
    Calls Tryz.prog 63 #[v] w fun e w' => ∃ v', e = .returned (.tuple #[v', .int .i64 0]) ∧ Ext [] w w' ∧ (oSl 32 1 v' l.length ((codesN l).map u32v)).P w' ∧ ∀ k ∈ v'.ownBlock.toList, w.heap.size ≤ k := by
  have hst := state_walk v l w hv hl
  have e : stateN l = (cmpZ (kra l) 32768, 0) := by unfold stateN; rw [hb]; rfl
  rw [e] at hst
  simp only at hst
  have hcz : cmpZ (kra l) 32768 ≤ 0 := by
    rcases cmpZ_cases (kra l) 32768 with ⟨_, h⟩ | ⟨h, _⟩ | ⟨_, h⟩ <;> omega
  obtain ⟨cz, hczz⟩ : ∃ cz, cmpZ (kra l) 32768 = cz := ⟨_, rfl⟩
  rw [hczz] at hst hcz
  have hcc := fun w h => counts_good v l w h hb
  have hcl := cntF_le l
  obtain ⟨R, hR⟩ : ∃ R, codesN l = R := ⟨_, rfl⟩
  rw [hR]
  unfold codesN at hR
  have hl2 := (bad_false hb).1
  have hrg := (bad_false hb).2
  have hnx := nxN_le (cntF l) hk
  have hc0 : cntF l 0 = 0 := rfl
  generalize cntF l = c at *
  obtain ⟨j0, hjf, hy0, hy1, hy2⟩ := info_parts infoU32
  have HST := Lib.hid hst
  have HV := Lib.hid hv
  have HCC := Lib.hid hcc
  have HR := Lib.hid hR
  have HH := Lib.hid (⟨hcl, hrg, hnx, hc0⟩ : _ ∧ _ ∧ _ ∧ _)
  obtain ⟨ao, cap, rfl, hc⟩ := hv
  have HC := Lib.hid hc
  clear hst hcc hR hcl hrg hnx hc0 hb hk e hczz hc
  go_enter Tryz.func63, Tryz.ntmps63
  go_wp2_with fail
  refine HST.out.mono ?_
  clear HST
  rintro e w1 ⟨rfl, hx1⟩
  have HX := Lib.hid hx1
  clear hx1
  go_wp2_with fail
  refine (HCC.out _ (HV.out.ext HX.out)).mono ?_
  clear HCC
  rintro e w2 ⟨rfl, hx2⟩
  have HX := Lib.hid (HX.out.trans hx2)
  have hg := Lib.hid (zeros16_at w2)
  clear hx2
  go_wp2_with (first | (refine wpList_store_row rfl 116 _ _ rfl w2.heap.size (arrC c) rfl rfl 116 _ hg.out (info16c c) (by rw [arrC_size]; rfl) (arrC_one c) ?_))
  have hx3 : Ext [] w2 ((w2.alloc (.cells #[.int .i64 0, .int .i64 0, .int .i64 0, .int .i64 0, .int .i64 0, .int .i64 0, .int .i64 0, .int .i64 0, .int .i64 0, .int .i64 0, .int .i64 0, .int .i64 0, .int .i64 0, .int .i64 0, .int .i64 0, .int .i64 0] 116)).setRow w2.heap.size (arrC c)) := ext_setRow ((Ext.refl _ w2).alloc _) w2.heap.size (arrC c) (.inr (Nat.le_refl _))
  have S := ((Sep.start w).quiet HX.out).new hx3 (Ob.one w2.heap.size (.cells (arrC c) 116 (0, 0))) (setRow_heap9 hg.out) (fun q hq => by rw [List.mem_singleton.1 hq]; exact Nat.le_refl _)
  have hsz3 : ((w2.alloc (.cells #[.int .i64 0, .int .i64 0, .int .i64 0, .int .i64 0, .int .i64 0, .int .i64 0, .int .i64 0, .int .i64 0, .int .i64 0, .int .i64 0, .int .i64 0, .int .i64 0, .int .i64 0, .int .i64 0, .int .i64 0, .int .i64 0] 116)).setRow w2.heap.size (arrC c)).heap.size = w2.heap.size + 1 := by simp [World.setRow]
  obtain ⟨W3, hW3⟩ : ∃ W3, (w2.alloc (.cells #[.int .i64 0, .int .i64 0, .int .i64 0, .int .i64 0, .int .i64 0, .int .i64 0, .int .i64 0, .int .i64 0, .int .i64 0, .int .i64 0, .int .i64 0, .int .i64 0, .int .i64 0, .int .i64 0, .int .i64 0, .int .i64 0] 116)).setRow w2.heap.size (arrC c) = W3 := ⟨_, rfl⟩
  obtain ⟨cb, hcb⟩ : ∃ cb, w2.heap.size = cb := ⟨_, rfl⟩
  rw [hW3, hcb] at hsz3
  rw [hW3, hcb] at S
  rw [hW3, hcb]
  have S := S.new ((Ext.refl _ W3).alloc (.cells (arrU fun j => if j ≤ 1 then nxN c j else 0) 155)) (Ob.one (cb + 1) (.cells (arrU fun j => if j ≤ 1 then nxN c j else 0) 155 (0, 0))) (by rw [← hsz3]; exact heap_alloc_at _) (fun q hq => by rw [List.mem_singleton.1 hq, hsz3]; exact Nat.le_refl _)
  have hz0 : (arrU fun j => if j ≤ 1 then nxN c j else 0) = arrU (fun _ => 0) := arrU_congr (fun j _ => by
    have := HH.out.2.2.2
    match j with
    | 0 => rfl
    | 1 => simp [nxN, this]
    | j + 2 => rw [if_neg (by omega)])
  rw [show (arrU fun _ => 0) = #[.int .u32 0, .int .u32 0, .int .u32 0, .int .u32 0, .int .u32 0, .int .u32 0, .int .u32 0, .int .u32 0, .int .u32 0, .int .u32 0, .int .u32 0, .int .u32 0, .int .u32 0, .int .u32 0, .int .u32 0, .int .u32 0, .int .u32 0] from rfl] at hz0
  have HZ0 := Lib.hid hz0
  have HS := Lib.hid S
  clear hx3 hsz3 hW3 hcb S hz0 hg HX
  go_loopg [9] 15 (fun g iv wr => ∃ k : Nat, g + k = 16 ∧ 1 ≤ k ∧ iv = .int .i64 k ∧ Sep w wr [Ob.one (cb + 1) (.cells (arrU fun j => if j ≤ k then nxN c j else 0) 155 (0, 0)), Ob.one cb (.cells (arrC c) 116 (0, 0))])
  case atStart => exact ⟨1, by omega, by omega, rfl, by have h := HS.out; rw [HZ0.out] at h ⊢; exact h⟩
  case round =>
    clear HS HZ0
    obtain ⟨k, hk, hk1, rfl, S⟩ := hrel
    by_cases hlt : k ≤ 15
    · have hU := S.get 0 rfl
      have hC := S.get 1 rfl
      have hle := HH.out.2.2.1 k hlt
      have hp : 2 ^ k ≤ 2 ^ 15 := Nat.pow_le_pow_right (by omega) hlt
      have u0 : ∀ z : Ex wr, z.w.cell? ⟨cb + 1, k, none⟩ = some (u32v (nxN c k)) := fun z => by
        have h := (cellOf (z.heap hU) k).trans (arrU_at _ k (by omega))
        rw [h, if_pos (Nat.le_refl k)]
      have n0 : ∀ z : Ex wr, z.w.cell? ⟨cb, k, none⟩ = some (iz (c k)) := fun z => (cellOf (z.heap hC) k).trans (arrC_at c k (by omega))
      have hsucc : nxN c (k + 1) = 2 * (nxN c k + c k) := rfl
      have HSU := Lib.hid hsucc
      have HS := Lib.hid S
      obtain ⟨a, ha⟩ : ∃ a, nxN c k = a := ⟨_, rfl⟩
      obtain ⟨b, hb⟩ : ∃ b, c k = b := ⟨_, rfl⟩
      rw [ha] at u0
      rw [hb] at n0
      rw [ha, hb] at hle HSU
      have hab : a + b ≤ 32768 := by omega
      have hk16 : (k : Int) < 16 := by omega
      clear ha hb hsucc hU hC S hp hle
      go_wp2_with fail
      refine wp_region_quiet_tail (C := fun w' => ∃ x : Ex wr, w' = x.w) 12 (by kernel_rfl) (by kernel_rfl) ⟨Ex.mk _ ((Ext.refl [] wr).drew), rfl⟩ ?_
      simp only [List.take_succ_cons, List.take_zero, List.drop_succ_cons, List.drop_zero]
      repeat (go_big_quiet_step (fail))
      refine wpQuiet_nil ?_
      clear u0 n0
      rintro _ ⟨z, rfl⟩
      obtain ⟨W, hW⟩ : ∃ W, z.w = W := ⟨_, rfl⟩
      have S := HS.out.quiet z.ext
      rw [hW] at S
      rw [hW]
      clear hW
      have hU := S.get 0 rfl
      have c1 : W.cell? ⟨cb + 1, k + 1, none⟩ = some (u32v (if k + 1 ≤ k then nxN c (k + 1) else 0)) := (cellOf hU (k + 1)).trans (arrU_at _ (k + 1) (by omega))
      have f1 := freeOf hU (k + 1)
      have hst := heap_setCell_same hU (i := k + 1) (u32v (nxN c (k + 1)))
      rw [arrU_set, arrU_congr (d := fun j => if j ≤ k + 1 then nxN c j else 0) (fun j hj => by
        unfold up1
        by_cases h : j = k + 1
        · rw [if_pos h, if_pos (by omega), h]
        · rw [if_neg h]
          show (if j ≤ k then nxN c j else 0) = _
          by_cases h2 : j ≤ k
          · rw [if_pos h2, if_pos (by omega)]
          · rw [if_neg h2, if_neg (by omega)])] at hst
      have S2 := S.upd 0 (Ob.one (cb + 1) (.cells (arrU fun j => if j ≤ k + 1 then nxN c j else 0) 155 (0, 0))) rfl ((Ext.refl [cb + 1] W).setCell ⟨cb + 1, k + 1, none⟩ (u32v (nxN c (k + 1))) (.inl (by simp))) (Fr.refl _ _) hst
      rw [HSU.out, show u32v (2 * (a + b)) = .int .u32 (((a : Int) + (b : Int)) * 2) from by rw [show ((a : Int) + (b : Int)) * 2 = ((2 * (a + b) : Nat) : Int) from by omega]] at S2
      rw [if_neg (by omega)] at c1
      have HS := Lib.hid S2
      clear S S2 hU hst HSU
      go_wp2_with fail
      go_roundg (16 - (k + 1))
      case measure => omega
      case rel => exact ⟨k + 1, by omega, by omega, by go_num, HS.out⟩
    · obtain rfl : k = 16 := by omega
      have hcg : (arrU fun j => if j ≤ 16 then nxN c j else 0) = arrU (nxN c) := arrU_congr (fun j hj => by rw [if_pos (by omega)])
      rw [hcg] at S
      have hbd : ∀ j, j < 17 → nxN c j ≤ 65536 + 0 := fun j hj => by
        by_cases h : j ≤ 15
        · have h1 := HH.out.2.2.1 j h
          have h2 : 2 ^ j ≤ 2 ^ 15 := Nat.pow_le_pow_right (by omega) h
          omega
        · obtain rfl : j = 16 := by omega
          have h1 := HH.out.2.2.1 15 (by omega)
          have h2 : nxN c 16 = 2 * (nxN c 15 + c 15) := rfl
          omega
      obtain ⟨w4, hmk, hown, hgrow⟩ := run_make_full (P := Tryz.prog) wr 0 113 32 j0 (.int .u32 0) 1 Tryz.underlying113 hjf hy0 hy1 .i64 .i64 l.length (by rw [hy2]; omega) (by unfold maxLen; omega) (by omega)
      have hx4 : Ext [] wr w4 := (Ext.refl [] wr).grown hgrow (fun k hk => by cases hk)
      have S := S.new hx4 (oSl 32 1 (.slice (some ⟨wr.heap.size, 0, none⟩) l.length l.length) l.length ((([] : List Nat) ++ List.replicate (l.length - 0) 0).map u32v)) (by
        have hm : (madeCells (Value.int .u32 0).cells (l.length * 1)).toList = (([] : List Nat) ++ List.replicate (l.length - 0) 0).map u32v := by
          rw [List.nil_append, List.map_replicate, Nat.mul_one, Nat.sub_zero]
          exact toList_madeCells_one _ _
        rw [← hm]; exact hown) (fun q hq => by simp [oSl, Value.ownBlock] at hq; omega)
      have HR2 := Lib.hid (show ([] : List Nat) ++ codesF (l.drop 0) (nxN c) = R from by rw [List.drop_zero, List.nil_append]; exact HR.out)
      have HBD := Lib.hid hbd
      have HRG := Lib.hid HH.out.2.1
      generalize nxN c = nx at *
      have HS := Lib.hid S
      obtain ⟨q, hq⟩ : ∃ q, wr.heap.size = q := ⟨_, rfl⟩
      rw [hq] at hmk HS
      clear hx4 hown hgrow S hcg hbd HR HH hq
      go_wp2_with fail
      clear hmk
      go_loopg [51] l.length (fun g iv wr2 => ∃ (k : Nat) (P : List Nat) (nx : Nat → Nat), g + k = l.length ∧ iv = .int .i64 k ∧ P.length = k ∧ P ++ codesF (l.drop k) nx = R ∧ (∀ j, j < 17 → nx j ≤ 65536 + k) ∧ Sep w wr2 [oSl 32 1 (.slice (some ⟨q, 0, none⟩) l.length l.length) l.length ((P ++ List.replicate (l.length - k) 0).map u32v), Ob.one (cb + 1) (.cells (arrU nx) 155 (0, 0)), Ob.one cb (.cells (arrC c) 116 (0, 0))])
      case atStart => exact ⟨0, [], nx, by omega, rfl, rfl, HR2.out, HBD.out, HS.out⟩
      case round =>
        clear HS HR2 HBD
        obtain ⟨k, P, nx, hk, rfl, hP, hR, hbd, S⟩ := hrel
        by_cases hlt : k < l.length
        · obtain ⟨b, off, rfl, hcell⟩ := HC.out (by omega)
          obtain ⟨x, hck⟩ : ∃ x, l[k]? = some x := ⟨_, List.getElem?_eq_getElem hlt⟩
          have d0 := Ext.cell S.ext (hcell k x hck)
          have hxr := HRG.out x (List.mem_of_getElem? hck)
          obtain ⟨m, rfl⟩ : ∃ m : Nat, x = m := ⟨x.toNat, by omega⟩
          have hdr : l.drop k = (m : Int) :: l.drop (k + 1) := by
            obtain ⟨h1, h2⟩ := List.getElem?_eq_some_iff.1 hck
            rw [List.drop_eq_getElem_cons h1, h2]
          rw [hdr, codesF, Int.toNat_natCast] at hR
          obtain ⟨r, hr⟩ : ∃ r, l.length - k = r + 1 := ⟨l.length - k - 1, by omega⟩
          have hr2 : l.length - (k + 1) = r := by omega
          rw [hr] at S
          clear hdr hcell hck
          by_cases h0 : 0 < m
          · rw [if_pos (by omega)] at hR
            have hrow : wr.ownsRow 0 32 1 (.slice (some ⟨q, 0, none⟩) l.length l.length) l.length ((P ++ List.replicate (r + 1) 0).map u32v) := S.get 0 rfl
            have hU := S.get 1 rfl
            have hnm := hbd m (by omega)
            have n0 : wr.cell? ⟨cb + 1, m, none⟩ = some (u32v (nx m)) := (cellOf hU m).trans (arrU_at _ m (by omega))
            have o0 : wr.cell? ⟨q, k, none⟩ = some (u32v 0) := ownsRow_at hrow (by rw [List.getElem?_map, List.getElem?_append_right (by omega), hP, Nat.sub_self]; rfl)
            have o1 := ownsRow_free hrow k
            have hst := ownsRow_store (i := k) hrow (u32v (nx m))
            rw [← List.map_set, List.set_append, if_neg (by omega), hP, Nat.sub_self, List.replicate_succ, List.set_cons_zero, List.append_cons] at hst
            have S1 := S.upd 0 (oSl 32 1 (.slice (some ⟨q, 0, none⟩) l.length l.length) l.length (List.map u32v (P ++ [nx m] ++ List.replicate r (0 : Nat)))) rfl ((Ext.refl _ wr).setCell ⟨q, k, none⟩ (u32v (nx m)) (.inl (by simp [oSl, Value.ownBlock]))) (Fr.refl _ _) hst
            have hU1 := S1.get 1 rfl
            have n1 : (wr.setCell ⟨q, k, none⟩ (u32v (nx m))).cell? ⟨cb + 1, m, none⟩ = some (u32v (nx m)) := (cellOf hU1 m).trans (arrU_at _ m (by omega))
            have n2 : (wr.setCell ⟨q, k, none⟩ (u32v (nx m))).frozen? ⟨cb + 1, m, none⟩ = false := freeOf hU1 m
            have hst2 := heap_setCell_same hU1 (i := m) (u32v (nx m + 1))
            rw [arrU_set] at hst2
            have S2 := S1.upd 1 (Ob.one (cb + 1) (.cells (arrU (up1 nx m (nx m + 1))) 155 (0, 0))) rfl ((Ext.refl [cb + 1] _).setCell ⟨cb + 1, m, none⟩ (u32v (nx m + 1)) (.inl (by simp))) (Fr.refl _ _) hst2
            rw [show u32v (nx m + 1) = .int .u32 ((nx m : Int) + 1) from by rw [show ((nx m : Int) + 1) = ((nx m + 1 : Nat) : Int) from by omega]] at S2
            have hbd2 : ∀ j, j < 17 → up1 nx m (nx m + 1) j ≤ 65536 + (k + 1) := fun j hj => by
              have := hbd j hj
              unfold up1
              split
              · rename_i h; subst h; omega
              · omega
            have HF := Lib.hid (⟨hR, hbd2, S2, hr2, hP⟩ : _ ∧ _ ∧ _ ∧ _ ∧ _)
            generalize nx m = a at n0 n1 n2 hnm HF
            have hm16 : (m : Int) < 17 := by omega
            have h0' : (0 : Int) < (m : Int) := by omega
            clear hR hbd hbd2 S S1 S2 hst hst2 hU hU1 hrow hP hr hr2 hxr
            go_wp2_with fail
            go_roundg (l.length - (k + 1))
            case measure => omega
            case rel =>
              obtain ⟨hR, hbd2, S2, hr2, hP⟩ := HF.out
              exact ⟨k + 1, P ++ [a], up1 nx m (a + 1), by omega, by go_num, by simp [hP], by rw [← List.append_cons]; exact hR, hbd2, by rw [hr2]; exact S2⟩
          · rw [if_neg (by omega)] at hR
            obtain rfl : m = 0 := by omega
            rw [List.replicate_succ, List.append_cons] at S
            have HF := Lib.hid (⟨hR, (fun j hj => by have := hbd j hj; omega : ∀ j, j < 17 → nx j ≤ 65536 + (k + 1)), S, hr2, hP⟩ : _ ∧ _ ∧ _ ∧ _ ∧ _)
            clear hR hbd S hP hr hr2 hxr
            go_wp2_with fail
            go_roundg (l.length - (k + 1))
            case measure => omega
            case rel =>
              obtain ⟨hR, hbd2, S2, hr2, hP⟩ := HF.out
              exact ⟨k + 1, P ++ [0], nx, by omega, by go_num, by simp [hP], by rw [← List.append_cons]; exact hR, hbd2, by rw [hr2]; exact S2⟩
        · obtain rfl : k = l.length := by omega
          rw [List.drop_length, codesF, List.append_nil] at hR
          subst hR
          rw [Nat.sub_self, List.replicate_zero, List.append_nil] at S
          have HS := Lib.hid S
          clear S hbd hP
          go_wp2_with fail
          exact bodyPost_ret (results_tmp2 rfl _ _ _) rfl ⟨_, rfl, HS.out.ext, HS.out.get 0 rfl, HS.out.base _ (List.mem_cons_self ..)⟩
end Go.Proofs.YtnapnaaejignaaaGreat.Hu

/-! HuJ: huff: slices.Clone, slices.Max at int; Lens walked. -/
namespace Go.Proofs.YtnapnaaejignaaaGreat.Hu
open Go.RowKit

theorem append_of_nil7 {P : Program} (w : World) (base : Nat) (t ty e : TypeId) (i : TypeInfo) (size : Nat) (ht : P.underlying t = some (.slice e)) (hi : P.info? e = some i)
    (v : Value) (n : Nat) (xs : List Value) (hown : w.ownsRow base e size v n xs) (c : Nat) : (Builtin.append_ #[t, t] ty #[v, .slice none 0 c]).run P w = .ok v w := by
  rcases hown.2 with ⟨rfl, rfl⟩ | ⟨g, cap, cur, rfl, _, _, hnc, _⟩
  · simp [Builtin.append_, run_underlying ht, sizeOf, typeInfo, hi, Builtin.lenOf, Builtin.firstCells]
  · simp [Builtin.append_, run_underlying ht, sizeOf, typeInfo, hi, Builtin.lenOf, Builtin.firstCells, hnc, storeCells]
theorem IntsAt.cells {w : World} {a : Addr} {n cap : Nat} {l : List Int} (h : IntsAt w (.slice (some a) n cap) l) (j : Nat) (u : Value) (hu : (l.map iz)[j]? = some u) : w.cell? (a.add j) = some u := by
  have hj : j < l.length := by have := (List.getElem?_eq_some_iff.1 hu).1; simpa using this
  obtain ⟨ao, cap', he, hc⟩ := h
  obtain ⟨b, off, rfl, hcell⟩ := hc (by omega)
  injection he with h1 h2 h3
  injection h1 with h1
  subst h1
  have ad : (⟨b, off, none⟩ : Addr).add j = ⟨b, off + j, none⟩ := by unfold Addr.add; split <;> simp_all
  rw [List.getElem?_map] at hu
  cases hx : l[j]? with
  | none => rw [hx] at hu; cases hu
  | some x =>
    rw [hx] at hu
    rw [ad, hcell j x hx, ← hu]
    rfl
/-- an own copy: append([]int{}, l...) in a world where an empty row has been made -/
theorem copy_ints (w : World) (ao : Option Addr) (cap : Nat) (l : List Int) (h : IntsAt w (.slice ao l.length cap) l) (hl : l.length ≤ 1048576) (hcap : ao = none → cap = 0) (hn0 : ao = none → l.length = 0) :
    ∃ v' w', (∀ ty, (Builtin.append_ #[58, 58] ty #[.slice (some ⟨w.heap.size, 0, none⟩) 0 0, .slice ao l.length cap]).run Tryz.prog (w.alloc (.cells #[] 3)) = .ok v' w') ∧ Ext [] w w' ∧ (oSl 3 1 v' l.length (l.map iz)).P w' ∧ ∀ k ∈ v'.ownBlock.toList, w.heap.size ≤ k := by
  obtain ⟨i0, hif, hz0, hz1, hz2⟩ := info_parts infoInt7
  have hxW : Ext [] w (w.alloc (.cells #[] 3)) := (Ext.refl _ w).alloc _
  have hE : (w.alloc (.cells #[] 3)).ownsRow 0 3 1 (.slice (some ⟨w.heap.size, 0, none⟩) 0 0) 0 [] :=
    ⟨rfl, .inr ⟨w.heap.size, 0, #[], rfl, Nat.zero_le _, heap_alloc_at _, Nat.le_refl _, by unfold maxLen; omega, rfl, rfl⟩⟩
  cases ao with
  | none =>
    obtain rfl : cap = 0 := hcap rfl
    have h0 : l = [] := List.eq_nil_of_length_eq_zero (hn0 rfl)
    subst h0
    exact ⟨_, _, fun ty => append_of_nil7 _ 0 58 ty 3 i0 1 Tryz.underlying58 hif _ 0 [] hE 0, hxW, hE, by simp [Value.ownBlock]⟩
  | some a =>
    have hcells : ∀ j u, (l.map iz)[j]? = some u → (w.alloc (.cells #[] 3)).cell? (a.add j) = some u := fun j u hu => Ext.cell hxW (h.cells j u hu)
    have h1 : ∀ u ∈ l.map iz, u.oneCell' = true := fun u hu => by
      obtain ⟨x, _, rfl⟩ := List.mem_map.1 hu
      rfl
    obtain ⟨v', w', hr, hown, hgr, _, hat⟩ := run_append_own_at (P := Tryz.prog) (w.alloc (.cells #[] 3)) 0 58 0 3 i0 _ 1 8 Tryz.underlying58 hif hz0 hz1 hz2 rfl (by decide) _ 0 [] hE a l.length cap (l.map iz) (by simp) hcells h1 (by unfold maxLen; omega) (by omega) (Nat.zero_le _)
    rw [Nat.zero_add] at hown
    refine ⟨v', w', fun ty => hr, hxW.trans' (T := [w.heap.size]) ((Ext.refl _ _).grown hgr (fun k hk => .inl (by simpa [Value.ownBlock] using hk.symm))) (fun i hi h => by simp at h; omega), hown, fun k hk => ?_⟩
    have hk : v'.ownBlock = some k := by simpa using hk
    rcases hat with e | e
    · rw [e] at hk; simp [Value.ownBlock] at hk; omega
    · rw [e] at hk; simp at hk; omega
/-- the argument []int -/
def IntsArg (w : World) (v : Value) (l : List Int) : Prop := IntsAt w v l ∧ ∃ ao cap, v = .slice ao l.length cap ∧ l.length ≤ cap ∧ cap ≤ maxLen ∧ (ao = none → cap = 0)
theorem IntsArg.ext {w w' : World} {v : Value} {l : List Int} (h : IntsArg w v l) (hx : Ext [] w w') : IntsArg w' v l := ⟨h.1.ext hx, h.2⟩
theorem IntsArg.of_own {w : World} {v : Value} {l : List Int} (h : w.ownsRow 0 3 1 v l.length (l.map iz)) : IntsArg w v l := by
  refine ⟨IntsAt.of_own h, ?_⟩
  rcases h.2 with ⟨rfl, hn⟩ | ⟨g, cap, cs, rfl, _, hg, hnc, hcap, hsz, ht⟩
  · exact ⟨none, 0, by rw [hn], by omega, by unfold maxLen; omega, fun _ => rfl⟩
  · exact ⟨_, cap, rfl, hnc, hcap, fun h => by cases h⟩
def NewInts (w : World) (l : List Int) (e : Ending) (w' : World) : Prop := ∃ v', e = .returned v' ∧ Ext [] w w' ∧ (oSl 3 1 v' l.length (l.map iz)).P w' ∧ ∀ k ∈ v'.ownBlock.toList, w.heap.size ≤ k
set_option maxRecDepth 100000 in
set_option maxHeartbeats 8000000 in
theorem clone_walk (v : Value) (l : List Int) (w : World) (hv : IntsArg w v l) (hl : l.length ≤ 1048576) :
    Calls Tryz.prog 56 #[v] w (NewInts w l) := by
  obtain ⟨hA, ao, cap, rfl, hcap, hcm, hnil⟩ := hv
  obtain ⟨v', w', hr, hx, hp, hn⟩ := copy_ints w ao cap l hA hl hnil (fun h => by have := hnil h; omega)
  have HXP := Lib.hid (⟨hx, hp, hn⟩ : _ ∧ _ ∧ _)
  cases ao with
  | none =>
    obtain rfl : cap = 0 := hnil rfl
    have h0 : l = [] := List.eq_nil_of_length_eq_zero (by omega)
    subst h0
    have hq := fun w1 => Lib.run_eql_slice_nil (P := Tryz.prog) w1 58 3 none 0 0 0 0 Tryz.underlying58
    clear hr hx hp hn HXP
    go_enter Tryz.func56, Tryz.ntmps56
    go_wp2_with fail
    go_ret
    exact ⟨_, rfl, Ext.refl _ _, World.ownsRow_nil _ _ _ _, by simp [Value.ownBlock]⟩
  | some a =>
    have hq := fun w1 => Lib.run_eql_slice_nil (P := Tryz.prog) w1 58 3 (some a) l.length cap 0 0 Tryz.underlying58
    clear hx hp hn hA
    go_enter Tryz.func56, Tryz.ntmps56
    go_wp2_with (at_builtin; refine wpList_plain rfl (fun K hK => wp_append_run _ _ _ _ rfl rfl rfl (hr _) (hK _ _ ?_)))
    go_ret
    exact ⟨_, rfl, HXP.out.1, HXP.out.2.1, HXP.out.2.2⟩
def maxL : List Int → Int
  | [] => 0
  | x :: l => l.foldl max x
set_option maxRecDepth 100000 in
set_option maxHeartbeats 8000000 in
theorem max_walk (v : Value) (l : List Int) (w : World) (hv : IntsAt w v l) (h0 : 0 < l.length) (hl : l.length ≤ 1048576) :
    Calls Tryz.prog 58 #[v] w fun e w' => e = .returned (.int .i64 (maxL l)) ∧ w = w' := by
  obtain ⟨ao, cap, rfl, hc⟩ := hv
  obtain ⟨b, off, rfl, hcell⟩ := hc h0
  obtain ⟨x, r, rfl⟩ : ∃ x r, l = x :: r := by
    cases l with
    | nil => simp at h0
    | cons x r => exact ⟨x, r, rfl⟩
  have c0 := hcell 0 x rfl
  rw [Nat.add_zero] at c0
  obtain ⟨R, hR⟩ : ∃ R, maxL (x :: r) = R := ⟨_, rfl⟩
  rw [hR]
  have HR := Lib.hid hR
  have HC := Lib.hid hcell
  obtain ⟨n, hn⟩ : ∃ n, (x :: r).length = n := ⟨_, rfl⟩
  have hrn : r.length + 1 = n := by simpa using hn
  have HN := Lib.hid hrn
  rw [hn] at hl h0 ⊢
  have hn1 : (1 : Int) ≤ (n : Int) := by omega
  clear hc hR hcell hn hrn
  go_enter Tryz.func58, Tryz.ntmps58
  go_wp2_with fail
  clear c0
  go_loopg [3, 4] (n - 1) (fun g mv iv wr => ∃ (k : Nat) (m : Int), g + k = n ∧ 1 ≤ k ∧ iv = .int .i64 k ∧ mv = .int .i64 m ∧ (r.drop (k - 1)).foldl max m = R ∧ w = wr)
  case atStart => exact ⟨1, x, by omega, by omega, rfl, rfl, HR.out, rfl⟩
  case round =>
    clear HR
    obtain ⟨k, m, hk, hk1, rfl, rfl, hR, rfl⟩ := hrel
    by_cases hlt : k < n
    · obtain ⟨j, rfl⟩ : ∃ j, k = j + 1 := ⟨k - 1, by omega⟩
      have hj : j < r.length := by have := HN.out; omega
      obtain ⟨y, hy⟩ : ∃ y, r[j]? = some y := ⟨_, List.getElem?_eq_getElem hj⟩
      have c1 := HC.out (j + 1) y (by simpa using hy)
      obtain ⟨h1, h2⟩ := List.getElem?_eq_some_iff.1 hy
      rw [Nat.add_sub_cancel, List.drop_eq_getElem_cons h1, h2, List.foldl_cons] at hR
      have HR := Lib.hid hR
      obtain ⟨i, hi⟩ : ∃ i, j + 1 = i := ⟨_, rfl⟩
      have HI := Lib.hid hi
      rw [hi] at c1 hlt hk ⊢
      clear hR hy hi h1 h2 hj hk1
      go_wp2_with fail
      all_goals
        go_roundg (n - (i + 1))
        case measure => omega
        case rel => exact ⟨i + 1, max m y, by omega, by omega, by go_num, by (first | rw [Int.max_eq_left (by omega)] | rw [Int.max_eq_right (by omega)]), by rw [Nat.add_sub_cancel, ← HI.out]; exact HR.out, rfl⟩
    · obtain rfl : k = n := by omega
      have hd : r.drop (k - 1) = [] := by rw [List.drop_eq_nil_iff]; have := HN.out; omega
      rw [hd] at hR
      have hR : m = R := hR
      subst hR
      go_wp2_with fail
      go_ret
      exact ⟨rfl, rfl⟩
end Go.Proofs.YtnapnaaejignaaaGreat.Hu

/-! HuK: huff.Lens walked. -/
namespace Go.Proofs.YtnapnaaejignaaaGreat.Hu
open Go.RowKit

def halfL (l : List Int) : List Int := l.map fun n => (n + 1) / 2
def okB (m : Int) (f : List Int) : Bool := decide (f.length = 0 ∨ maxL (deepN f) ≤ m)
def lensF : Nat → Int → List Int → List Int
  | 0, _, f => deepN f
  | k + 1, m, f => if okB m f = true then deepN f else lensF k m (halfL f)
def fitB : Nat → Int → List Int → Bool
  | 0, m, f => okB m f
  | k + 1, m, f => okB m f || fitB k m (halfL f)
def someN (l : List Int) : Nat := l.countP fun x => decide (0 < x)
def lensErr (l : List Int) (m : Int) : Bool := (l.any fun x => decide (x < 0 ∨ 1099511627776 < x)) || decide (288 < l.length ∨ m < 1 ∨ 15 < m ∨ ((2 ^ m.toNat : Nat) : Int) < (someN l : Int))
theorem deepN_len (l : List Int) : (deepN l).length = l.length := by
  unfold deepN
  split
  · rw [List.length_set, zers_len]
  · generalize mrgF _ _ _ = L
    cases L with
    | nil => exact zers_len _
    | cons x L => rw [topD, setD_len, zers_len]
theorem lensF_len : ∀ k m f, (lensF k m f).length = f.length
  | 0, m, f => deepN_len f
  | k + 1, m, f => by
    rw [lensF]
    split
    · exact deepN_len f
    · rw [lensF_len k m]; simp [halfL]
theorem someN_snoc (l : List Int) (x : Int) : someN (l ++ [x]) = someN l + if 0 < x then 1 else 0 := by
  unfold someN
  rw [List.countP_append, List.countP_singleton]
  by_cases h : 0 < x <;> simp [h]
theorem someN_le (l : List Int) : someN l ≤ l.length := List.countP_le_length
theorem lensErr_false {l : List Int} {m : Int} (h : lensErr l m = false) : (∀ x ∈ l, 0 ≤ x ∧ x ≤ 1099511627776) ∧ l.length ≤ 288 ∧ 1 ≤ m ∧ m ≤ 15 ∧ someN l ≤ 2 ^ m.toNat := by
  unfold lensErr at h
  rw [Bool.or_eq_false_iff, List.any_eq_false] at h
  have h2 := of_decide_eq_false h.2
  refine ⟨fun x hx => ?_, by omega, by omega, by omega, by omega⟩
  have := h.1 x hx
  simp at this
  omega
def NewTwo (w : World) (l : List Int) (e : Ending) (w' : World) : Prop := ∃ v', e = .returned (.tuple #[v', .int .i64 0]) ∧ Ext [] w w' ∧ (oSl 3 1 v' l.length (l.map iz)).P w' ∧ ∀ k ∈ v'.ownBlock.toList, w.heap.size ≤ k
theorem half_rng {f : List Int} (h : ∀ c ∈ f, 0 ≤ c ∧ c ≤ 1099511627776) : ∀ c ∈ halfL f, 0 ≤ c ∧ c ≤ 1099511627776 := fun c hc => by
  obtain ⟨x, hx, rfl⟩ := List.mem_map.1 hc
  have := h x hx
  omega
set_option maxRecDepth 100000 in
set_option maxHeartbeats 16000000 in
theorem lens_ok (v : Value) (l : List Int) (m : Int) (K : Nat) (w : World) (hv : IntsArg w v l) (he : lensErr l m = false) (hfit : fitB K m l = true) :
    Calls Tryz.prog 34 #[v, .int .i64 m] w (NewTwo w (lensF K m l)) := by
  obtain ⟨hx, hl, hm1, hm15, hsome⟩ := lensErr_false he
  have HV := Lib.hid hv
  obtain ⟨hA, ao, cap, rfl, hcap, hcm, hnil⟩ := hv
  obtain ⟨aov, capv, hev, hc⟩ := hA
  injection hev with h1 _ h3
  subst h1 h3
  have hlz := lensF_len K m l
  obtain ⟨R, hR⟩ : ∃ R, lensF K m l = R := ⟨_, rfl⟩
  rw [hR] at hlz ⊢
  have HR := Lib.hid hR
  have HLZ := Lib.hid hlz
  have HFIT := Lib.hid hfit
  have HC := Lib.hid hc
  have HXX := Lib.hid hx
  obtain ⟨mm, rfl⟩ : ∃ mm : Nat, m = mm := ⟨m.toNat, by omega⟩
  rw [Int.toNat_natCast] at hsome
  obtain ⟨t, ht⟩ : ∃ t, 2 ^ mm = t := ⟨_, rfl⟩
  rw [ht] at hsome
  have ht9 : t ≤ 32768 := by rw [← ht]; exact Nat.pow_le_pow_right (n := 2) (by omega) (show mm ≤ 15 by omega)
  have hti : (2 : Int) ^ mm = (t : Int) := by rw [← ht]; push_cast; rfl
  have HSM := Lib.hid hsome
  have HSL := Lib.hid (someN_le l)
  have hl' : ¬ 288 < l.length := by omega
  have q1 : ¬ ((mm : Int) < 1) := by omega
  have q2 : ¬ ((15 : Int) < (mm : Int)) := by omega
  clear hx hc hR hlz hfit he hcap hcm hnil hsome ht
  go_enter Tryz.func34, Tryz.ntmps34
  go_wp2_with fail
  go_loopg [6, 15] l.length (fun g sv iv wr => ∃ k : Nat, g + k = l.length ∧ iv = .int .i64 k ∧ sv = .int .i64 (someN (l.take k) : Nat) ∧ w = wr)
  case atStart => exact ⟨0, by omega, rfl, by simp [someN], rfl⟩
  case round =>
    obtain ⟨k, hk, rfl, rfl, rfl⟩ := hrel
    by_cases hlt : k < l.length
    · obtain ⟨b, off, rfl, hcell⟩ := HC.out (by omega)
      obtain ⟨x, hck⟩ : ∃ x, l[k]? = some x := ⟨_, List.getElem?_eq_getElem hlt⟩
      have d0 := hcell k x hck
      have hxr := HXX.out x (List.mem_of_getElem? hck)
      have x1 : ¬ x < 0 := by omega
      have x2 : ¬ (1099511627776 : Int) < x := by omega
      have hs := someN_snoc (l.take k) x
      rw [← ints_take l k x hck] at hs
      have hs9 : someN (l.take k) ≤ 288 := by have := someN_le (l.take k); have := List.length_take_le k l; omega
      have HS := Lib.hid hs
      generalize someN (l.take k) = s at *
      clear hcell hck hs
      by_cases h0 : 0 < x
      · have h1 : 1 ≤ x := by omega
        go_wp2_with fail
        all_goals
          go_roundg (l.length - (k + 1))
          case measure => omega
          case rel => exact ⟨k + 1, by omega, by go_num, by (first | rw [HS.out, if_pos h0, show (s : Int) + x = ((s + 1 : Nat) : Int) from by omega] | rw [HS.out, if_pos h0, show (s : Int) + 1 = ((s + 1 : Nat) : Int) from by omega]), rfl⟩
      · obtain rfl : x = 0 := by omega
        go_wp2_with fail
        go_roundg (l.length - (k + 1))
        case measure => omega
        case rel => exact ⟨k + 1, by omega, by go_num, by rw [HS.out, if_neg (by omega)]; simp, rfl⟩
    · obtain rfl : k = l.length := by omega
      rw [List.take_length]
      have hsm := HSM.out
      have hsl := HSL.out
      generalize someN l = s at *
      have q3 : ¬ ((t : Int) < (s : Int)) := by omega
      clear HC
      go_wp2_with fail
      refine (clone_walk _ l w HV.out (by omega)).mono ?_
      rintro e w1 ⟨v1, rfl, hx1, hp1, hn1⟩
      obtain ⟨ao1, cap1, rfl⟩ := (IntsAt.of_own hp1).slice
      have HS := Lib.hid (((Sep.start w).new hx1 (oSl 3 1 (.slice ao1 l.length cap1) l.length (l.map iz)) hp1 hn1))
      clear hx1 hp1 hn1 hsm hsl HSM HSL q3
      go_wp2_with fail
      go_loopg [10] K (fun g _ wr => ∃ f : List Int, f.length = l.length ∧ (∀ c ∈ f, 0 ≤ c ∧ c ≤ 1099511627776) ∧ lensF g mm f = R ∧ fitB g mm f = true ∧ Sep w wr [oSl 3 1 (.slice ao1 l.length cap1) l.length (f.map iz)])
      case atStart => exact ⟨l, rfl, HXX.out, HR.out, HFIT.out, HS.out⟩
      case round =>
        clear HS HXX HR HFIT HV
        obtain ⟨f, hfl, hrg, hR, hfit, S⟩ := hrel
        have hown : wr.ownsRow 0 3 1 (.slice ao1 l.length cap1) l.length (f.map iz) := S.get 0 rfl
        rw [← hfl] at hown
        have hia := IntsAt.of_own hown
        rw [hfl] at hia
        have hdeep := deep_walk _ f wr hia (by omega) (fun c hc => (hrg c hc).2)
        have hdl := deepN_len f
        obtain ⟨D, hD⟩ : ∃ D, deepN f = D := ⟨_, rfl⟩
        have hokB : okB mm f = decide (f.length = 0 ∨ maxL D ≤ (mm : Int)) := by unfold okB; rw [hD]
        have hR1 : okB mm f = true → D = R := fun ho => by
          rw [← hD, ← hR]
          cases gk with
          | zero => rfl
          | succ g => rw [lensF, if_pos ho]
        have hR2 : okB mm f = false → ∃ g', gk = g' + 1 ∧ lensF g' mm (halfL f) = R ∧ fitB g' mm (halfL f) = true := fun ho => by
          cases gk with
          | zero => rw [fitB, ho] at hfit; cases hfit
          | succ g =>
            rw [lensF, if_neg (by rw [ho]; simp)] at hR
            rw [fitB, ho, Bool.false_or] at hfit
            exact ⟨g, rfl, hR, hfit⟩
        rw [hD] at hdeep hdl
        have HDEEP := Lib.hid hdeep
        have HS := Lib.hid S
        have HK := Lib.hid (⟨hfl, hrg, hR1, hR2, hokB, hdl⟩ : _ ∧ _ ∧ _ ∧ _ ∧ _ ∧ _)
        clear hdeep S hown hia hfl hrg hR1 hR2 hokB hdl hR hfit hD
        go_wp2_with fail
        refine HDEEP.out.mono ?_
        clear HDEEP
        rintro e w2 ⟨v2, rfl, hx2, hp2, hn2⟩
        have hp2' : w2.ownsRow 0 3 1 v2 D.length (D.map iz) := by rw [HK.out.2.2.2.2.2]; exact hp2
        have hI := IntsAt.of_own hp2'
        obtain ⟨ao2, cap2, rfl⟩ := hI.slice
        have hnw : ∀ k ∈ (Value.slice ao2 D.length cap2).ownBlock.toList, w.heap.size ≤ k := fun k hk => Nat.le_trans HS.out.ext.size (hn2 k hk)
        have HS := Lib.hid (HS.out.quiet hx2)
        have HP2 := Lib.hid (⟨hp2', hI, hnw⟩ : _ ∧ _ ∧ _)
        clear hnw
        clear hx2 hp2 hp2' hI hn2
        by_cases hz : D.length = 0
        · have hz1 : ((D.length : Int) == 0) = true := by simp [hz]
          have hDR := HK.out.2.2.1 (by rw [HK.out.2.2.2.2.1]; exact decide_eq_true (.inl (by rw [← HK.out.2.2.2.2.2]; exact hz)))
          subst hDR
          clear hz
          go_wp2_with fail
          exact bodyPost_ret (results_tmp2 rfl _ _ _) rfl ⟨_, rfl, HS.out.ext, HP2.out.1, HP2.out.2.2⟩
        · have hz1 : ((D.length : Int) == 0) = false := beq_eq_false_iff_ne.2 (by omega)
          have hz2 : 0 < D.length := by omega
          clear hz
          go_wp2_with fail
          refine (max_walk _ D w2 HP2.out.2.1 hz2 (by have := HK.out.2.2.2.2.2; have := HK.out.1; omega)).mono ?_
          rintro e w3 ⟨rfl, rfl⟩
          obtain ⟨M, hM⟩ : ∃ M, maxL D = M := ⟨_, rfl⟩
          have hok := HK.out.2.2.2.2.1
          rw [hM] at hok
          rw [hM]
          by_cases hMm : M ≤ (mm : Int)
          · have hDR := HK.out.2.2.1 (by rw [hok]; exact decide_eq_true (.inr hMm))
            subst hDR
            clear hok hM
            go_wp2_with fail
            exact bodyPost_ret (results_tmp2 rfl _ _ _) rfl ⟨_, rfl, HS.out.ext, HP2.out.1, HP2.out.2.2⟩
          · have hok2 : okB mm f = false := by
              rw [hok]
              refine decide_eq_false (fun h => ?_)
              rcases h with h | h
              · rw [← HK.out.2.2.2.2.2] at h; omega
              · exact hMm h
            obtain ⟨g', rfl, hR, hfit⟩ := HK.out.2.2.2.1 hok2
            have HRF := Lib.hid (⟨hR, hfit⟩ : _ ∧ _)
            have hMm' : (mm : Int) < M := by omega
            have HFN := Lib.hid (⟨HK.out.1, trivial⟩ : f.length = l.length ∧ True)
            clear hok hok2 hM hR hfit hMm
            have HI0 := Lib.hid (HS.out : Sep w w2 [oSl 3 1 (.slice ao1 l.length cap1) l.length ((halfL (f.take 0) ++ f.drop 0).map iz)])
            go_wp2_with fail
            go_loopg [63] l.length (fun g iv wr2 => ∃ k : Nat, g + k = l.length ∧ iv = .int .i64 k ∧ Sep w wr2 [oSl 3 1 (.slice ao1 l.length cap1) l.length ((halfL (f.take k) ++ f.drop k).map iz)])
            case atStart => exact ⟨0, by omega, rfl, HI0.out⟩
            case round =>
              clear HS HI0
              obtain ⟨k, hk, rfl, S⟩ := hrel
              by_cases hlt : k < l.length
              · have hkf : k < f.length := by have := HFN.out.1; omega
                obtain ⟨x, hx⟩ : ∃ x, f[k]? = some x := ⟨_, List.getElem?_eq_getElem hkf⟩
                obtain ⟨h1, h2⟩ := List.getElem?_eq_some_iff.1 hx
                have hxr := HK.out.2.1 x (List.mem_of_getElem? hx)
                have hdr : f.drop k = x :: f.drop (k + 1) := by rw [List.drop_eq_getElem_cons h1, h2]
                have htk : halfL (f.take (k + 1)) = halfL (f.take k) ++ [(x + 1) / 2] := by rw [ints_take f k x hx]; simp [halfL]
                have hlk : (halfL (f.take k)).length = k := by simp [halfL]; omega
                have hrow : wr.ownsRow 0 3 1 (.slice ao1 l.length cap1) l.length ((halfL (f.take k) ++ f.drop k).map iz) := S.get 0 rfl
                obtain ⟨g3, hg3⟩ : ∃ g3, ao1 = some ⟨g3, 0, none⟩ := by
                  rcases hrow.2 with ⟨_, h⟩ | ⟨g, cap, cs, h, _⟩
                  · omega
                  · injection h with h _ _; exact ⟨g, h⟩
                subst hg3
                have hat : ((halfL (f.take k) ++ f.drop k).map iz)[k]? = some (iz x) := by
                  rw [hdr, List.getElem?_map, List.getElem?_append_right (by omega), hlk, Nat.sub_self]; rfl
                have c0 : wr.cell? ⟨g3, k, none⟩ = some (iz x) := ownsRow_at hrow hat
                have f0 := ownsRow_free hrow k
                have hst := ownsRow_store (i := k) hrow (iz ((x + 1) / 2))
                rw [← List.map_set, hdr, List.set_append, if_neg (by omega), hlk, Nat.sub_self, List.set_cons_zero, List.append_cons, ← htk] at hst
                have S2 := S.upd 0 (oSl 3 1 (.slice (some ⟨g3, 0, none⟩) l.length cap1) l.length (List.map iz (halfL (f.take (k + 1)) ++ f.drop (k + 1)))) rfl ((Ext.refl _ wr).setCell ⟨g3, k, none⟩ (iz ((x + 1) / 2)) (.inl (by simp [oSl, Value.ownBlock]))) (Fr.refl _ _) hst
                have HS2 := Lib.hid S2
                have x0 : (0 : Int) ≤ x := hxr.1
                have x9 : x ≤ 1099511627776 := hxr.2
                clear S2 hst hrow hat hdr htk hlk hx h1 h2 hxr S hkf
                go_wp2_with fail
                go_roundg (l.length - (k + 1))
                case measure => omega
                case rel => exact ⟨k + 1, by omega, by go_num, HS2.out⟩
              · obtain rfl : k = l.length := by omega
                have hS : Sep w wr [oSl 3 1 (.slice ao1 l.length cap1) l.length ((halfL f).map iz)] := by
                  have h := S
                  rw [List.take_of_length_le (by have := HFN.out.1; omega), List.drop_eq_nil_of_le (by have := HFN.out.1; omega), List.append_nil] at h
                  exact h
                have HS := Lib.hid hS
                clear hS S
                go_wp2_with fail
                go_roundg g'
                case measure => omega
                case rel => exact ⟨halfL f, by simp [halfL]; exact HK.out.1, half_rng HK.out.2.1, HRF.out.1, HRF.out.2, HS.out⟩
end Go.Proofs.YtnapnaaejignaaaGreat.Hu

/-! HuM: huff.Codes and huff.Lens of lengths and counts that may not be. -/
namespace Go.Proofs.YtnapnaaejignaaaGreat.Hu
open Go.RowKit

set_option maxRecDepth 100000 in
set_option maxHeartbeats 4000000 in
theorem codes_err (v : Value) (l : List Int) (w : World) (hv : IntsAt w v l) (hl : l.length ≤ 1048576) (he : codesE l ≠ 0) :
    Calls Tryz.prog 63 #[v] w fun e w' => e = .returned (.tuple #[.slice none 0 0, .int .i64 (codesE l)]) ∧ Ext [] w w' := by
  have hst := state_walk v l w hv hl
  by_cases hb : badL l = true
  · have e : stateN l = (0, 2) := by unfold stateN; rw [if_pos hb]
    have e2 : codesE l = 2 := by unfold codesE; rw [if_pos hb]
    rw [e] at hst
    rw [e2]
    have HST := Lib.hid hst
    obtain ⟨ao, cap, rfl, hc⟩ := hv
    clear hst hc hb e e2 he
    go_enter Tryz.func63, Tryz.ntmps63
    go_wp2_with fail
    refine HST.out.mono ?_
    clear HST
    rintro e w1 ⟨rfl, hx1⟩
    have HX := Lib.hid hx1
    clear hx1
    go_wp2_with fail
    exact bodyPost_ret (results_tmp2 rfl _ _ _) rfl ⟨rfl, HX.out⟩
  · have e2 : codesE l = if 32768 < kra l then 4 else 0 := by unfold codesE; rw [if_neg hb]
    have hk : 32768 < kra l := by
      rw [e2] at he
      split at he
      · assumption
      · exact absurd rfl he
    rw [if_pos hk] at e2
    have hcz : cmpZ (kra l) 32768 = 1 := by
      rcases cmpZ_cases (kra l) 32768 with ⟨h, _⟩ | ⟨_, h⟩ | ⟨h, h2⟩ <;> omega
    have e : stateN l = (1, 0) := by unfold stateN; rw [if_neg hb, hcz]
    rw [e] at hst
    rw [e2]
    have HST := Lib.hid hst
    obtain ⟨ao, cap, rfl, hc⟩ := hv
    clear hst hc hb e e2 he hk hcz
    go_enter Tryz.func63, Tryz.ntmps63
    go_wp2_with fail
    refine HST.out.mono ?_
    clear HST
    rintro e w1 ⟨rfl, hx1⟩
    have HX := Lib.hid hx1
    clear hx1
    go_wp2_with fail
    exact bodyPost_ret (results_tmp2 rfl _ _ _) rfl ⟨rfl, HX.out⟩

set_option maxRecDepth 100000 in
set_option maxHeartbeats 16000000 in
theorem lens_err (v : Value) (l : List Int) (m : Int) (w : World) (hv : IntsArg w v l) (hl : l.length ≤ 1048576) (hm0 : -9223372036854775808 ≤ m) (hm9 : m ≤ 9223372036854775807) (he : lensErr l m = true) :
    Calls Tryz.prog 34 #[v, .int .i64 m] w fun e w' => e = .returned (.tuple #[.slice none 0 0, .int .i64 2]) ∧ Ext [] w w' := by
  obtain ⟨hA, ao, cap, rfl, hcap, hcm, hnil⟩ := hv
  obtain ⟨aov, capv, hev, hc⟩ := hA
  injection hev with h1 _ h3
  subst h1 h3
  have HC := Lib.hid hc
  clear hc hcap hcm hnil
  cases ha : l.any fun x => decide (x < 0 ∨ 1099511627776 < x)
  · unfold lensErr at he
    rw [ha, Bool.false_or] at he
    have hd := of_decide_eq_true he
    have HA := Lib.hid (fun x hx => by have h := List.any_eq_false.1 ha x hx; simp at h; omega : ∀ x ∈ l, 0 ≤ x ∧ x ≤ 1099511627776)
    have HSL := Lib.hid (someN_le l)
    have HD := Lib.hid hd
    clear ha he hd
    go_enter Tryz.func34, Tryz.ntmps34
    go_wp2_with fail
    go_loopg [6, 15] l.length (fun g sv iv wr => ∃ k : Nat, g + k = l.length ∧ iv = .int .i64 k ∧ sv = .int .i64 (someN (l.take k) : Nat) ∧ w = wr)
    case atStart => exact ⟨0, by omega, rfl, by simp [someN], rfl⟩
    case round =>
      obtain ⟨k, hk, rfl, rfl, rfl⟩ := hrel
      by_cases hlt : k < l.length
      · obtain ⟨b, off, rfl, hcell⟩ := HC.out (by omega)
        obtain ⟨x, hck⟩ : ∃ x, l[k]? = some x := ⟨_, List.getElem?_eq_getElem hlt⟩
        have d0 := hcell k x hck
        have hxr := HA.out x (List.mem_of_getElem? hck)
        have x1 : ¬ x < 0 := by omega
        have x2 : ¬ (1099511627776 : Int) < x := by omega
        have hs := someN_snoc (l.take k) x
        rw [← ints_take l k x hck] at hs
        have hs9 : someN (l.take k) ≤ 1048576 := by have := someN_le (l.take k); have := List.length_take_le k l; omega
        have HS := Lib.hid hs
        clear HD
        generalize someN (l.take k) = s at *
        clear hcell hck hs
        by_cases h0 : 0 < x
        · have h1 : 1 ≤ x := by omega
          go_wp2_with fail
          all_goals
            go_roundg (l.length - (k + 1))
            case measure => omega
            case rel => exact ⟨k + 1, by omega, by go_num, by (first | rw [HS.out, if_pos h0, show (s : Int) + x = ((s + 1 : Nat) : Int) from by omega] | rw [HS.out, if_pos h0, show (s : Int) + 1 = ((s + 1 : Nat) : Int) from by omega]), rfl⟩
        · obtain rfl : x = 0 := by omega
          go_wp2_with fail
          go_roundg (l.length - (k + 1))
          case measure => omega
          case rel => exact ⟨k + 1, by omega, by go_num, by rw [HS.out, if_neg (by omega)]; simp, rfl⟩
      · obtain rfl : k = l.length := by omega
        rw [List.take_length]
        have hsl := HSL.out
        have hd := HD.out
        generalize someN l = s at *
        clear HC HSL HA HD
        by_cases q0 : 288 < l.length
        · have q0' : (288 : Int) < (l.length : Int) := by omega
          clear hd
          go_wp2_with fail
          exact bodyPost_ret (results_tmp2 rfl _ _ _) rfl ⟨rfl, Ext.refl _ _⟩
        · have q0' : ¬ (288 : Int) < (l.length : Int) := by omega
          by_cases q1 : m < 1
          · clear hd
            go_wp2_with fail
            exact bodyPost_ret (results_tmp2 rfl _ _ _) rfl ⟨rfl, Ext.refl _ _⟩
          · by_cases q2 : 15 < m
            · clear hd
              go_wp2_with fail
              exact bodyPost_ret (results_tmp2 rfl _ _ _) rfl ⟨rfl, Ext.refl _ _⟩
            · obtain ⟨mm, rfl⟩ : ∃ mm : Nat, m = mm := ⟨m.toNat, by omega⟩
              rw [Int.toNat_natCast] at hd
              obtain ⟨t, ht⟩ : ∃ t, 2 ^ mm = t := ⟨_, rfl⟩
              rw [ht] at hd
              have ht9 : t ≤ 32768 := by rw [← ht]; exact Nat.pow_le_pow_right (n := 2) (by omega) (show mm ≤ 15 by omega)
              have hti : (2 : Int) ^ mm = (t : Int) := by rw [← ht]; push_cast; rfl
              have q3 : (t : Int) < (s : Int) := by omega
              clear hd ht
              go_wp2_with fail
              exact bodyPost_ret (results_tmp2 rfl _ _ _) rfl ⟨rfl, Ext.refl _ _⟩
  · clear he
    have HA := Lib.hid ha
    clear ha
    go_enter Tryz.func34, Tryz.ntmps34
    go_wp2_with fail
    go_loopg [6, 15] l.length (fun g sv iv wr => ∃ k s : Nat, g + k = l.length ∧ iv = .int .i64 k ∧ sv = .int .i64 s ∧ s ≤ k ∧ ((l.drop k).any fun x => decide (x < 0 ∨ 1099511627776 < x)) = true ∧ w = wr)
    case atStart => exact ⟨0, 0, by omega, rfl, rfl, Nat.le_refl _, HA.out, rfl⟩
    case round =>
      clear HA
      obtain ⟨k, s, hk, rfl, rfl, hs, ha, rfl⟩ := hrel
      by_cases hlt : k < l.length
      · obtain ⟨b, off, rfl, hcell⟩ := HC.out (by omega)
        obtain ⟨x, hck⟩ : ∃ x, l[k]? = some x := ⟨_, List.getElem?_eq_getElem hlt⟩
        have d0 := hcell k x hck
        have hdr : l.drop k = x :: l.drop (k + 1) := by
          obtain ⟨h1, h2⟩ := List.getElem?_eq_some_iff.1 hck
          rw [List.drop_eq_getElem_cons h1, h2]
        rw [hdr, List.any_cons] at ha
        clear hcell hck hdr
        by_cases hx0 : x < 0
        · clear ha
          go_wp2_with fail
          exact bodyPost_ret (results_tmp2 rfl _ _ _) rfl ⟨rfl, Ext.refl _ _⟩
        · by_cases hx9 : 1099511627776 < x
          · clear ha
            go_wp2_with fail
            exact bodyPost_ret (results_tmp2 rfl _ _ _) rfl ⟨rfl, Ext.refl _ _⟩
          · rw [decide_eq_false (by omega), Bool.false_or] at ha
            have HA := Lib.hid ha
            clear ha
            by_cases h0 : 0 < x
            · have h1 : 1 ≤ x := by omega
              go_wp2_with fail
              all_goals
                go_roundg (l.length - (k + 1))
                case measure => omega
                case rel => exact ⟨k + 1, s + 1, by omega, by go_num, by (first | rw [show (s : Int) + x = ((s + 1 : Nat) : Int) from by omega] | rw [show (s : Int) + 1 = ((s + 1 : Nat) : Int) from by omega]), by omega, HA.out, rfl⟩
            · obtain rfl : x = 0 := by omega
              go_wp2_with fail
              go_roundg (l.length - (k + 1))
              case measure => omega
              case rel => exact ⟨k + 1, s, by omega, by go_num, by (first | rfl | rw [Int.add_zero]), by omega, HA.out, rfl⟩
      · obtain rfl : k = l.length := by omega
        rw [List.drop_length] at ha
        cases ha
end Go.Proofs.YtnapnaaejignaaaGreat.Hu
