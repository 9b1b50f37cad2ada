/-
  Plain: reading a code by counts is reading it by search; what is written is read.
-/
import Derived.Test.YtgjenpdppobpkaaHwD
import Derived.Test.YtgjenpdppobpkaaPkI
namespace Go.Proofs.Ytgjenpdppobpkaa.Hu

/-! ### symbols by length -/
theorem symF_spec (n : Nat) : ∀ (l : List Int) (i0 q s : Nat), (symF l i0 (n : Int))[q]? = some s ↔ i0 ≤ s ∧ l[s - i0]? = some (n : Int) ∧ cntI (l.take (s - i0)) n = q
  | [], i0, q, s => by simp [symF]
  | x :: l, i0, q, s => by
    have ih := fun q => symF_spec n l (i0 + 1) q s
    rw [symF]
    by_cases hx : x = (n : Int)
    · rw [if_pos hx]
      cases q with
      | zero =>
        rw [List.getElem?_cons_zero]
        constructor
        · intro h
          have := Option.some.inj h
          subst this
          exact ⟨Nat.le_refl _, by rw [Nat.sub_self, List.getElem?_cons_zero, hx], by rw [Nat.sub_self]; rfl⟩
        · rintro ⟨h1, h2, h3⟩
          by_cases hs : s = i0
          · rw [hs]
          · rw [show s - i0 = (s - (i0 + 1)) + 1 by omega, List.take_succ_cons] at h3
            unfold cntI at h3
            rw [List.countP_cons, decide_eq_true hx] at h3
            simp at h3
      | succ q =>
        rw [List.getElem?_cons_succ, ih q]
        constructor
        · rintro ⟨h1, h2, h3⟩
          refine ⟨by omega, by rw [show s - i0 = (s - (i0 + 1)) + 1 by omega, List.getElem?_cons_succ]; exact h2, ?_⟩
          rw [show s - i0 = (s - (i0 + 1)) + 1 by omega, List.take_succ_cons]
          unfold cntI at h3 ⊢
          rw [List.countP_cons, decide_eq_true hx, h3]
          rfl
        · rintro ⟨h1, h2, h3⟩
          by_cases hs : s = i0
          · subst hs
            rw [Nat.sub_self] at h3
            simp [cntI] at h3
          · rw [show s - i0 = (s - (i0 + 1)) + 1 by omega] at h2 h3
            rw [List.getElem?_cons_succ] at h2
            rw [List.take_succ_cons] at h3
            unfold cntI at h3 ⊢
            rw [List.countP_cons, decide_eq_true hx] at h3
            exact ⟨by omega, h2, by simpa using h3⟩
    · rw [if_neg hx, ih q]
      constructor
      · rintro ⟨h1, h2, h3⟩
        refine ⟨by omega, by rw [show s - i0 = (s - (i0 + 1)) + 1 by omega, List.getElem?_cons_succ]; exact h2, ?_⟩
        rw [show s - i0 = (s - (i0 + 1)) + 1 by omega, List.take_succ_cons]
        unfold cntI at h3 ⊢
        rw [List.countP_cons, decide_eq_false hx, h3]
        rfl
      · rintro ⟨h1, h2, h3⟩
        by_cases hs : s = i0
        · subst hs
          rw [Nat.sub_self, List.getElem?_cons_zero] at h2
          exact absurd (Option.some.inj h2) hx
        · rw [show s - i0 = (s - (i0 + 1)) + 1 by omega] at h2 h3
          rw [List.getElem?_cons_succ] at h2
          rw [List.take_succ_cons] at h3
          unfold cntI at h3 ⊢
          rw [List.countP_cons, decide_eq_false hx] at h3
          exact ⟨by omega, h2, by simpa using h3⟩
theorem symT_at (l : List Int) : ∀ (g k j q : Nat), 0 < k → j < g → q < cntI l (k + j) → (symT l k g)[sumF (cntF l) k j + q]? = (symF l 0 ((k + j : Nat) : Int))[q]?
  | 0, k, j, q, _, h, _ => by omega
  | g + 1, k, j, q, hk, hj, hq => by
    rw [symT]
    cases j with
    | zero =>
      rw [sumF, Nat.zero_add, Nat.add_zero] at *
      rw [List.getElem?_append_left (by rw [symF_cnt]; exact hq)]
      rfl
    | succ j =>
      have ih := symT_at l g (k + 1) j q (by omega) (by omega) (by rw [show k + 1 + j = k + (j + 1) by omega]; exact hq)
      rw [sumF]
      have e : (symF l 0 (k : Int)).length = cntF l k := by rw [symF_cnt]; unfold cntF; rw [if_neg (by omega)]
      rw [List.getElem?_append_right (by rw [e]; omega), e, show cntF l k + sumF (cntF l) (k + 1) j + q - cntF l k = sumF (cntF l) (k + 1) j + q by omega, ih, show k + 1 + j = k + (j + 1) by omega]
/-- the document's search: the first symbol of this length and code -/
def fndD (l : List Int) (n code : Nat) : Option Nat := (List.range l.length).find? fun i => decide (l.getD i 0 = (n : Int) ∧ (codesN l).getD i 0 = code)
theorem fnd_spec (l : List Int) (n q : Nat) (hn : 0 < n) : fndD l n (nxN (cntF l) n + q) = if q < cntF l n then (symF l 0 (n : Int))[q]? else none := by
  have hc : cntF l n = cntI l n := by unfold cntF; rw [if_neg (by omega)]
  have key : ∀ i, i < l.length → (l.getD i 0 = (n : Int) ∧ (codesN l).getD i 0 = nxN (cntF l) n + q ↔ (symF l 0 (n : Int))[q]? = some i) := fun i hi => by
    rw [symF_spec, Nat.sub_zero]
    have hg : l[i]? = some (l.getD i 0) := by rw [List.getD_eq_getElem?_getD, List.getElem?_eq_getElem hi]; rfl
    constructor
    · rintro ⟨h1, h2⟩
      rw [codesN_at l i hi, h1, if_pos (by omega), Int.toNat_natCast] at h2
      exact ⟨Nat.zero_le _, by rw [hg, h1], by omega⟩
    · rintro ⟨_, h1, h2⟩
      rw [hg] at h1
      have h1 := Option.some.inj h1
      exact ⟨h1, by rw [codesN_at l i hi, h1, if_pos (by omega), Int.toNat_natCast, h2]⟩
  by_cases hq : q < cntF l n
  · rw [if_pos hq]
    obtain ⟨s, hs⟩ : ∃ s, (symF l 0 (n : Int))[q]? = some s := ⟨_, List.getElem?_eq_getElem (by rw [symF_cnt]; omega)⟩
    have hsl : s < l.length := by
      have := (symF_spec n l 0 q s).1 hs
      rw [Nat.sub_zero] at this
      exact (List.getElem?_eq_some_iff.1 this.2.1).1
    rw [hs]
    unfold fndD
    cases hf : (List.range l.length).find? fun i => decide (l.getD i 0 = (n : Int) ∧ (codesN l).getD i 0 = nxN (cntF l) n + q) with
    | none =>
      have := List.find?_eq_none.1 hf s (List.mem_range.2 hsl)
      simp only [decide_eq_true_eq] at this
      exact absurd ((key s hsl).2 hs) this
    | some i =>
      have h1 := List.find?_some hf
      have h2 := List.mem_range.1 (List.mem_of_find?_eq_some hf)
      have h3 := (key i h2).1 (of_decide_eq_true h1)
      rw [hs] at h3
      exact h3.symm
  · rw [if_neg hq]
    unfold fndD
    rw [List.find?_eq_none]
    intro i hi h
    have hil := List.mem_range.1 hi
    have h1 := (key i hil).1 (of_decide_eq_true h)
    have := (List.getElem?_eq_some_iff.1 h1).1
    rw [symF_cnt] at this
    omega
theorem fnd_low (l : List Int) (n code : Nat) (hn : 0 < n) (h : code < nxN (cntF l) n) : fndD l n code = none := by
  unfold fndD
  rw [List.find?_eq_none]
  intro i hi hd
  have hil := List.mem_range.1 hi
  obtain ⟨h1, h2⟩ := of_decide_eq_true hd
  rw [codesN_at l i hil, h1, if_pos (by omega), Int.toNat_natCast] at h2
  omega
/-- the document's way of reading -/
def rdD (l : List Int) (bt : Nat → Nat) (N : Nat) : Nat → Nat → Nat → Nat → Nat × Int × Nat
  | 0, _, _, p => (0, 4, p)
  | g + 1, k, code, p => if p < N then (match fndD l k (2 * code + bt p) with
      | some s => (s, 0, p + 1)
      | none => rdD l bt N g (k + 1) (2 * code + bt p) (p + 1)) else (0, 8, p)
theorem rd_same (l : List Int) (bt : Nat → Nat) (N : Nat) : ∀ (g k d p : Nat), 0 < k → k + g = 16 → rdF (cntF l) (symsN l) bt N g k d (sumF (cntF l) 1 (k - 1)) p = rdD l bt N g k (nxN (cntF l) k / 2 + d) p
  | 0, k, d, p, _, _ => rfl
  | g + 1, k, d, p, hk, hg => by
    rw [rdF, rdD]
    by_cases hp : p < N
    · rw [if_pos hp, if_pos hp]
      have he : 2 * (nxN (cntF l) k / 2 + d) + bt p = nxN (cntF l) k + (2 * d + bt p) := by
        have : 2 * (nxN (cntF l) k / 2) = nxN (cntF l) k := by
          obtain ⟨j, rfl⟩ : ∃ j, k = j + 1 := ⟨k - 1, by omega⟩
          rw [nxN]; omega
        omega
      rw [he, fnd_spec l k _ hk]
      by_cases hq : 2 * d + bt p < cntF l k
      · rw [if_pos hq, if_pos hq]
        have hc : cntF l k = cntI l k := by unfold cntF; rw [if_neg (by omega)]
        have h1 := symT_at l 15 1 (k - 1) (2 * d + bt p) (by omega) (by omega) (by rw [show 1 + (k - 1) = k by omega]; omega)
        rw [show 1 + (k - 1) = k by omega] at h1
        obtain ⟨s, hs⟩ : ∃ s, (symF l 0 (k : Int))[2 * d + bt p]? = some s := ⟨_, List.getElem?_eq_getElem (by rw [symF_cnt]; omega)⟩
        rw [hs]
        unfold symsN
        rw [List.getD_eq_getElem?_getD, h1, hs]
        rfl
      · rw [if_neg hq, if_neg hq]
        have h2 := rd_same l bt N g (k + 1) (2 * d + bt p - cntF l k) (p + 1) (by omega) (by omega)
        have hs : sumF (cntF l) 1 (k + 1 - 1) = sumF (cntF l) 1 (k - 1) + cntF l k := by
          obtain ⟨j, rfl⟩ : ∃ j, k = j + 1 := ⟨k - 1, by omega⟩
          rw [Nat.add_sub_cancel, Nat.add_sub_cancel]
          have gen : ∀ (j a : Nat), sumF (cntF l) a (j + 1) = sumF (cntF l) a j + cntF l (a + j) := by
            intro j
            induction j with
            | zero => intro a; simp [sumF]
            | succ j ih => intro a; rw [sumF, ih (a + 1), sumF, show a + 1 + j = a + (j + 1) by omega]; omega
          rw [gen j 1, show 1 + j = j + 1 by omega]
        rw [hs] at h2
        rw [h2]
        have hn : nxN (cntF l) (k + 1) / 2 = nxN (cntF l) k + cntF l k := by rw [nxN]; omega
        rw [hn, show nxN (cntF l) k + cntF l k + (2 * d + bt p - cntF l k) = nxN (cntF l) k + (2 * d + bt p) by omega]
    · rw [if_neg hp, if_neg hp]
theorem read_doc (l : List Int) (bt : Nat → Nat) (N p : Nat) : readN l bt N p = rdD l bt N 15 1 0 p := by
  have h := rd_same l bt N 15 1 0 p (by omega) (by omega)
  have e : nxN (cntF l) 1 / 2 + 0 = 0 := by simp [nxN, cntF]
  rw [e] at h
  exact h
/-! ### what is written is read -/
theorem read_code (l : List Int) (bt : Nat → Nat) (N : Nat) (s n c p : Nat) (hs : l[s]? = some (n : Int)) (hn : 0 < n) (hn15 : n ≤ 15) (hc : (codesN l)[s]? = some c) (hN : p + n ≤ N) (hk : kra l ≤ 32768) (hb : ∀ j, j < n → bt (p + j) = c / 2 ^ (n - 1 - j) % 2) :
    readN l bt N p = (s, 0, p + n) := by
  rw [read_doc]
  have hcn := codesN_get l s n hs (by omega)
  rw [hc, Int.toNat_natCast] at hcn
  have hcn := Option.some.inj hcn
  have hlt := cnt_lt l s n hs (by omega)
  rw [Int.toNat_natCast] at hlt
  have htop : c / 2 ^ n = 0 := by
    have h1 : c < 2 ^ n := by
      have := nxN_le (cntF l) hk n hn15
      omega
    exact Nat.div_eq_of_lt h1
  have step : ∀ (j : Nat), j < n → ∀ g, g + 1 + j = 15 → rdD l bt N (g + 1) (j + 1) (c / 2 ^ (n - j)) (p + j) = if j + 1 = n then (s, 0, p + n) else rdD l bt N g (j + 2) (c / 2 ^ (n - (j + 1))) (p + (j + 1)) := by
    intro j hj g hg
    rw [rdD, if_pos (by omega), hb j hj]
    have e : 2 * (c / 2 ^ (n - j)) + c / 2 ^ (n - 1 - j) % 2 = c / 2 ^ (n - (j + 1)) := by
      have e1 : n - j = (n - (j + 1)) + 1 := by omega
      have e2 : n - 1 - j = n - (j + 1) := by omega
      rw [e1, e2, Nat.pow_succ, ← Nat.div_div_eq_div_mul]
      omega
    rw [e]
    by_cases hjn : j + 1 = n
    · rw [if_pos hjn]
      subst hjn
      rw [Nat.sub_self, Nat.pow_zero, Nat.div_one, hcn, fnd_spec l (j + 1) _ (by omega), if_pos hlt]
      have : (symF l 0 ((j + 1 : Nat) : Int))[cntI (l.take s) (j + 1)]? = some s := (symF_spec (j + 1) l 0 _ s).2 ⟨Nat.zero_le _, by rw [Nat.sub_zero]; exact hs, by rw [Nat.sub_zero]⟩
      rw [this]
      rfl
    · rw [if_neg hjn]
      have hfar := nxN_far (cntF l) (j + 1) (n - (j + 1) - 1)
      rw [show j + 1 + 1 + (n - (j + 1) - 1) = n by omega] at hfar
      have hge : nxN (cntF l) (j + 1) + cntF l (j + 1) ≤ c / 2 ^ (n - (j + 1)) := by
        rw [Nat.le_div_iff_mul_le (Nat.pow_pos (by omega))]
        have e3 : 2 ^ (n - (j + 1) - 1) * (2 * (nxN (cntF l) (j + 1) + cntF l (j + 1))) = (nxN (cntF l) (j + 1) + cntF l (j + 1)) * 2 ^ (n - (j + 1)) := by
          rw [show n - (j + 1) = (n - (j + 1) - 1) + 1 by omega, Nat.pow_succ, Nat.add_sub_cancel, ← Nat.mul_assoc, Nat.mul_comm]
        rw [e3] at hfar
        omega
      obtain ⟨q, hq⟩ : ∃ q, c / 2 ^ (n - (j + 1)) = nxN (cntF l) (j + 1) + q := ⟨c / 2 ^ (n - (j + 1)) - nxN (cntF l) (j + 1), by omega⟩
      rw [hq, fnd_spec l (j + 1) q (by omega), if_neg (by omega)]
      rw [show p + j + 1 = p + (j + 1) by omega]
  have run : ∀ (m j g : Nat), m + j = n → 0 < m → g + j = 15 → rdD l bt N g (j + 1) (c / 2 ^ (n - j)) (p + j) = (s, 0, p + n) := by
    intro m
    induction m with
    | zero => intro j g _ h _; omega
    | succ m ih =>
      intro j g hmj _ hg
      obtain ⟨g', rfl⟩ : ∃ g', g = g' + 1 := ⟨g - 1, by omega⟩
      rw [step j (by omega) g' (by omega)]
      by_cases hjn : j + 1 = n
      · rw [if_pos hjn]
      · rw [if_neg hjn]
        exact ih (j + 1) g' (by omega) (by omega) (by omega)
  have := run n 0 15 (by omega) hn (by omega)
  rw [Nat.sub_zero, htop] at this
  exact this
end Go.Proofs.Ytgjenpdppobpkaa.Hu
