/-
  Plain laws of matches: what find tells is the longest, the nearest of those; the pieces of a text make the text.
-/
import Derived.Test.YtngfhnpelchplaaMtM
namespace Go.Proofs.Ytngfhnpelchplaa.Mt
open Go.RowKit

section
variable (s : ByteArray)
theorem longF_ge (a b : Nat) : ∀ k n, n ≤ longF s a b k n
  | 0, n => Nat.le_refl _
  | k + 1, n => by
    rw [longF]
    split
    · exact Nat.le_trans (Nat.le_succ n) (longF_ge a b k (n + 1))
    · exact Nat.le_refl _
theorem longF_same (a b : Nat) : ∀ k n i, n ≤ i → i < longF s a b k n → byteF s (a + i) = byteF s (b + i)
  | 0, n, i, h1, h2 => by rw [longF] at h2; omega
  | k + 1, n, i, h1, h2 => by
    rw [longF] at h2
    split at h2
    · rename_i h
      by_cases hi : i = n
      · rw [hi]; exact h.2.2
      · exact longF_same a b k (n + 1) i (by omega) h2
    · omega
theorem longF_stop (a b : Nat) : ∀ k n, n ≤ 258 → 259 ≤ k + n → ¬ (longF s a b k n < 258 ∧ b + longF s a b k n < s.size ∧ byteF s (a + longF s a b k n) = byteF s (b + longF s a b k n))
  | 0, n, h1, h2 => by omega
  | k + 1, n, h1, h2 => by
    rw [longF]
    split
    · exact longF_stop a b k (n + 1) (by omega) (by omega)
    · assumption
theorem longN_same (a b i : Nat) (h : i < longN s a b) : byteF s (a + i) = byteF s (b + i) := longF_same s a b 259 0 i (Nat.zero_le _) h
theorem longN_stop (a b : Nat) : ¬ (longN s a b < 258 ∧ b + longN s a b < s.size ∧ byteF s (a + longN s a b) = byteF s (b + longN s a b)) := longF_stop s a b 259 0 (by omega) (by omega)
theorem longN_fit (a b : Nat) (h : b ≤ s.size) : b + longN s a b ≤ s.size := longF_fit s a b 259 0 (by omega)
/-- at least so long, if so many bytes are the same -/
theorem longN_ge (a b m : Nat) (hm : m ≤ 258) (hb : b + m ≤ s.size) (h : ∀ i, i < m → byteF s (a + i) = byteF s (b + i)) : m ≤ longN s a b := by
  apply Decidable.byContradiction
  intro hn
  exact longN_stop s a b ⟨by omega, by omega, h _ (by omega)⟩
theorem long3 (f p : Nat) : (p + 3 ≤ s.size ∧ byteF s f = byteF s p ∧ byteF s (f + 1) = byteF s (p + 1) ∧ byteF s (f + 2) = byteF s (p + 2)) → 3 ≤ longN s f p := fun ⟨h0, h1, h2, h3⟩ =>
  longN_ge s f p 3 (by omega) h0 (fun i hi => by
    match i, hi with
    | 0, _ => exact h1
    | 1, _ => exact h2
    | 2, _ => exact h3)
theorem plc_mem (p f : Nat) (h3 : p + 3 ≤ s.size) : f ∈ plc s p (byteF s p) (byteF s (p + 1)) (byteF s (p + 2)) ↔ f < p ∧ 3 ≤ longN s f p := by
  unfold plc
  rw [List.mem_filter, List.mem_range]
  constructor
  · rintro ⟨h1, h2⟩
    have h2 := of_decide_eq_true h2
    exact ⟨h1, long3 s f p ⟨h3, h2.2.1, h2.2.2.1, h2.2.2.2⟩⟩
  · rintro ⟨h1, h2⟩
    refine ⟨h1, decide_eq_true ⟨by omega, ?_, ?_, ?_⟩⟩
    · exact longN_same s f p 0 (by omega)
    · exact longN_same s f p 1 (by omega)
    · exact longN_same s f p 2 (by omega)

/-- the longest, the nearest of those -/
def Fs (p : Nat) (r : Nat × Nat) : Prop :=
  (r = (0, 0) ∧ ∀ b, 1 ≤ b → b ≤ p → b ≤ 32768 → longN s (p - b) p < 3) ∨
  (3 ≤ r.1 ∧ 1 ≤ r.2 ∧ r.2 ≤ p ∧ r.2 ≤ 32768 ∧ longN s (p - r.2) p = r.1 ∧ (∀ b, 1 ≤ b → b ≤ p → b ≤ 32768 → longN s (p - b) p ≤ r.1) ∧ ∀ b, 1 ≤ b → b < r.2 → longN s (p - b) p < r.1)
theorem Fs_unique (p : Nat) (r q : Nat × Nat) (h : Fs s p r) (k : Fs s p q) : r = q := by
  rcases h with ⟨rfl, h⟩ | ⟨h1, h2, h3, h4, h5, h6, h7⟩
  · rcases k with ⟨rfl, _⟩ | ⟨k1, k2, k3, k4, k5, k6, k7⟩
    · rfl
    · have := h q.2 k2 k3 k4; omega
  · rcases k with ⟨rfl, k⟩ | ⟨k1, k2, k3, k4, k5, k6, k7⟩
    · have := k r.2 h2 h3 h4; omega
    · have e1 : r.1 = q.1 := by
        have := h6 q.2 k2 k3 k4
        have := k6 r.2 h2 h3 h4
        omega
      have e2 : r.2 = q.2 := by
        rcases Nat.lt_trichotomy r.2 q.2 with h | h | h
        · have := k7 r.2 h2 h; omega
        · exact h
        · have := h7 q.2 k2 h; omega
      exact Prod.ext e1 e2
structure Good (p : Nat) (l : List Nat) (st : Nat × Nat) : Prop where
  le : st.1 ≤ 258
  best : ∀ f, f < p → 3 ≤ longN s f p → f ∉ l → p - f ≤ 32768 → longN s f p ≤ st.1
  is : st = (0, 0) ∨ (3 ≤ st.1 ∧ 1 ≤ st.2 ∧ st.2 ≤ p ∧ st.2 ≤ 32768 ∧ longN s (p - st.2) p = st.1 ∧ (∀ f, f < p → 3 ≤ longN s f p → f ∉ l → p - f < st.2 → longN s f p < st.1) ∧ ∀ f ∈ l, st.2 < p - f)
  all : ∀ f ∈ l, f < p ∧ 3 ≤ longN s f p
  ord : l.Pairwise (fun a b => b < a)
theorem Good.end_ {p : Nat} {l : List Nat} {st : Nat × Nat} (h : Good s p l st) (hd : st.1 = 258 ∨ ∀ f ∈ l, 32768 < p - f) : Fs s p st := by
  have key : ∀ b, 1 ≤ b → b ≤ p → b ≤ 32768 → 3 ≤ longN s (p - b) p → longN s (p - b) p ≤ st.1 := fun b h1 h2 h3 h4 => by
    by_cases hm : p - b ∈ l
    · rcases hd with hd | hd
      · rw [hd]; exact longN_le s _ _
      · have := hd _ hm; omega
    · exact h.best (p - b) (by omega) h4 hm (by omega)
  rcases h.is with rfl | ⟨k1, k2, k3, k4, k5, k6, k7⟩
  · exact .inl ⟨rfl, fun b h1 h2 h3 => by
      apply Decidable.byContradiction
      intro hn
      have := key b h1 h2 h3 (by omega)
      simp at this
      omega⟩
  · refine .inr ⟨k1, k2, k3, k4, k5, fun b h1 h2 h3 => ?_, fun b h1 h2 => ?_⟩
    · by_cases h4 : 3 ≤ longN s (p - b) p
      · exact key b h1 h2 h3 h4
      · omega
    · by_cases h4 : 3 ≤ longN s (p - b) p
      · refine k6 (p - b) (by omega) h4 (fun hm => ?_) (by omega)
        have := k7 _ hm; omega
      · omega
theorem findL_spec (p : Nat) : ∀ (l : List Nat) (st : Nat × Nat), Good s p l st → Fs s p (findL s p l st)
  | [], st, h => h.end_ s (.inr (by simp))
  | f :: r, st, h => by
    have hf := h.all f (by simp)
    have hr : ∀ g ∈ r, g < f := fun g hg => (List.pairwise_cons.1 h.ord).1 g hg
    rw [findL]
    split
    · rename_i hb
      refine h.end_ s ?_
      rcases hb with hb | hb
      · refine .inr fun g hg => ?_
        rcases List.mem_cons.1 hg with rfl | hg
        · exact hb
        · have := hr g hg; omega
      · exact .inl hb
    · rename_i hb
      have h1 : p - f ≤ 32768 := by omega
      refine findL_spec p r _ ⟨?_, ?_, ?_, fun g hg => h.all g (by simp [hg]), (List.pairwise_cons.1 h.ord).2⟩
      · split
        · exact longN_le s _ _
        · exact h.le
      · intro g hg1 hg2 hg3 hg4
        by_cases hgf : g = f
        · subst hgf
          split <;> (try simp only) <;> omega
        · have := h.best g hg1 hg2 (by simp [hgf, hg3]) hg4
          split <;> (try simp only) <;> omega
      · split
        · rename_i hlt
          refine .inr ⟨hf.2, by simp; omega, by simp, by simp; omega, by simp; rw [show p - (p - f) = f by omega], fun g hg1 hg2 hg3 hg4 => ?_, fun g hg => ?_⟩
          · have hgf : g ≠ f := fun e => by subst e; simp at hg4
            have := h.best g hg1 hg2 (by simp [hgf, hg3]) (by simp at hg4; omega)
            simp; omega
          · have := hr g hg
            have := (h.all g (by simp [hg])).1
            simp; omega
        · rename_i hlt
          rcases h.is with h0 | ⟨k1, k2, k3, k4, k5, k6, k7⟩
          · rw [h0] at hlt; simp at hlt; omega
          · refine .inr ⟨k1, k2, k3, k4, k5, fun g hg1 hg2 hg3 hg4 => ?_, fun g hg => k7 g (by simp [hg])⟩
            by_cases hgf : g = f
            · subst hgf
              have := k7 g (by simp)
              omega
            · exact k6 g hg1 hg2 (by simp [hgf, hg3]) hg4
theorem findN_spec (p : Nat) (hp : p ≤ s.size) : Fs s p (findN s p) := by
  unfold findN
  split
  · rename_i h3
    refine findL_spec s p _ _ ⟨by simp, fun f h1 h2 h3' _ => ?_, .inl rfl, fun f hf => ?_, ?_⟩
    · exact absurd (List.mem_reverse.2 ((plc_mem s p f h3).2 ⟨h1, h2⟩)) h3'
    · exact (plc_mem s p f h3).1 (List.mem_reverse.1 hf)
    · rw [List.pairwise_reverse]
      unfold plc
      exact List.Pairwise.filter _ List.pairwise_lt_range
  · rename_i h3
    refine .inl ⟨rfl, fun b _ _ _ => ?_⟩
    have := longN_fit s (p - b) p hp
    omega
/-- the reference's way: every distance, the nearest first -/
def rfF (p : Nat) : Nat → Nat → Nat × Nat → Nat × Nat
  | 0, _, st => st
  | k + 1, b, st => if b ≤ p ∧ b ≤ 32768 then rfF p k (b + 1) (if st.1 < longN s (p - b) p then (longN s (p - b) p, b) else st) else st
def rfN (p : Nat) : Nat × Nat := if (rfF s p (p + 1) 1 (0, 0)).1 < 3 then (0, 0) else rfF s p (p + 1) 1 (0, 0)
structure GoodR (p b : Nat) (st : Nat × Nat) : Prop where
  best : ∀ c, 1 ≤ c → c < b → c ≤ p → c ≤ 32768 → longN s (p - c) p ≤ st.1
  is : st.1 = 0 ∨ (1 ≤ st.2 ∧ st.2 < b ∧ st.2 ≤ p ∧ st.2 ≤ 32768 ∧ longN s (p - st.2) p = st.1 ∧ ∀ c, 1 ≤ c → c < st.2 → longN s (p - c) p < st.1)
theorem rfF_spec (p : Nat) : ∀ k b st, 1 ≤ b → p < b + k → GoodR s p b st → GoodR s p (p + 32769) (rfF s p k b st)
  | 0, b, st, h0, hk, h => by
    rw [rfF]
    exact ⟨fun c h1 h2 h3 h4 => h.best c h1 (by omega) h3 h4, h.is.imp id fun ⟨k1, k2, k3, k4, k5⟩ => ⟨k1, by omega, k3, k4, k5⟩⟩
  | k + 1, b, st, h0, hk, h => by
    rw [rfF]
    split
    · rename_i hb
      refine rfF_spec p k (b + 1) _ (by omega) (by omega) ⟨fun c h1 h2 h3 h4 => ?_, ?_⟩
      · by_cases hc : c = b
        · subst hc
          split <;> (try simp only) <;> omega
        · have := h.best c h1 (by omega) h3 h4
          split <;> (try simp only) <;> omega
      · split
        · rename_i hlt
          refine .inr ⟨h0, by simp, hb.1, hb.2, rfl, fun c h1 h2 => ?_⟩
          have := h.best c h1 h2 (by simp at h2; omega) (by simp at h2; omega)
          simp; omega
        · exact h.is.imp id fun ⟨k1, k2, k3, k4, k5⟩ => ⟨k1, by omega, k3, k4, k5⟩
    · rename_i hb
      exact ⟨fun c h1 h2 h3 h4 => h.best c h1 (by omega) h3 h4, h.is.imp id fun ⟨k1, k2, k3, k4, k5⟩ => ⟨k1, by omega, k3, k4, k5⟩⟩
theorem rfN_spec (p : Nat) : Fs s p (rfN s p) := by
  have h := rfF_spec s p (p + 1) 1 (0, 0) (by omega) (by omega) ⟨fun c h1 h2 => by omega, .inl rfl⟩
  unfold rfN
  generalize rfF s p (p + 1) 1 (0, 0) = r at *
  split
  · refine .inl ⟨rfl, fun b h1 h2 h3 => ?_⟩
    have := h.best b h1 (by omega) h2 h3
    omega
  · rcases h.is with h0 | ⟨k1, k2, k3, k4, k5, k6⟩
    · omega
    · exact .inr ⟨by omega, k1, k3, k4, k5, fun b h1 h2 h3 => h.best b h1 (by omega) h2 h3, k6⟩
theorem rfN_eq (p : Nat) (hp : p ≤ s.size) : rfN s p = findN s p := Fs_unique s p _ _ (rfN_spec s p) (findN_spec s p hp)
/-- what find tells, told anew -/
theorem findN_cases (p : Nat) (hp : p ≤ s.size) : findN s p = (0, 0) ∨ (3 ≤ (findN s p).1 ∧ (findN s p).1 ≤ 258 ∧ p + (findN s p).1 ≤ s.size ∧ 1 ≤ (findN s p).2 ∧ (findN s p).2 ≤ p ∧ (findN s p).2 ≤ 32768 ∧ ∀ i, i < (findN s p).1 → byteF s (p - (findN s p).2 + i) = byteF s (p + i)) := by
  rcases findN_spec s p hp with ⟨h, _⟩ | ⟨h1, h2, h3, h4, h5, _, _⟩
  · exact .inl h
  · exact .inr ⟨h1, by rw [← h5]; exact longN_le s _ _, by rw [← h5]; exact longN_fit s _ _ hp, h2, h3, h4, fun i hi => longN_same s _ _ i (by rw [h5]; exact hi)⟩

/-! ### the pieces of a text -/
theorem take_one (p : Nat) (h : p < s.size) : (B s).take p ++ [byteF s p] = (B s).take (p + 1) := by
  rw [List.take_succ_eq_append_getElem (by rw [B_len]; exact h)]
  unfold byteF
  rw [List.getD_eq_getElem?_getD, List.getElem?_eq_getElem (by rw [B_len]; exact h)]
  rfl
theorem repF_take (d : Nat) (h1 : 1 ≤ d) : ∀ m p, d ≤ p → p + m ≤ s.size → (∀ i, i < m → byteF s (p - d + i) = byteF s (p + i)) → repF d m ((B s).take p) = (B s).take (p + m)
  | 0, p, _, _, _ => rfl
  | m + 1, p, hd, hm, h => by
    have hl : ((B s).take p).length = p := by rw [List.length_take, B_len]; omega
    have e : ((B s).take p).getD (((B s).take p).length - d) 0 = byteF s p := by
      rw [hl]
      have h0 := h 0 (by omega)
      rw [Nat.add_zero, Nat.add_zero] at h0
      rw [← h0]
      unfold byteF
      rw [List.getD_eq_getElem?_getD, List.getD_eq_getElem?_getD, List.getElem?_take_of_lt (by omega)]
    rw [repF, e, take_one s p (by omega), repF_take d h1 m (p + 1) (by omega) (by omega) (fun i hi => ?_), show p + 1 + m = p + (m + 1) by omega]
    have := h (i + 1) (by omega)
    rw [show p + 1 - d + i = p - d + (i + 1) by omega, show p + 1 + i = p + (i + 1) by omega]
    exact this
theorem all_exp : ∀ k p, p ≤ s.size → s.size < p + k → expL (allF s k p) ((B s).take p) = B s
  | 0, p, h1, h2 => by omega
  | k + 1, p, h1, h2 => by
    rw [allF]
    by_cases hp : p < s.size
    · rw [if_pos hp]
      rcases findN_cases s p h1 with h | ⟨c1, c2, c3, c4, c5, c6, c7⟩
      · rw [h, if_neg (by simp), expL, if_pos rfl, take_one s p hp]
        exact all_exp k (p + 1) (by omega) (by omega)
      · rw [if_pos (by omega), expL, if_neg (by simp; omega)]
        simp only [Int.toNat_natCast]
        rw [repF_take s _ c4 _ p c5 c3 c7]
        exact all_exp k _ c3 (by omega)
    · rw [if_neg hp, expL, List.take_of_length_le (by rw [B_len]; omega)]
theorem all_may : ∀ k p, p ≤ s.size → badN (allF s k p) = false
  | 0, p, h1 => rfl
  | k + 1, p, h1 => by
    rw [allF]
    by_cases hp : p < s.size
    · rw [if_pos hp]
      rcases findN_cases s p h1 with h | ⟨c1, c2, c3, c4, c5, c6, c7⟩
      · rw [h, if_neg (by simp)]
        unfold badN
        rw [List.any_cons, Bool.or_eq_false_iff]
        exact ⟨rfl, all_may k (p + 1) (by omega)⟩
      · rw [if_pos (by omega)]
        unfold badN
        rw [List.any_cons, Bool.or_eq_false_iff]
        refine ⟨?_, all_may k _ c3⟩
        unfold mayP mayB
        rw [if_neg (by simp; omega)]
        simp
        omega
    · rw [if_neg hp]; rfl
theorem all_chk : ∀ k p, p ≤ s.size → chkL (allF s k p) p = 0
  | 0, p, h1 => rfl
  | k + 1, p, h1 => by
    rw [allF]
    by_cases hp : p < s.size
    · rw [if_pos hp]
      rcases findN_cases s p h1 with h | ⟨c1, c2, c3, c4, c5, c6, c7⟩
      · rw [h, if_neg (by simp), chkL, if_neg (by simp)]
        show chkL (allF s k (p + 1)) ((p : Int) + max 1 0) = 0
        rw [show (p : Int) + max 1 0 = ((p + 1 : Nat) : Int) from by omega]
        exact all_chk k (p + 1) (by omega)
      · rw [if_pos (by omega), chkL, if_neg (by simp; omega)]
        have := all_chk k _ c3
        simp only
        rw [Int.max_eq_right (by omega)]
        exact_mod_cast this
    · rw [if_neg hp]; rfl
theorem all_sum : ∀ k p, p ≤ s.size → s.size < p + k → sumL (allF s k p) p = s.size
  | 0, p, h1, h2 => by omega
  | k + 1, p, h1, h2 => by
    rw [allF]
    by_cases hp : p < s.size
    · rw [if_pos hp]
      rcases findN_cases s p h1 with h | ⟨c1, c2, c3, c4, c5, c6, c7⟩
      · rw [h, if_neg (by simp), sumL]
        show sumL (allF s k (p + 1)) ((p : Int) + max 1 0) = s.size
        rw [show (p : Int) + max 1 0 = ((p + 1 : Nat) : Int) from by omega]
        exact all_sum k (p + 1) (by omega) (by omega)
      · rw [if_pos (by omega), sumL]
        have := all_sum k _ c3 (by omega)
        simp only
        rw [Int.max_eq_right (by omega)]
        exact_mod_cast this
    · rw [if_neg hp, sumL]; omega
theorem allN_chk : chkN (allN s) = 0 := by
  unfold chkN allN
  rw [all_may s _ 0 (by omega)]
  exact all_chk s _ 0 (by omega)
theorem allN_siz : sizN (allN s) = s.size := by
  unfold sizN
  rw [if_pos (allN_chk s)]
  exact all_sum s _ 0 (by omega) (by omega)
theorem allN_sum : sumL (allN s) 0 = s.size := all_sum s _ 0 (by omega) (by omega)
theorem allN_exp : expL (allN s) [] = B s := all_exp s _ 0 (by omega) (by omega)
end
end Go.Proofs.Ytngfhnpelchplaa.Mt
