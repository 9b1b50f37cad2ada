/-
  tree: plain: where values end, and that each is a tree.
-/
import Derived.Test.YtkjcjklnclahdaaDoorTsC
import Derived.Test.YtkjcjklnclahdaaDoorTrF
namespace Go.Proofs.YtkjcjklnclahdaaDoor.Tr
open Go.RowKit

theorem come_lt {l : List Nd} {i b : Nat} {T U : List Fm} (h : ∀ q ∈ T, q.1 < b) (hc : comeN l i T = some U) : ∀ q ∈ U, q.1 < b := fun q hq => by
  obtain _ | ⟨q0, T⟩ := T
  · rw [comeN] at hc
    split at hc
    · cases hc
    · injection hc with hc; rw [← hc] at hq; cases hq
  · obtain ⟨Y, h1, h2, -, h4⟩ := come_app (T := q0 :: T) (U := []) (by simp) (by rw [List.append_nil]; exact hc)
    rw [List.append_nil] at h2
    subst h2
    obtain ⟨k2, hk2⟩ := (h4 q.1).1 ⟨q.2, hq⟩
    have := h _ hk2
    exact this
theorem not_in {T : List Fm} {p : Nat} (h : ∀ q ∈ T, q.1 < p) : ∀ k, (p, k) ∉ T := fun _ hk => Nat.lt_irrefl _ (h _ hk)
theorem walk_at {l : List Nd} {X : List Fm × List Int × List Int} : ∀ (p g i : Nat) (T : List Fm) (E D : List Int), walkN l (g + p) i T E D = some X → (∀ q ∈ T, q.1 < i) → ∃ T2 E2 D2, walkN l g (i + p) T2 E2 D2 = some X ∧ (∀ q ∈ T2, q.1 < i + p) ∧ E2.length = E.length ∧ D2.length = D.length
  | 0, g, i, T, E, D, h, hT => ⟨T, E, D, h, hT, rfl, rfl⟩
  | p + 1, g, i, T, E, D, h, hT => by
    rw [show g + (p + 1) = (g + p) + 1 by omega, walkN] at h
    split at h
    · cases h
    · rename_i U hc
      have hU := come_lt (b := i) hT hc
      obtain ⟨T2, E2, D2, r1, r2, r3, r4⟩ := walk_at p g (i + 1) _ _ _ h (fun q hq => by
        rw [close_fst] at hq
        rcases List.mem_cons.1 (closeT_sub l _ q hq) with rfl | hq
        · exact Nat.lt_succ_self _
        · exact Nat.lt_succ_of_lt (hU q hq))
      rw [show i + 1 + p = i + (p + 1) by omega] at r1 r2
      rw [(close_len l i _ E).2.1] at r3
      rw [List.length_set] at r4
      exact ⟨T2, E2, D2, r1, r2, r3, r4⟩
theorem value_at {l : List Nd} {M n g p : Nat} {T : List Fm} {E D E2 D2 : List Int} (hM : ∀ x ∈ D2, x ≤ (M : Int)) (hM1 : 1 ≤ M) (hn : l.length = n) (hg : g + 1 + p = n) (hT : ∀ q ∈ T, q.1 < p) (hE : E.length = n) (hD : D.length = n) (hw : walkN l (g + 1) p T E D = some ([], E2, D2)) :
    ∃ (U : List Fm) (j g' : Nat) (E' D' : List Int), comeN l p T = some U ∧ g' + (j + 1) = n ∧ p ≤ j ∧ walkN l g' (j + 1) (closeN l j U E').1 (closeN l j U E').2 D' = some ([], E2, D2) ∧ E2.getD p 0 = (j : Int) + 1 ∧ E'.length = n ∧ D'.length = n ∧ (kidsAt l p = [] → j = p) ∧
      ∃ E3 D3, shapeN (cutN l p (j + 1)) = some (E3, D3) ∧ ∀ x ∈ D3, x ≤ (M : Int) := by
  unfold walkN at hw
  split at hw
  · cases hw
  rename_i U hc
  have hU := come_lt (b := p) hT hc
  have hz : ∀ k x, x ∈ zers k → x ≤ (M : Int) := fun k x hx => by rw [zers] at hx; have := (List.mem_replicate.1 hx).2; omega
  have fin : ∀ (j g' : Nat) (E' D' : List Int), p ≤ j → walkN l g' (j + 1) (closeN l j U E').1 (closeN l j U E').2 D' = some ([], E2, D2) → E2.getD p 0 = E'.getD p 0 := fun j g' E' D' hpj h => by
    rw [walk_keepE _ _ _ _ _ h p (by omega) (fun k hk => not_in hU k (by rw [close_fst] at hk; exact closeT_sub l U _ hk)), close_keep l j U E' p (not_in hU)]
  by_cases hleaf : closeT l [(p, 0)] = []
  · obtain ⟨E3, c1, c2, c3, -⟩ := close_app l p U [(p, 0)] E hleaf
    rw [List.cons_append, List.nil_append] at c1
    rw [c1] at hw
    have hep := c3 p ⟨0, by simp⟩ (by omega)
    have hcl : cutN l p (p + 1) ≠ [] := fun h => by have := cut_len (l := l) (p := p) (e := p + 1) (by omega); rw [h] at this; simp at this
    have hlen : (cutN l p (p + 1)).length = 1 := by rw [cut_len (by omega)]; omega
    have hk0 : kidsAt (cutN l p (p + 1)) 0 = [] := by
      have := cut_kids (l := l) (p := p) (e := p + 1) (a := p) (by omega) (Nat.le_refl _) (by omega)
      rw [Nat.sub_self] at this
      rw [this]
      rw [closeT] at hleaf
      split at hleaf
      · cases hleaf
      · rename_i h0
        rw [List.length_eq_zero_iff.1 (show (kidsAt l p).length = 0 by omega)]; rfl
    refine ⟨U, p, g, E3, _, hc, by omega, Nat.le_refl _, hw, by rw [fin p g E3 _ (Nat.le_refl _) hw]; exact hep, by rw [c2, hE], by rw [List.length_set, hD], fun _ => rfl, ?_⟩
    rw [shapeN_is, hlen]
    have hw1 : walkN (cutN l p (p + 1)) 1 0 [] (zers 1) (zers 1) = some ([], [1], [1]) := by
      rw [walkN, comeN, if_neg (by omega)]
      simp only [walkN, closeN, hk0]
      rfl
    rw [hw1]
    exact ⟨_, _, rfl, fun x hx => by simp at hx; omega⟩
  · have hleaf2 := hleaf
    rw [closeT] at hleaf
    split at hleaf
    case isFalse => exact absurd rfl hleaf
    rename_i h0
    have hst : closeN l p ((p, 0) :: U) E = ((p, 0) :: U, E) := by rw [closeN, if_pos h0]
    rw [hst] at hw
    obtain ⟨j, g', E', D', r1, r2, r3, r4, r5, r6, r7⟩ := runs_ex (U := U) (p := p) hM g (p + 1) [(p, 0)] E _ (by omega) ⟨[], 0, rfl⟩ (by omega) hE (by rw [List.length_set, hD]) hw
    obtain ⟨E3, D3, q1, q2⟩ := runs_cut (p := p) r3 (by omega) (by omega) (fun q hq => by
      obtain rfl : q = (p, 0) := by simpa using hq
      exact ⟨Nat.le_refl _, by show p < p + 1; omega⟩) (zers (j + 1 - p)) ((zers (j + 1 - p)).set 0 1) (fun x hx => by
      rcases List.mem_or_eq_of_mem_set hx with hx | rfl
      · exact hz _ x hx
      · omega)
    refine ⟨U, j, g', E', D', hc, r1, by omega, r4, by rw [fin j g' E' D' (by omega) r4]; exact r5, r6, r7, fun h => by rw [h] at h0; simp at h0, ?_⟩
    have hlen : (cutN l p (j + 1)).length = j + 1 - p := cut_len (by omega)
    have hk0 : 0 < (kidsAt (cutN l p (j + 1)) 0).length := by
      have := cut_kids (l := l) (p := p) (e := j + 1) (a := p) (by omega) (Nat.le_refl _) (by omega)
      rw [Nat.sub_self] at this
      rw [this, List.length_map]
      exact h0
    rw [shapeN_is, hlen]
    have hw1 : walkN (cutN l p (j + 1)) (j + 1 - p) 0 [] (zers (j + 1 - p)) (zers (j + 1 - p)) = some ([], E3, D3) := by
      rw [show j + 1 - p = (j + 1 - (p + 1)) + 1 by omega, walkN, comeN, if_neg (by omega)]
      simp only []
      rw [closeN, if_pos hk0]
      simp only [List.length_nil]
      rw [show j + 1 - (p + 1) + 1 = j + 1 - p by omega]
      rw [show p + 1 - p = 0 + 1 by omega, show [(p, 0)].map (uns p) = [(0, 0)] by simp [uns]] at q1
      exact q1
    rw [hw1, shapeR, if_pos (by omega)]
    exact ⟨_, _, rfl, q2⟩
/-- each kid is where the one before it ends -/
def chainP (E : List Int) : List Int → Int → Int → Prop
  | [], next, e => next = e
  | k :: r, next, e => k = next ∧ chainP E r (E.getD next.toNat 0) e
theorem chain_at {l : List Nd} {M n p : Nat} {U : List Fm} {E2 D2 : List Int} (hM : ∀ x ∈ D2, x ≤ (M : Int)) (hM1 : 1 ≤ M) (hn : l.length = n) (hU : ∀ q ∈ U, q.1 < p) : ∀ (r t g i : Nat) (E D : List Int), t + (r + 1) = (kidsAt l p).length → g + i = n → p < i → E.length = n → D.length = n → walkN l g i ((p, t) :: U) E D = some ([], E2, D2) →
    chainP E2 ((kidsAt l p).drop t) i (E2.getD p 0)
  | r, t, 0, i, E, D, _, _, _, _, _, hw => by
    unfold walkN at hw
    injection hw with hw
    injection hw with h1 _
    cases h1
  | r, t, g + 1, i, E, D, hr, hg, hpi, hE, hD, hw => by
    obtain ⟨X, j, g', E', D', v1, v2, v3, v4, v5, v6, v7, -⟩ := value_at hM hM1 hn hg (fun q hq => by
      rcases List.mem_cons.1 hq with rfl | hq
      · exact hpi
      · have := hU q hq; omega) hE hD hw
    rw [comeN, if_pos (by omega)] at v1
    split at v1
    case isFalse => cases v1
    rename_i hk
    injection v1 with v1
    subst v1
    obtain ⟨ht, hk2⟩ := List.getElem?_eq_some_iff.1 hk
    rw [drop_at _ t ht, chainP]
    refine ⟨hk2, ?_⟩
    rw [Int.toNat_natCast, v5]
    by_cases ht1 : t + 1 < (kidsAt l p).length
    · obtain ⟨r, rfl⟩ : ∃ r', r = r' + 1 := ⟨r - 1, by omega⟩
      have hst : closeN l j ((p, t + 1) :: U) E' = ((p, t + 1) :: U, E') := by rw [closeN, if_pos ht1]
      rw [hst] at v4
      have := chain_at hM hM1 hn hU r (t + 1) g' (j + 1) E' D' (by omega) v2 (by omega) v6 v7 v4
      rw [show ((j + 1 : Nat) : Int) = (j : Int) + 1 by omega] at this
      exact this
    · rw [List.drop_eq_nil_of_le (by omega), chainP]
      have hst : closeN l j ((p, t + 1) :: U) E' = closeN l j U (E'.set p ((j : Int) + 1)) := by rw [closeN, if_neg ht1]
      rw [hst] at v4
      rw [walk_keepE _ _ _ _ _ v4 p (by omega) (fun k hk => not_in hU k (by rw [close_fst] at hk; exact closeT_sub l U _ hk)), close_keep l j U _ p (not_in hU), List.getD_eq_getElem?_getD, List.getElem?_set_self (by omega)]
      rfl
end Go.Proofs.YtkjcjklnclahdaaDoor.Tr
