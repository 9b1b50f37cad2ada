/-
  tree: plain: a value within a tree is a tree: its row cut out.
-/
import Derived.Test.YtkjcjklnclahdaaDoorTsB
namespace Go.Proofs.YtkjcjklnclahdaaDoor.Tr
open Go.RowKit

def bot (T : List Fm) (p : Nat) : Prop := ∃ T1 k, T = T1 ++ [(p, k)]
theorem bot_mem {T : List Fm} {p : Nat} (h : bot T p) : ∃ k, (p, k) ∈ T := by
  obtain ⟨T1, k, rfl⟩ := h
  exact ⟨k, by simp⟩
theorem bot_cons {T : List Fm} {p : Nat} {q : Fm} (h : bot T p) : bot (q :: T) p := by
  obtain ⟨T1, k, rfl⟩ := h
  exact ⟨q :: T1, k, rfl⟩
theorem bot_close (l : List Nd) {p : Nat} : ∀ {T : List Fm}, bot T p → closeT l T ≠ [] → bot (closeT l T) p
  | [], ⟨T1, k, h⟩, _ => by simp at h
  | (a, k) :: T, h, hc => by
    rw [closeT] at hc ⊢
    split
    · exact h
    · rename_i hk
      rw [if_neg hk] at hc
      obtain ⟨T1, k2, h1⟩ := h
      obtain _ | ⟨q, T1⟩ := T1
      · simp at h1
        rw [h1.2] at hc
        exact absurd rfl hc
      · simp at h1
        exact bot_close l ⟨T1, k2, h1.2⟩ hc
theorem bot_come {l : List Nd} {i : Nat} {T Y : List Fm} {p : Nat} (h : bot T p) (hc : comeN l i T = some Y) : bot Y p := by
  obtain ⟨T1, k, rfl⟩ := h
  obtain _ | ⟨⟨a, m⟩, T1⟩ := T1
  · rw [List.nil_append, comeN] at hc
    split at hc
    · split at hc
      · injection hc with hc; exact ⟨[], k + 1, by rw [← hc]; rfl⟩
      · cases hc
    · injection hc with hc; exact ⟨[], k, by rw [← hc]; rfl⟩
  · rw [List.cons_append, comeN] at hc
    split at hc
    · split at hc
      · injection hc with hc; exact ⟨(a, m + 1) :: T1, k, by rw [← hc]; rfl⟩
      · cases hc
    · injection hc with hc; exact ⟨(a, m) :: T1, k, by rw [← hc]; rfl⟩
theorem walk_lens {l : List Nd} : ∀ (g i : Nat) (T : List Fm) (E D : List Int) {T2 : List Fm} {E2 D2 : List Int}, walkN l g i T E D = some (T2, E2, D2) → E2.length = E.length ∧ D2.length = D.length
  | 0, i, T, E, D, T2, E2, D2, h => by
    unfold walkN at h
    injection h with h
    injection h with h1 h2
    injection h2 with h2 h3
    rw [← h2, ← h3]
    exact ⟨rfl, rfl⟩
  | g + 1, i, T, E, D, T2, E2, D2, h => by
    unfold walkN at h
    split at h
    · cases h
    · obtain ⟨h1, h2⟩ := walk_lens g (i + 1) _ _ _ h
      rw [(close_len l i _ E).2.1] at h1
      rw [List.length_set] at h2
      exact ⟨h1, h2⟩
/-- the run of a value within, found in the run of the whole -/
theorem runs_ex {l : List Nd} {U : List Fm} {M : Nat} {n p : Nat} {E2 D2 : List Int} (hM : ∀ x ∈ D2, x ≤ (M : Int)) : ∀ (g i : Nat) (T : List Fm) (E D : List Int), g + i = n → bot T p → p < n → E.length = n → D.length = n → walkN l g i (T ++ U) E D = some ([], E2, D2) →
    ∃ (j g' : Nat) (E' D' : List Int), g' + (j + 1) = n ∧ i ≤ j ∧ Runs l U.length M i T j ∧ walkN l g' (j + 1) (closeN l j U E').1 (closeN l j U E').2 D' = some ([], E2, D2) ∧ E'.getD p 0 = (j : Int) + 1 ∧ E'.length = n ∧ D'.length = n
  | 0, i, T, E, D, _, hb, _, _, _, hw => by
    unfold walkN at hw
    injection hw with hw
    injection hw with h1 _
    obtain ⟨T1, k, rfl⟩ := hb
    simp at h1
  | g + 1, i, T, E, D, hg, hb, hp, hE, hD, hw => by
    have hT : T ≠ [] := by obtain ⟨T1, k, rfl⟩ := hb; simp
    have hw0 := hw
    unfold walkN at hw
    split at hw
    · cases hw
    · rename_i X hc
      obtain ⟨Y, h1, rfl, h3, h4⟩ := come_app hT hc
      have hk := walk_keepD g (i + 1) _ _ _ hw i (by omega)
      rw [List.getD_eq_getElem?_getD, List.getD_eq_getElem?_getD, List.getElem?_set_self (by omega)] at hk
      have hl2 := (walk_lens _ _ _ _ _ hw).2
      rw [List.length_set] at hl2
      have hid : i < D2.length := by omega
      rw [List.getElem?_eq_getElem hid] at hk
      simp only [Option.getD_some, List.length_append] at hk
      have hm := hM _ (List.getElem_mem hid)
      rw [hk] at hm
      have hdep : Y.length + U.length + 1 ≤ M := by omega
      have hbY := bot_come hb h1
      by_cases hcl : closeT l ((i, 0) :: Y) = []
      · obtain ⟨E3, c1, c2, c3, -⟩ := close_app l i U ((i, 0) :: Y) E hcl
        rw [List.cons_append] at c1
        rw [c1] at hw
        refine ⟨i, g, E3, _, by omega, Nat.le_refl _, Runs.last hT h1 hcl hdep, hw, ?_, by rw [c2, hE], by rw [List.length_set, hD]⟩
        obtain ⟨k2, hk2⟩ := bot_mem hbY
        exact c3 p ⟨k2, List.mem_cons_of_mem _ hk2⟩ (by omega)
      · obtain ⟨E3, c1, c2⟩ := close_stop l i U ((i, 0) :: Y) E hcl
        rw [List.cons_append] at c1
        rw [c1] at hw
        obtain ⟨j, g', E', D', r1, r2, r3, r4, r5, r6, r7⟩ := runs_ex hM g (i + 1) _ _ _ (by omega) (bot_close l (bot_cons hbY) hcl) hp (by rw [c2, hE]) (by rw [List.length_set, hD]) hw
        exact ⟨j, g', E', D', r1, by omega, Runs.more hT h1 hcl hdep r3, r4, r5, r6, r7⟩
/-! ### the row cut out -/
def cutN (l : List Nd) (p e : Nat) : List Nd := ((l.take e).drop p).map (moveN (-(p : Int)))
theorem cut_len {l : List Nd} {p e : Nat} (he : e ≤ l.length) : (cutN l p e).length = e - p := by rw [cutN, List.length_map, List.length_drop, List.length_take]; omega
theorem cut_kids {l : List Nd} {p e a : Nat} (he : e ≤ l.length) (h1 : p ≤ a) (h2 : a < e) : kidsAt (cutN l p e) (a - p) = (kidsAt l a).map (· + -(p : Int)) := by
  have hal : a < l.length := by omega
  have hc : (cutN l p e)[a - p]? = some (moveN (-(p : Int)) (l[a]'hal)) := by
    rw [cutN, List.getElem?_map, List.getElem?_drop, List.getElem?_take, if_pos (by omega), show p + (a - p) = a by omega, List.getElem?_eq_getElem hal]
    rfl
  rw [kidsAt, hc, kidsAt, List.getElem?_eq_getElem hal]
  rfl
def uns (p : Nat) (q : Fm) : Fm := (q.1 - p, q.2)
theorem closeT_cut {l : List Nd} {p e : Nat} (he : e ≤ l.length) : ∀ (T : List Fm), (∀ q ∈ T, p ≤ q.1 ∧ q.1 < e) → closeT (cutN l p e) (T.map (uns p)) = (closeT l T).map (uns p)
  | [], _ => rfl
  | (a, k) :: T, h => by
    have ha := h (a, k) (by simp)
    rw [List.map_cons, show uns p (a, k) = (a - p, k) from rfl, closeT, closeT, cut_kids he ha.1 ha.2, List.length_map]
    split
    · rfl
    · exact closeT_cut he T (fun q hq => h q (by simp [hq]))
theorem come_cut {l : List Nd} {p e i : Nat} {T X : List Fm} (he : e ≤ l.length) (hi : p < i) (hT : T ≠ []) (h : ∀ q ∈ T, p ≤ q.1 ∧ q.1 < e) (hc : comeN l i T = some X) : comeN (cutN l p e) (i - p) (T.map (uns p)) = some (X.map (uns p)) := by
  obtain _ | ⟨⟨a, k⟩, T⟩ := T
  · exact absurd rfl hT
  have ha := h (a, k) (by simp)
  rw [comeN, if_pos (by omega)] at hc
  split at hc
  · rename_i hk
    injection hc with hc
    rw [List.map_cons, show uns p (a, k) = (a - p, k) from rfl, comeN, if_pos (by omega), cut_kids he ha.1 ha.2, List.getElem?_map, hk, if_pos (by simp; omega), ← hc]
    rfl
  · cases hc
theorem come_in {l : List Nd} {i e p : Nat} {T X : List Fm} (h : ∀ q ∈ T, p ≤ q.1 ∧ q.1 < e) (hT : T ≠ []) (hc : comeN l i T = some X) : ∀ q ∈ X, p ≤ q.1 ∧ q.1 < e := fun q hq => by
  obtain ⟨Y, h1, h2, -, h4⟩ := come_app (U := []) hT (by rw [List.append_nil]; exact hc)
  rw [List.append_nil] at h2
  subst h2
  obtain ⟨k, hk⟩ := (h4 q.1).1 ⟨q.2, hq⟩
  have := h (q.1, k) hk
  exact this
theorem runs_le {l : List Nd} {u M i j : Nat} {T : List Fm} (h : Runs l u M i T j) : i ≤ j := by
  induction h with
  | last _ _ _ _ => exact Nat.le_refl _
  | more _ _ _ _ _ ih => omega
theorem runs_cut {l : List Nd} {u M p i j : Nat} {T : List Fm} (h : Runs l u M i T j) (hj : j < l.length) (hp : p < i) (hT : ∀ q ∈ T, p ≤ q.1 ∧ q.1 < i) : ∀ (E' D' : List Int), (∀ x ∈ D', x ≤ (M : Int)) →
    ∃ E3 D3, walkN (cutN l p (j + 1)) (j + 1 - i) (i - p) (T.map (uns p)) E' D' = some ([], E3, D3) ∧ ∀ x ∈ D3, x ≤ (M : Int) := by
  induction h with
  | @last i T X h1 h2 h3 h4 =>
    intro E' D' hD
    have hT9 : ∀ q ∈ T, p ≤ q.1 ∧ q.1 < i + 1 := fun q hq => ⟨(hT q hq).1, by have := (hT q hq).2; omega⟩
    have hX := come_in hT9 h1 h2
    have hc := closeT_cut (l := l) (p := p) (e := i + 1) (by omega) ((i, 0) :: X) (fun q hq => by
      rcases List.mem_cons.1 hq with rfl | hq
      · exact ⟨by show p ≤ i; omega, by show i < i + 1; omega⟩
      · exact hX q hq)
    rw [h3] at hc
    rw [show i + 1 - i = 1 by omega, walkN, come_cut (by omega) hp h1 hT9 h2]
    simp only [walkN]
    refine ⟨_, _, by rw [close_fst, show (i - p, 0) :: X.map (uns p) = ((i, 0) :: X).map (uns p) from rfl, hc]; rfl, fun x hx => ?_⟩
    rcases List.mem_or_eq_of_mem_set hx with hx | rfl
    · exact hD x hx
    · rw [List.length_map]; omega
  | @more i j T X h1 h2 h3 h4 h5 ih =>
    intro E' D' hD
    have hij := runs_le h5
    have hT9 : ∀ q ∈ T, p ≤ q.1 ∧ q.1 < j + 1 := fun q hq => ⟨(hT q hq).1, by have := (hT q hq).2; omega⟩
    have hT8 : ∀ q ∈ T, p ≤ q.1 ∧ q.1 < i + 1 := fun q hq => ⟨(hT q hq).1, by have := (hT q hq).2; omega⟩
    have hX := come_in hT9 h1 h2
    have hX8 := come_in hT8 h1 h2
    have hc := closeT_cut (l := l) (p := p) (e := j + 1) (by omega) ((i, 0) :: X) (fun q hq => by
      rcases List.mem_cons.1 hq with rfl | hq
      · exact ⟨by show p ≤ i; omega, by show i < j + 1; omega⟩
      · exact hX q hq)
    obtain ⟨E3, D3, r1, r2⟩ := ih hj (by omega) (fun q hq => by
      rcases List.mem_cons.1 (closeT_sub l _ q hq) with rfl | hq
      · exact ⟨by show p ≤ i; omega, by show i < i + 1; omega⟩
      · exact hX8 q hq) (closeN (cutN l p (j + 1)) (i - p) ((i - p, 0) :: X.map (uns p)) E').2 (D'.set (i - p) (((X.map (uns p)).length : Int) + 1)) (fun x hx => by
      rcases List.mem_or_eq_of_mem_set hx with hx | rfl
      · exact hD x hx
      · rw [List.length_map]; omega)
    refine ⟨E3, D3, ?_, r2⟩
    rw [show j + 1 - i = (j + 1 - (i + 1)) + 1 by omega, walkN, come_cut (by omega) hp h1 hT9 h2]
    simp only []
    rw [close_fst, show (i - p, 0) :: X.map (uns p) = ((i, 0) :: X).map (uns p) from rfl, hc, show i - p + 1 = i + 1 - p by omega]
    exact r1
end Go.Proofs.YtkjcjklnclahdaaDoor.Tr
