/-
  Plain: One, Depth by the document are those of tree.
-/
import Derived.Test.YtkaimeogebgofaaGreatDoorPkZ
namespace Go.Proofs.YtkaimeogebgofaaGreatDoor.Tr
open Go.RowKit

theorem moveN_zero (x : Nd) : moveN 0 x = x := by
  obtain ⟨k, n, g, s, K⟩ := x
  have : K.map (· + (0 : Int)) = K := by simp
  show (⟨k, n, g, s, K.map (· + (0 : Int))⟩ : Nd) = _
  rw [this]
theorem moveN_zeros (l : List Nd) : l.map (moveN 0) = l := by
  have : (moveN 0 : Nd → Nd) = id := funext moveN_zero
  rw [this, List.map_id]
theorem one_doc (x : Nd) : oneN x = if checkN [x] ≠ 0 then ([], 2) else ([x], 0) := by
  obtain ⟨k, n, g, s, K⟩ := x
  cases K with
  | nil =>
    have e : shapeN [(⟨k, n, g, s, []⟩ : Nd)] = some ([1], [1]) := rfl
    have hr : risesN [(⟨k, n, g, s, []⟩ : Nd)] none [] = true := rfl
    have hc : checkN [(⟨k, n, g, s, []⟩ : Nd)] = if bareN ⟨k, n, g, s, []⟩ then 0 else 2 := by
      unfold checkN
      rw [e]
      simp [nodeOk, Lib.maxOf, hr]
    rw [oneN, hc]
    cases bareN ⟨k, n, g, s, []⟩ <;> simp
  | cons c r =>
    have e : shapeN [(⟨k, n, g, s, c :: r⟩ : Nd)] = none := by simp [shapeN, walkN, comeN, closeN, kidsAt, zers]
    have hc : checkN [(⟨k, n, g, s, c :: r⟩ : Nd)] = 2 := by
      unfold checkN
      rw [e]
      simp
    rw [oneN, hc]
    simp
theorem rises_names {l : List Nd} : ∀ (K : List Int) (p : Option ByteArray), K.length % 2 = 0 → risesN l p K = true →
    ((evensN K).map (fun k => (ndAt l k).s)).Pairwise ltB ∧ ∀ s, p = some s → ∀ t ∈ (evensN K).map (fun k => (ndAt l k).s), ltB s t
  | [], p, _, _ => by simp [evensN]
  | [k], p, he, _ => by simp at he
  | k :: m :: r, p, he, h => by
    rw [risesN, Bool.and_eq_true, Bool.and_eq_true] at h
    obtain ⟨⟨-, h2⟩, h3⟩ := h
    obtain ⟨i1, i2⟩ := rises_names r _ (by simp only [List.length_cons] at he; omega) h3
    rw [evensN, List.map_cons]
    refine ⟨List.pairwise_cons.2 ⟨fun t ht => i2 _ rfl t ht, i1⟩, fun s hs t ht => ?_⟩
    subst hs
    rw [belowN] at h2
    rcases List.mem_cons.1 ht with rfl | ht
    · exact h2
    · exact ltB_trans h2 (i2 _ rfl t ht)
theorem dict_names {l : List Nd} (h : isN l 8 = true) : (namesN l).Pairwise ltB := by
  obtain ⟨hc, hk⟩ := is_facts h
  obtain ⟨h0, hn, E, D, hsh, hm, hall⟩ := check_zero hc
  have e := ndAt_nat l 0 h0
  rw [show ((0 : Nat) : Int) = 0 from rfl] at e
  have hx := List.all_eq_true.1 hall _ (List.getElem_mem h0)
  rw [← e, nodeOk, hk] at hx
  rw [namesN, if_pos h]
  have hr : risesN l none (ndAt l 0).kids = true := by
    have : (bareN (ndAt l 0) && (false || (decide ((ndAt l 0).kids.length % 2 = 0) && risesN l none (ndAt l 0).kids))) = true := hx
    simp only [Bool.false_or, Bool.and_eq_true] at this
    exact this.2.2
  exact (rises_names _ none (root_even h) hr).1
/-! ### the root ends where the row ends -/
theorem close_root (l : List Nd) (i p : Nat) : ∀ (T : List Fm) (E : List Int), 0 < E.length → (∃ T2, (closeN l i (T ++ [(0, p)]) E).1 = T2 ++ [(0, p)]) ∨ ((closeN l i (T ++ [(0, p)]) E).1 = [] ∧ (closeN l i (T ++ [(0, p)]) E).2.getD 0 0 = (i : Int) + 1)
  | [], E, hE => by
    rw [List.nil_append]
    unfold closeN
    split
    · exact .inl ⟨[], rfl⟩
    · refine .inr ⟨by rw [closeN], ?_⟩
      rw [closeN, List.getD_eq_getElem?_getD, List.getElem?_set_self hE]
      rfl
  | (a, k) :: T, E, hE => by
    rw [List.cons_append]
    unfold closeN
    split
    · exact .inl ⟨(a, k) :: T, rfl⟩
    · exact close_root l i p T _ (by rw [List.length_set]; exact hE)
theorem close_lenE (l : List Nd) (i : Nat) (T : List Fm) (E : List Int) : (closeN l i T E).2.length = E.length := (close_len l i T E).2.1
theorem walk_root (l : List Nd) : ∀ (g i : Nat) (T : List Fm) (E D : List Int), 0 < E.length → (i = 0 ∧ T = [] ∨ 0 < i ∧ (T = [] ∧ E.getD 0 0 = (i : Int) ∨ ∃ T2 p, T = T2 ++ [(0, p)])) →
    ∀ {E2 D2 : List Int}, walkN l g i T E D = some ([], E2, D2) → 0 < g + i → E2.getD 0 0 = ((g + i : Nat) : Int)
  | 0, i, T, E, D, hE, hI, E2, D2, h, hp => by
    rw [walkN] at h
    injection h with h
    injection h with h1 h2
    injection h2 with h2 h3
    subst h1 h2 h3
    rcases hI with ⟨h0, -⟩ | ⟨-, ⟨-, he⟩ | ⟨T2, p, ht⟩⟩
    · omega
    · rw [he, Nat.zero_add]
    · simp at ht
  | g + 1, i, T, E, D, hE, hI, E2, D2, h, hp => by
    rw [walkN] at h
    cases hc : comeN l i T with
    | none => rw [hc] at h; cases h
    | some T2 =>
      rw [hc] at h
      simp only at h
      have key : ∃ T3 p, (i, 0) :: T2 = T3 ++ [(0, p)] := by
        rcases hI with ⟨h0, hT⟩ | ⟨h0, ⟨hT, -⟩ | ⟨T4, p, hT⟩⟩
        · subst h0 hT
          rw [comeN, if_neg (by omega)] at hc
          obtain rfl := Option.some.inj hc
          exact ⟨[], 0, rfl⟩
        · subst hT
          rw [comeN, if_pos h0] at hc
          cases hc
        · subst hT
          cases T4 with
          | nil =>
            rw [List.nil_append, comeN, if_pos h0] at hc
            split at hc
            · obtain rfl := Option.some.inj hc
              exact ⟨[(i, 0)], p + 1, rfl⟩
            · cases hc
          | cons q T4 =>
            obtain ⟨a, k⟩ := q
            rw [List.cons_append, comeN, if_pos h0] at hc
            split at hc
            · obtain rfl := Option.some.inj hc
              exact ⟨(i, 0) :: (a, k + 1) :: T4, p, rfl⟩
            · cases hc
      obtain ⟨T3, p, hk⟩ := key
      have hl := close_lenE l i ((i, 0) :: T2) E
      have hr := close_root l i p T3 E hE
      rw [← hk] at hr
      have := walk_root l g (i + 1) _ _ _ (by rw [hl]; exact hE) (.inr ⟨by omega, by
        rcases hr with ⟨T5, h5⟩ | ⟨h5, h6⟩
        · exact .inr ⟨T5, p, h5⟩
        · exact .inl ⟨h5, by rw [h6]; omega⟩⟩) h (by omega)
      rw [this]
      omega
theorem root_end {l : List Nd} {E D : List Int} (h : shapeN l = some (E, D)) : E.getD 0 0 = (l.length : Int) := by
  obtain ⟨h0, hE, -⟩ := shape_some h
  unfold shapeN at h
  split at h
  · rename_i E2 D2 hw
    rw [if_pos h0] at h
    obtain ⟨rfl, rfl⟩ : E2 = E ∧ D2 = D := by simpa using h
    have := walk_root l l.length 0 [] _ _ (by rw [zers_len]; exact h0) (.inl ⟨rfl, rfl⟩) hw (by omega)
    rw [this]
    rfl
  · cases h
theorem sub_root {l : List Nd} (h : shapeN l ≠ none) : subN l 0 = l := by
  cases hs : shapeN l with
  | none => exact absurd hs h
  | some p =>
    obtain ⟨E, D⟩ := p
    rw [subN, hs]
    show ((l.take (E.getD 0 0).toNat).drop 0).map (moveN (-((0 : Nat) : Int))) = l
    rw [root_end hs, Int.toNat_natCast, List.take_length, List.drop_zero]
    exact moveN_zeros l
/-! ### the deepest, counted from nought -/
theorem walk_deep (l : List Nd) : ∀ (g i : Nat) (T : List Fm) (E D : List Int), (∀ x ∈ D, (0 : Int) ≤ x) → ∀ {T2 : List Fm} {E2 D2 : List Int}, walkN l g i T E D = some (T2, E2, D2) → ∀ x ∈ D2, (0 : Int) ≤ x
  | 0, i, T, E, D, hD, T2, E2, D2, h => by
    rw [walkN] at h
    injection h with h
    injection h with h1 h2
    injection h2 with h2 h3
    subst h3
    exact hD
  | g + 1, i, T, E, D, hD, T2, E2, D2, h => by
    rw [walkN] at h
    cases hc : comeN l i T with
    | none => rw [hc] at h; cases h
    | some T3 =>
      rw [hc] at h
      refine walk_deep l g (i + 1) _ _ _ (fun x hx => ?_) h
      rcases List.mem_or_eq_of_mem_set hx with hx | rfl
      · exact hD x hx
      · omega
theorem deep_max {l : List Nd} {E D : List Int} (h : shapeN l = some (E, D)) : D.foldl max 0 = Lib.maxOf D := by
  obtain ⟨h0, -, hD, -⟩ := shape_some h
  have hne : D ≠ [] := fun e => by rw [e] at hD; simp at hD; omega
  have hpos : ∀ x ∈ D, (0 : Int) ≤ x := by
    unfold shapeN at h
    split at h
    · rename_i E2 D2 hw
      rw [if_pos h0] at h
      obtain ⟨rfl, rfl⟩ : E2 = E ∧ D2 = D := by simpa using h
      exact walk_deep l _ 0 [] _ _ (fun x hx => by rw [zers] at hx; rw [(List.mem_replicate.1 hx).2]; omega) hw
    · cases h
  have h1 : ∀ x ∈ D, x ≤ Lib.maxOf D := fun x hx => le_maxOf hx
  obtain ⟨y, hy⟩ := List.exists_mem_of_ne_nil D hne
  have h2 := foldl_max_le D 0 (Lib.maxOf D) (by have := hpos y hy; have := h1 y hy; omega) h1
  have h3 := maxOf_le hne (foldl_max_ge D 0).2
  omega
/-! ### a dict's value, looked for from the first name on -/
def linF (l : List Nd) (s : ByteArray) : List Int → Option Int
  | k :: m :: r => if (ndAt l k).s = s then some m else linF l s r
  | _ => none
theorem lin_none {l : List Nd} {s : ByteArray} : ∀ K : List Int, s ∉ (evensN K).map (fun k => (ndAt l k).s) → linF l s K = none
  | [], _ => rfl
  | [_], _ => rfl
  | k :: m :: r, h => by
    rw [evensN, List.map_cons, List.mem_cons, not_or] at h
    rw [linF, if_neg (fun e => h.1 e.symm), lin_none r h.2]
theorem lin_at {l : List Nd} {s : ByteArray} : ∀ (K : List Int) (i : Nat), K.length % 2 = 0 → ((evensN K).map (fun k => (ndAt l k).s))[i]? = some s → (∀ j, j < i → ((evensN K).map (fun k => (ndAt l k).s))[j]? ≠ some s) → linF l s K = K[2 * i + 1]?
  | [], i, _, h, _ => by simp [evensN] at h
  | [_], _, he, _, _ => by simp at he
  | k :: m :: r, 0, _, h, _ => by
    rw [evensN, List.map_cons, List.getElem?_cons_zero] at h
    rw [linF, if_pos (Option.some.inj h)]
    rfl
  | k :: m :: r, i + 1, he, h, hn => by
    have h0 := hn 0 (by omega)
    rw [evensN, List.map_cons] at h h0 hn
    rw [List.getElem?_cons_succ] at h
    rw [List.getElem?_cons_zero] at h0
    rw [linF, if_neg (fun e => h0 (by rw [e])), lin_at r i (by simp only [List.length_cons] at he; omega) h (fun j hj => by
      have := hn (j + 1) (by omega)
      rw [List.getElem?_cons_succ] at this
      exact this), show 2 * (i + 1) + 1 = (2 * i + 1) + 1 + 1 by omega, List.getElem?_cons_succ, List.getElem?_cons_succ]
theorem evens_half : ∀ (K : List Int) (i : Nat), i < (evensN K).length → K.length % 2 = 0 → 2 * i + 1 < K.length
  | [], i, h, _ => by simp [evensN] at h
  | [_], _, _, he => by simp at he
  | k :: m :: r, 0, _, _ => by simp
  | k :: m :: r, i + 1, h, he => by
    rw [evensN, List.length_cons] at h
    have := evens_half r i (by omega) (by simp only [List.length_cons] at he; omega)
    simp only [List.length_cons]
    omega
theorem get_doc {l : List Nd} {s : ByteArray} (h : isN l 8 = true) : getN l s = (linF l s (ndAt l 0).kids).map (fun m => subN l m.toNat) := by
  have hnm : namesN l = (evensN (ndAt l 0).kids).map (fun k => (ndAt l k).s) := by rw [namesN, if_pos h]
  have hup := dict_names h
  by_cases hs : s ∈ namesN l
  · obtain ⟨i, hi⟩ := List.getElem?_of_mem hs
    obtain ⟨h1, h2⟩ := find_at hup hi
    have hlt := (List.getElem?_eq_some_iff.1 hi).1
    have hev := root_even h
    have h3 : linF l s (ndAt l 0).kids = (ndAt l 0).kids[2 * i + 1]? := lin_at _ i hev (by rw [← hnm]; exact hi) (fun j hj e => by
      rw [← hnm] at e
      obtain ⟨hj1, hj2⟩ := List.getElem?_eq_some_iff.1 e
      obtain ⟨hi1, hi2⟩ := List.getElem?_eq_some_iff.1 hi
      have := List.pairwise_iff_getElem.1 hup j i hj1 hi1 hj
      rw [hj2, hi2] at this
      exact ltB_irrefl _ this)
    have h4 : 2 * i + 1 < (ndAt l 0).kids.length := evens_half _ i (by rw [hnm, List.length_map] at hlt; exact hlt) hev
    rw [getN, h2, h1, if_pos rfl, h3, List.getElem?_eq_getElem h4, List.getD_eq_getElem?_getD, List.getElem?_eq_getElem h4]
    rfl
  · rw [getN, find_none hs, lin_none _ (by rw [← hnm]; exact hs)]
    rfl
end Go.Proofs.YtkaimeogebgofaaGreatDoor.Tr
