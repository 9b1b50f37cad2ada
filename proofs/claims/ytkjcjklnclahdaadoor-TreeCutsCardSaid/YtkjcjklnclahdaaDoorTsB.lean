/-
  tree: plain: a value within a tree: its run is a run of the tree's own.
-/
import Derived.Test.YtkjcjklnclahdaaDoorTrK
import Derived.Test.YtkjcjklnclahdaaDoorTrG
namespace Go.Proofs.YtkjcjklnclahdaaDoor.Tr
open Go.RowKit

/-- the stack behind closing -/
def closeT (l : List Nd) : List Fm → List Fm
  | [] => []
  | (a, k) :: T => if k < (kidsAt l a).length then (a, k) :: T else closeT l T
theorem close_fst (l : List Nd) (i : Nat) : ∀ (T : List Fm) (E : List Int), (closeN l i T E).1 = closeT l T
  | [], E => rfl
  | (a, k) :: T, E => by
    rw [closeN, closeT]
    split
    · rfl
    · exact close_fst l i T _
/-- closing goes into what lies below where all above is closed -/
theorem closeT_app (l : List Nd) (U : List Fm) : ∀ T : List Fm, closeT l (T ++ U) = if closeT l T = [] then closeT l U else closeT l T ++ U
  | [] => by simp [closeT]
  | (a, k) :: T => by
    rw [List.cons_append, closeT, closeT]
    split
    · simp
    · exact closeT_app l U T
theorem close_app (l : List Nd) (i : Nat) (U : List Fm) : ∀ (T : List Fm) (E : List Int), closeT l T = [] → ∃ E2, closeN l i (T ++ U) E = closeN l i U E2 ∧ E2.length = E.length ∧ (∀ a, (∃ k, (a, k) ∈ T) → a < E.length → E2.getD a 0 = (i : Int) + 1) ∧ ∀ a, (∀ k, (a, k) ∉ T) → E2.getD a 0 = E.getD a 0
  | [], E, _ => ⟨E, rfl, rfl, fun a h _ => (by obtain ⟨k, h⟩ := h; cases h), fun a _ => rfl⟩
  | (b, k) :: T, E, h => by
    rw [closeT] at h
    split at h
    · cases h
    · rename_i hk
      obtain ⟨E2, h1, h2, h3, h4⟩ := close_app l i U T (E.set b ((i : Int) + 1)) h
      refine ⟨E2, by rw [List.cons_append, closeN, if_neg hk]; exact h1, by rw [h2, List.length_set], fun a hx ha => ?_, fun a hm => ?_⟩
      · obtain ⟨k2, hm⟩ := hx
        by_cases hin : ∃ k3, (a, k3) ∈ T
        · exact h3 a hin (by rw [List.length_set]; exact ha)
        · rcases List.mem_cons.1 hm with e | hm
          · injection e with e1 e2
            subst e1
            rw [h4 a (fun k3 h5 => hin ⟨k3, h5⟩), List.getD_eq_getElem?_getD, List.getElem?_set_self ha]
            rfl
          · exact absurd ⟨k2, hm⟩ hin
      · have hne : a ≠ b := fun e => hm k (by rw [e]; simp)
        rw [h4 a (fun k3 h5 => hm k3 (List.mem_cons_of_mem _ h5)), List.getD_eq_getElem?_getD, List.getElem?_set_ne (Ne.symm hne), ← List.getD_eq_getElem?_getD]
theorem close_stop (l : List Nd) (i : Nat) (U : List Fm) : ∀ (T : List Fm) (E : List Int), closeT l T ≠ [] → ∃ E2, closeN l i (T ++ U) E = (closeT l T ++ U, E2) ∧ E2.length = E.length
  | [], E, h => absurd rfl h
  | (b, k) :: T, E, h => by
    rw [closeT] at h
    split at h
    · rename_i hk
      exact ⟨E, by rw [List.cons_append, closeN, if_pos hk, closeT, if_pos hk]; rfl, rfl⟩
    · rename_i hk
      obtain ⟨E2, h1, h2⟩ := close_stop l i U T (E.set b ((i : Int) + 1)) h
      exact ⟨E2, by rw [List.cons_append, closeN, if_neg hk, closeT, if_neg hk]; exact h1, by rw [h2, List.length_set]⟩
/-- the run of a value within: from the node i on, with its own stack T (what lies below is left alone) to the node j, behind which that stack is empty; no node stands deeper than M -/
inductive Runs (l : List Nd) (u M : Nat) : Nat → List Fm → Nat → Prop
  | last {i : Nat} {T X : List Fm} : T ≠ [] → comeN l i T = some X → closeT l ((i, 0) :: X) = [] → X.length + u + 1 ≤ M → Runs l u M i T i
  | more {i j : Nat} {T X : List Fm} : T ≠ [] → comeN l i T = some X → closeT l ((i, 0) :: X) ≠ [] → X.length + u + 1 ≤ M → Runs l u M (i + 1) (closeT l ((i, 0) :: X)) j → Runs l u M i T j
theorem come_app {l : List Nd} {i : Nat} {T U X : List Fm} (hT : T ≠ []) (h : comeN l i (T ++ U) = some X) : ∃ Y, comeN l i T = some Y ∧ X = Y ++ U ∧ Y ≠ [] ∧ ∀ a, (∃ k, (a, k) ∈ Y) ↔ ∃ k, (a, k) ∈ T := by
  obtain _ | ⟨⟨a, k⟩, T⟩ := T
  · exact absurd rfl hT
  rw [List.cons_append, comeN] at h
  rw [comeN]
  split at h
  · split at h
    · rename_i h0 h1
      rw [if_pos h0, if_pos h1]
      refine ⟨_, rfl, by simpa using h.symm, by simp, fun b => ⟨fun ⟨k2, h2⟩ => ?_, fun ⟨k2, h2⟩ => ?_⟩⟩
      · rcases List.mem_cons.1 h2 with e | h2
        · injection e with e1 _; exact ⟨k, by rw [e1]; simp⟩
        · exact ⟨k2, List.mem_cons_of_mem _ h2⟩
      · rcases List.mem_cons.1 h2 with e | h2
        · injection e with e1 _; exact ⟨k + 1, by rw [e1]; simp⟩
        · exact ⟨k2, List.mem_cons_of_mem _ h2⟩
    · cases h
  · rename_i h0
    rw [if_neg h0]
    exact ⟨_, rfl, by simpa using h.symm, by simp, fun b => Iff.rfl⟩
theorem closeT_sub (l : List Nd) : ∀ (T : List Fm) (p : Fm), p ∈ closeT l T → p ∈ T
  | [], p, h => h
  | (a, k) :: T, p, h => by
    rw [closeT] at h
    split at h
    · exact h
    · exact List.mem_cons_of_mem _ (closeT_sub l T p h)
/-- what is set for nodes before i is not set again, but by closing -/
theorem walk_keepD {l : List Nd} : ∀ (g i : Nat) (T : List Fm) (E D : List Int) {T2 : List Fm} {E2 D2 : List Int}, walkN l g i T E D = some (T2, E2, D2) → ∀ a, a < i → D2.getD a 0 = D.getD a 0
  | 0, i, T, E, D, T2, E2, D2, h, a, ha => by
    unfold walkN at h
    injection h with h
    injection h with h1 h2
    injection h2 with h2 h3
    rw [← h3]
  | g + 1, i, T, E, D, T2, E2, D2, h, a, ha => by
    unfold walkN at h
    split at h
    · cases h
    · rw [walk_keepD g (i + 1) _ _ _ h a (by omega), List.getD_eq_getElem?_getD, List.getElem?_set_ne (by omega), ← List.getD_eq_getElem?_getD]
theorem close_keep (l : List Nd) (i : Nat) : ∀ (T : List Fm) (E : List Int) (a : Nat), (∀ k, (a, k) ∉ T) → (closeN l i T E).2.getD a 0 = E.getD a 0
  | [], E, a, _ => rfl
  | (b, k) :: T, E, a, h => by
    rw [closeN]
    split
    · rfl
    · have hne : a ≠ b := fun e => h k (by rw [e]; simp)
      rw [close_keep l i T _ a (fun k2 h2 => h k2 (List.mem_cons_of_mem _ h2)), List.getD_eq_getElem?_getD, List.getElem?_set_ne (Ne.symm hne), ← List.getD_eq_getElem?_getD]
theorem walk_keepE {l : List Nd} : ∀ (g i : Nat) (T : List Fm) (E D : List Int) {T2 : List Fm} {E2 D2 : List Int}, walkN l g i T E D = some (T2, E2, D2) → ∀ a, a < i → (∀ k, (a, k) ∉ T) → E2.getD a 0 = E.getD a 0
  | 0, i, T, E, D, T2, E2, D2, h, a, ha, hT => by
    unfold walkN at h
    injection h with h
    injection h with h1 h2
    injection h2 with h2 h3
    rw [← h2]
  | g + 1, i, T, E, D, T2, E2, D2, h, a, ha, hT => by
    unfold walkN at h
    split at h
    · cases h
    · rename_i U hc
      have hU : ∀ k, (a, k) ∉ (i, 0) :: U := fun k hk => by
        rcases List.mem_cons.1 hk with e | hk
        · injection e with e1 _; omega
        · obtain _ | ⟨q, T⟩ := T
          · rw [comeN] at hc
            split at hc
            · cases hc
            · injection hc with hc; rw [← hc] at hk; cases hk
          · obtain ⟨Y, h1, h2, -, h4⟩ := come_app (T := q :: T) (U := []) (by simp) (by rw [List.append_nil]; exact hc)
            rw [List.append_nil] at h2
            subst h2
            obtain ⟨k2, hk2⟩ := (h4 a).1 ⟨k, hk⟩
            exact hT k2 hk2
      rw [walk_keepE g (i + 1) _ _ _ h a (by omega) (fun k hk => hU k (by rw [close_fst] at hk; exact closeT_sub l _ _ hk)), close_keep l i _ _ a hU]
end Go.Proofs.YtkjcjklnclahdaaDoor.Tr
