/-
  tree: plain: two rows of entries that rise, merged.
-/
import Derived.Test.YtkjcjklnclahdaaGreatDoorTtG
import Derived.Test.YtkjcjklnclahdaaGreatDoorPkZ
namespace Go.Proofs.YtkjcjklnclahdaaGreatDoor.Tr
open Go.RowKit

abbrev upE (X : List Et) : Prop := X.Pairwise (fun a b => ltB a.1 b.1)
abbrev ndE (X : List Et) : Prop := (X.map (·.1)).Nodup
theorem sortN_strict {l : List Et} (h : ndE l) : upE (sortN l) := by rw [sortN_G]; exact sort_strict _ h
theorem sortN_perm (l : List Et) : (sortN l).Perm l := by rw [sortN_G]; exact sortG_perm _ l
theorem sym_eq {l Z : List Et} (hd : ndE l) (hz : upE Z) (hp : Z.Perm l) : sortN l = Z :=
  strict_eq (fun p : Et => p.1) (sortN_strict hd) hz ((sortN_perm l).trans hp.symm)
theorem ndE_perm {l m : List Et} (h : l.Perm m) (hd : ndE l) : ndE m := ((h.map (·.1)).nodup_iff).1 hd
theorem ndE_sub {l m : List Et} (h : l.Sublist m) (hd : ndE m) : ndE l := (h.map (·.1)).nodup hd
theorem less_of {x y : Et} (h : ¬ ltB y.1 x.1) (hne : x.1 ≠ y.1) : ltB x.1 y.1 := by
  rcases ltB_tri x.1 y.1 with q | q | q
  · exact q
  · exact absurd q hne
  · exact absurd q h
theorem take_less {Y : List Et} (hY : upE Y) {c : Nat} {s : ByteArray} (h : c = 0 ∨ ∃ z, Y[c - 1]? = some z ∧ ltB z.1 s) : ∀ p ∈ Y.take c, ltB p.1 s := fun p hp => by
  obtain ⟨k, hk⟩ := List.getElem?_of_mem hp
  rw [List.getElem?_take] at hk
  split at hk
  · rename_i hkc
    rcases h with h | ⟨z, hz, hl⟩
    · omega
    · rcases Nat.lt_or_ge k (c - 1) with q | q
      · obtain ⟨h1, h2⟩ := List.getElem?_eq_some_iff.1 hk
        obtain ⟨h3, h4⟩ := List.getElem?_eq_some_iff.1 hz
        have := List.pairwise_iff_getElem.1 hY k (c - 1) h1 h3 q
        rw [h2, h4] at this
        exact ltB_trans this hl
      · obtain rfl : k = c - 1 := by omega
        rw [hz] at hk
        injection hk with hk
        rw [← hk]
        exact hl
  · cases hk
theorem drop_less {Y : List Et} (hY : upE Y) {c : Nat} {s : ByteArray} (h : c = Y.length ∨ ∃ z, Y[c]? = some z ∧ ltB s z.1) : ∀ p ∈ Y.drop c, ltB s p.1 := fun p hp => by
  obtain ⟨k, hk⟩ := List.getElem?_of_mem hp
  rw [List.getElem?_drop] at hk
  obtain ⟨h1, h2⟩ := List.getElem?_eq_some_iff.1 hk
  rcases h with h | ⟨z, hz, hl⟩
  · omega
  · rcases Nat.lt_or_ge 0 k with q | q
    · obtain ⟨h3, h4⟩ := List.getElem?_eq_some_iff.1 hz
      have := List.pairwise_iff_getElem.1 hY c (c + k) h3 h1 (by omega)
      rw [h2, h4] at this
      exact ltB_trans hl this
    · obtain rfl : k = 0 := by omega
      rw [Nat.add_zero, hz] at hk
      injection hk with hk
      rw [← hk]
      exact hl
theorem take_drop_less {X : List Et} (hX : upE X) (c : Nat) : ∀ p ∈ X.take c, ∀ q ∈ X.drop c, ltB p.1 q.1 := by
  have h : (X.take c ++ X.drop c).Pairwise (fun a b => ltB a.1 b.1) := by rw [List.take_append_drop]; exact hX
  exact (List.pairwise_append.1 h).2.2
/-- one put among those that rise -/
theorem put_mid {Y : List Et} {x : Et} {c : Nat} (hY : upE Y) (h1 : ∀ p ∈ Y.take c, ltB p.1 x.1) (h2 : ∀ p ∈ Y.drop c, ltB x.1 p.1) : upE (Y.take c ++ x :: Y.drop c) := by
  rw [upE, List.pairwise_append, List.pairwise_cons]
  refine ⟨hY.sublist (List.take_sublist _ _), ⟨h2, hY.sublist (List.drop_sublist _ _)⟩, fun p hp q hq => ?_⟩
  rcases List.mem_cons.1 hq with rfl | hq
  · exact h1 p hp
  · exact take_drop_less hY c p hp q hq
theorem ltB_of_le {X : List Et} (hX : upE X) {c : Nat} {x p : Et} {s : ByteArray} (h1 : X[c - 1]? = some x) (hp : p ∈ X.take c) (h : ltB x.1 s) : ltB p.1 s := take_less hX (.inr ⟨x, h1, h⟩) p hp
theorem sym_split {X Y : List Et} (hX : upE X) (hY : upE Y) (hd : ndE (X ++ Y)) {c d : Nat}
    (hA : (c = 0 ∨ d = Y.length) ∨ ∃ x y, X[c - 1]? = some x ∧ Y[d]? = some y ∧ ltB x.1 y.1) (hB : (d = 0 ∨ c = X.length) ∨ ∃ y x, Y[d - 1]? = some y ∧ X[c]? = some x ∧ ltB y.1 x.1) :
    sortN (X ++ Y) = sortN (X.take c ++ Y.take d) ++ sortN (X.drop c ++ Y.drop d) := by
  have p1 : (X.take c ++ Y.take d ++ (X.drop c ++ Y.drop d)).Perm (X ++ Y) := by
    have h : (X.take c ++ Y.take d ++ (X.drop c ++ Y.drop d)).Perm ((X.take c ++ X.drop c) ++ (Y.take d ++ Y.drop d)) := by
      rw [List.append_assoc, List.append_assoc]
      refine List.Perm.append_left _ ?_
      rw [← List.append_assoc, ← List.append_assoc]
      exact List.Perm.append_right _ List.perm_append_comm
    rwa [List.take_append_drop, List.take_append_drop] at h
  have hdp := ndE_perm p1.symm hd
  have hd1 : ndE (X.take c ++ Y.take d) := ndE_sub (List.sublist_append_left _ _) hdp
  have hd2 : ndE (X.drop c ++ Y.drop d) := ndE_sub (List.sublist_append_right _ _) hdp
  refine sym_eq hd ?_ (((sortN_perm _).append (sortN_perm _)).trans p1)
  rw [upE, List.pairwise_append]
  refine ⟨sortN_strict hd1, sortN_strict hd2, fun p hp q hq => ?_⟩
  have hp := (sortN_perm _).mem_iff.1 hp
  have hq := (sortN_perm _).mem_iff.1 hq
  rcases List.mem_append.1 hp with hp | hp <;> rcases List.mem_append.1 hq with hq | hq
  · exact take_drop_less hX c p hp q hq
  · rcases hA with (h | h) | ⟨x, y, h1, h2, h3⟩
    · rw [h, List.take_zero] at hp; cases hp
    · rw [List.drop_eq_nil_of_le (by omega)] at hq; cases hq
    · by_cases hc : c = 0
      · rw [hc, List.take_zero] at hp; cases hp
      · exact drop_less hY (.inr ⟨y, h2, ltB_of_le hX h1 hp h3⟩) q hq
  · rcases hB with (h | h) | ⟨y, x, h1, h2, h3⟩
    · rw [h, List.take_zero] at hp; cases hp
    · rw [List.drop_eq_nil_of_le (by omega)] at hq; cases hq
    · by_cases hc : d = 0
      · rw [hc, List.take_zero] at hp; cases hp
      · exact drop_less hX (.inr ⟨x, h2, ltB_of_le hY h1 hp h3⟩) q hq
  · exact take_drop_less hY d p hp q hq
/-! ### rows of entries, by their places -/
theorem et_at {w : World} {g n cap : Nat} {l : List Et} (h : w.ownsRow 0 62 2 (.slice (some ⟨g, 0, none⟩) n cap) n (etC l)) {k : Nat} {x : Et} (hk : l[k]? = some x) :
    w.cell? ⟨g, k * 2, none⟩ = some (.string x.1) ∧ w.cell? ⟨g, k * 2 + 1, none⟩ = some (.slice x.2.1 x.2.2.1 x.2.2.2) ∧ w.frozen? ⟨g, k * 2, none⟩ = false ∧ w.frozen? ⟨g, k * 2 + 1, none⟩ = false := by
  obtain ⟨h1, h2⟩ := List.getElem?_eq_some_iff.1 hk
  have e : l = l.take k ++ x :: l.drop (k + 1) := by rw [← h2, ← List.drop_eq_getElem_cons h1, List.take_append_drop]
  rw [e] at h
  exact et_cells h k (by rw [List.length_take]; omega)
theorem at_mid {P X Q : List Et} {k : Nat} (h : P.length ≤ k) (h2 : k < P.length + X.length) : (P ++ (X ++ Q))[k]? = X[k - P.length]? := by
  rw [List.getElem?_append_right h, List.getElem?_append_left (by omega)]
theorem at_end {P X Y Q : List Et} {k : Nat} (h : P.length + X.length ≤ k) (h2 : k < P.length + X.length + Y.length) : (P ++ (X ++ (Y ++ Q)))[k]? = Y[k - (P.length + X.length)]? := by
  rw [List.getElem?_append_right (by omega), List.getElem?_append_right (by omega), List.getElem?_append_left (by omega)]
  congr 1
  omega
end Go.Proofs.YtkjcjklnclahdaaGreatDoor.Tr
