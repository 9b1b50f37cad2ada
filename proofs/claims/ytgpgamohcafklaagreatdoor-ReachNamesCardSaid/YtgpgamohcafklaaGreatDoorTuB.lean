/-
  The document's Dict, plain: an order of the names, told by their places.
-/
import Derived.Test.YtgpgamohcafklaaGreatDoorTuA
import Derived.Test.YtgpgamohcafklaaGreatDoorPkZ
namespace Go.Proofs.YtgpgamohcafklaaGreatDoor.Tr
open Go.RowKit

def nmK (names : List ByteArray) (k : Nat) : ByteArray := names.getD k ⟨#[]⟩
theorem nmK_at {names : List ByteArray} {k : Nat} (h : k < names.length) : nmK names k = names[k] := by rw [nmK, List.getD_eq_getElem?_getD, List.getElem?_eq_getElem h]; rfl
/-- the places of the first i names, as the names rise -/
structure Ord (names : List ByteArray) (i : Nat) (O : List Nat) : Prop where
  perm : O.Perm (List.range i)
  up : O.Pairwise (fun a b => ltB (nmK names a) (nmK names b))
theorem Ord.len {names : List ByteArray} {i : Nat} {O : List Nat} (h : Ord names i O) : O.length = i := by rw [h.perm.length_eq, List.length_range]
theorem Ord.lt {names : List ByteArray} {i : Nat} {O : List Nat} (h : Ord names i O) : ∀ k ∈ O, k < i := fun _ hk => List.mem_range.1 (h.perm.mem_iff.1 hk)
theorem Ord.nil (names : List ByteArray) : Ord names 0 [] := ⟨List.Perm.refl _, List.Pairwise.nil⟩
theorem Ord.ins {names : List ByteArray} {i k : Nat} {O : List Nat} (h : Ord names i O) (hk : k ≤ O.length) (hhi : ∀ x ∈ O.drop k, ltB (nmK names i) (nmK names x)) (hlo : k = 0 ∨ ∃ o, O[k - 1]? = some o ∧ ltB (nmK names o) (nmK names i)) :
    Ord names (i + 1) (O.take k ++ i :: O.drop k) := by
  refine ⟨?_, ?_⟩
  · refine List.perm_middle.trans ?_
    rw [List.take_append_drop, List.range_succ]
    exact (h.perm.cons i).trans (List.perm_append_singleton i _).symm
  · have hu := h.up
    rw [← List.take_append_drop k O, List.pairwise_append] at hu
    obtain ⟨u1, u2, u3⟩ := hu
    have hta : ∀ a ∈ O.take k, ltB (nmK names a) (nmK names i) := fun a ha => by
      rcases hlo with rfl | ⟨o, ho, hlt⟩
      · simp at ha
      · by_cases hk0 : k = 0
        · subst hk0; simp at ha
        · obtain ⟨hol, hoe⟩ := List.getElem?_eq_some_iff.1 ho
          have ht : O.take k = O.take (k - 1) ++ [o] := by
            have := List.take_succ_eq_append_getElem hol
            rw [show k - 1 + 1 = k by omega, hoe] at this
            exact this
          rw [ht] at ha u1
          rcases List.mem_append.1 ha with ha | ha
          · exact ltB_trans ((List.pairwise_append.1 u1).2.2 a ha o (by simp)) hlt
          · obtain rfl : a = o := by simpa using ha
            exact hlt
    rw [List.pairwise_append]
    refine ⟨u1, List.pairwise_cons.2 ⟨hhi, u2⟩, fun a ha b hb => ?_⟩
    rcases List.mem_cons.1 hb with rfl | hb
    · exact hta a ha
    · exact u3 a ha b hb
theorem zip_fst {names : List ByteArray} {ls : List (List Nd)} (hl : names.length = ls.length) : (names.zip ls).map (·.1) = names := List.map_fst_zip (by omega)
theorem Ord.twice {names : List ByteArray} {ls : List (List Nd)} {i o : Nat} {O : List Nat} (h : Ord names i O) (hl : names.length = ls.length) (hi : i < names.length) (ho : o ∈ O) (he : nmK names o = nmK names i) : dictN (names.zip ls) = ([], 6) := by
  refine dictN_twice fun hn => ?_
  rw [zip_fst hl] at hn
  have hoi := h.lt o ho
  rw [nmK_at hi, nmK_at (by omega)] at he
  exact List.pairwise_iff_getElem.1 hn o i (by omega) hi hoi he
def ordS (names : List ByteArray) (ls : List (List Nd)) (O : List Nat) : List Ent := O.map fun k => (nmK names k, ls.getD k [])
theorem Ord.done {names : List ByteArray} {ls : List (List Nd)} {O : List Nat} (hl : names.length = ls.length) (h : Ord names names.length O) : dictN (names.zip ls) = underN 8 (allN (ordS names ls O)) ∧ ∀ p ∈ ordS names ls O, p ∈ names.zip ls := by
  have hz : names.zip ls = ordS names ls (List.range names.length) := by
    refine List.ext_getElem (by rw [ordS, List.length_map, List.length_range, List.length_zip]; omega) fun k h1 h2 => ?_
    rw [List.length_zip] at h1
    rw [List.getElem_zip]
    simp only [ordS, List.getElem_map, List.getElem_range]
    rw [nmK_at (by omega), List.getD_eq_getElem?_getD, List.getElem?_eq_getElem (by omega)]
    rfl
  have hp : (ordS names ls O).Perm (names.zip ls) := by rw [hz]; exact h.perm.map _
  have hu : Up (ordS names ls O) := by
    show List.Pairwise _ _
    rw [ordS, List.pairwise_map]
    exact h.up
  have hnd : ((names.zip ls).map (·.1)).Nodup := (hp.map (·.1)).nodup_iff.1 (up_nodup hu)
  have hs : srt (names.zip ls) = ordS names ls O := (srt_eq hnd hp.symm).trans (srt_self hu)
  refine ⟨?_, fun p hq => hp.mem_iff.1 hq⟩
  have ht := (twice_iff (names.zip ls)).2 hnd
  rw [dictN, ht, if_neg (by simp)]
  show underN 8 (allN (srt (names.zip ls))) = _
  rw [hs]
end Go.Proofs.YtgpgamohcafklaaGreatDoor.Tr
