/-
  deflate: what Dynamic asks of others, over several objects.
-/
import Derived.Test.YtnapnaaejignaaaGreatDgG
namespace Go.Proofs.YtnapnaaejignaaaGreat.De
open Go.RowKit Bt Hu If Mt

/-- objects that a call made, beside those that were there -/
theorem sepJoin {w0 w w' : World} {L M : List Ob} (S : Sep w0 w L) (T : Sep w w' M) : Sep w0 w' (M ++ L) := by
  have hL : ∀ o ∈ L, ∀ k ∈ o.F, k < w.heap.size := fun o ho => o.lt (S.each o ho)
  have S2 := S.quiet T.ext
  refine ⟨S2.ext, fun o ho => ?_, fun o ho k hk => ?_, ?_⟩
  · rcases List.mem_append.1 ho with h | h
    · exact T.each o h
    · exact S2.each o h
  · rcases List.mem_append.1 ho with h | h
    · exact Nat.le_trans S.ext.size (T.base o h k hk)
    · exact S.base o h k hk
  · intro i j a b hi hj hij k hk hkb
    rw [List.getElem?_append] at hi hj
    by_cases h1 : i < M.length
    · rw [if_pos h1] at hi
      by_cases h2 : j < M.length
      · rw [if_pos h2] at hj
        exact T.apart i j a b hi hj hij k hk hkb
      · rw [if_neg h2] at hj
        have := T.base a (List.mem_of_getElem? hi) k hk
        have := hL b (List.mem_of_getElem? hj) k hkb
        omega
    · rw [if_neg h1] at hi
      by_cases h2 : j < M.length
      · rw [if_pos h2] at hj
        have := T.base b (List.mem_of_getElem? hj) k hkb
        have := hL a (List.mem_of_getElem? hi) k hk
        omega
      · rw [if_neg h2] at hj
        exact S.apart _ _ a b hi hj (by omega) k hk hkb
theorem ints_of {w : World} {g cap : Nat} {l : List Int} (h : (oIs g cap l).P w) : IntsArg w (.slice (some ⟨g, 0, none⟩) l.length cap) l := IntsArg.of_own h
theorem lensS {w0 w : World} {L : List Ob} (S : Sep w0 w L) (i : Nat) {g cap : Nat} {f : List Int} (m : Int) (hL : L[i]? = some (oIs g cap f)) (he : lensErr f m = false) (h0 : 0 < f.length) :
    Calls Tryz.prog 34 #[.slice (some ⟨g, 0, none⟩) f.length cap, .int .i64 m] w fun e w' => ∃ q c, e = .returned (.tuple #[.slice (some ⟨q, 0, none⟩) f.length c, .int .i64 0]) ∧ Sep w0 w' (oIs q c (lensF 40 m f) :: L) := by
  refine (lens_ok _ f m 40 w (ints_of (S.get i hL)) he (fit_all he)).mono ?_
  rintro e w' ⟨v', rfl, hx, hP, hF⟩
  have hl := lensF_len 40 m f
  obtain ⟨q, c, rfl⟩ := own_at hP (by rw [hl]; exact h0)
  refine ⟨q, c, by rw [hl], S.new hx (oIs q c (lensF 40 m f)) hP hF⟩
theorem concatS {w0 w : World} {L : List Ob} (S : Sep w0 w L) (i1 i2 : Nat) {g1 c1 g2 c2 k1 k2 : Nat} {l1 l2 : List Int} (h1 : L[i1]? = some (oIs g1 c1 l1)) (h2 : L[i2]? = some (oIs g2 c2 l2)) (k1l : k1 ≤ l1.length) (k2l : k2 ≤ l2.length) (k10 : 0 < k1) (k20 : 0 < k2) (hl : k1 + k2 ≤ 1000) :
    Calls Tryz.prog 36 #[.slice (some ⟨w.heap.size, 0, none⟩) 2 2] (w.alloc (.cells #[.slice (some ⟨g1, 0, none⟩) k1 c1, .slice (some ⟨g2, 0, none⟩) k2 c2] 58)) fun e w' => ∃ q c, e = .returned (.slice (some ⟨q, 0, none⟩) (k1 + k2) c) ∧ Sep w0 w' (oIs q c (l1.take k1 ++ l2.take k2) :: L) := by
  have hx : Ext [] w (w.alloc (.cells #[.slice (some ⟨g1, 0, none⟩) k1 c1, .slice (some ⟨g2, 0, none⟩) k2 c2] 58)) := (Ext.refl [] w).alloc _
  have t1 : (l1.take k1).length = k1 := by rw [List.length_take]; omega
  have t2 : (l2.take k2).length = k2 := by rw [List.length_take]; omega
  have at_ : ∀ (i g c : Nat) (l : List Int) (k : Nat), L[i]? = some (oIs g c l) → k ≤ l.length → IntsAt (w.alloc (.cells #[.slice (some ⟨g1, 0, none⟩) k1 c1, .slice (some ⟨g2, 0, none⟩) k2 c2] 58)) (.slice (some ⟨g, 0, none⟩) (l.take k).length c) (l.take k) := fun i g c l k hi hk => by
    refine ⟨_, c, rfl, fun _ => ⟨g, 0, rfl, fun j x hj => ?_⟩⟩
    rw [Nat.zero_add]
    rw [List.getElem?_take] at hj
    split at hj
    · have hr := row_at (S.get i hi) (k := j) (by have := (List.getElem?_eq_some_iff.1 hj).1; omega)
      rw [List.getD_eq_getElem?_getD, hj] at hr
      exact Ext.cell hx hr
    · cases hj
  have hrow : RowsAt (w.alloc (.cells #[.slice (some ⟨g1, 0, none⟩) k1 c1, .slice (some ⟨g2, 0, none⟩) k2 c2] 58)) w.heap.size [(some ⟨g1, 0, none⟩, c1, l1.take k1), (some ⟨g2, 0, none⟩, c2, l2.take k2)] := by
    intro i z hz
    match i, hz with
    | 0, hz => obtain rfl := Option.some.inj hz; exact ⟨by rw [t1]; exact cellOf (heap_alloc_at _) 0, at_ i1 _ _ _ _ h1 k1l, by rw [t1]; exact k10⟩
    | 1, hz => obtain rfl := Option.some.inj hz; exact ⟨by rw [t2]; exact cellOf (heap_alloc_at _) 1, at_ i2 _ _ _ _ h2 k2l, by rw [t2]; exact k20⟩
    | n + 2, hz => cases hz
  have hfl : flatZ [((some ⟨g1, 0, none⟩ : Option Addr), c1, l1.take k1), (some ⟨g2, 0, none⟩, c2, l2.take k2)] = l1.take k1 ++ l2.take k2 := by simp [flatZ]
  have hlen : (l1.take k1 ++ l2.take k2).length = k1 + k2 := by rw [List.length_append, t1, t2]
  have h := concat_walk w.heap.size 2 _ _ hrow (Nat.le_of_ble_eq_true rfl) (by rw [hfl, hlen]; omega)
  rw [hfl] at h
  refine h.mono ?_
  rintro e w' ⟨v', rfl, hx2, hP, hF⟩
  obtain ⟨q, c, rfl⟩ := own_at hP (by rw [hlen]; omega)
  exact ⟨q, c, by rw [hlen], S.new (hx.trans hx2) (oIs q c (l1.take k1 ++ l2.take k2)) hP (fun k hk => Nat.le_trans hx.size (hF k hk))⟩
theorem trimS {w0 w : World} {L : List Ob} (S : Sep w0 w L) (i k : Nat) {g cap : Nat} {l : List Int} (hL : L[i]? = some (oIs g cap l)) (hl : l.length ≤ 1000) (hk : k ≤ 1000) :
    Calls Tryz.prog 35 #[.slice (some ⟨g, 0, none⟩) l.length cap, .int .i64 (k : Nat)] w fun e w' => e = .returned (.slice (some ⟨g, 0, none⟩) (trimN k l).length cap) ∧ Sep w0 w' L := by
  obtain ⟨h1, ao, c, he, hc, _⟩ := ints_of (S.get i hL)
  injection he with _ _ e3
  subst e3
  exact (trim_walk _ cap k l w h1 hc (by omega) (by omega)).mono fun e w' ⟨h, hx⟩ => ⟨h, S.quiet hx⟩
end Go.Proofs.YtnapnaaejignaaaGreat.De
