/-
  Plain: the leaves of the merged tree and their depths; counts that are all one.
-/
import Derived.Test.YtchhgbhbldfofaaHuK
namespace Go.Proofs.Ytchhgbhbldfofaa.Hu
open Nd

/-- a tree's leaves: count, symbol, depth -/
def lvs : Nd → Nat → List (Int × Nat × Nat)
  | .leaf c s, d => [(c, s, d)]
  | .join _ _ a b, d => lvs a (d + 1) ++ lvs b (d + 1)
def setAll (L : List Int) (T : List (Int × Nat × Nat)) : List Int := T.foldl (fun L t => L.set t.2.1 (t.2.2 : Int)) L
theorem setD_all : ∀ (x : Nd) (d : Nat) (L : List Int), setD x d L = setAll L (lvs x d)
  | .leaf _ _, _, _ => rfl
  | .join _ _ a b, d, L => by
    rw [setD, lvs, setAll, List.foldl_append, setD_all b, setD_all a]
    rfl
/-- a tree's leaves: count, symbol -/
def lfs : Nd → List (Int × Nat)
  | .leaf c s => [(c, s)]
  | .join _ _ a b => lfs a ++ lfs b
theorem lvs_lfs : ∀ (x : Nd) (d : Nat), (lvs x d).map (fun t => (t.1, t.2.1)) = lfs x
  | .leaf _ _, _ => rfl
  | .join _ _ a b, d => by rw [lvs, List.map_append, lvs_lfs a, lvs_lfs b, lfs]
def lfsL (L : List Nd) : List (Int × Nat) := L.flatMap lfs
theorem lfsL_ins (x : Nd) (L : List Nd) : (lfsL (insS x L)).Perm (lfs x ++ lfsL L) := by
  have := (insS_perm x L).flatMap_right lfs
  simpa [lfsL] using this
theorem lfsL_srt (L : List Nd) : (lfsL (srtS L)).Perm (lfsL L) := (srtS_perm L).flatMap_right lfs
theorem lfsL_mrg : ∀ (k g : Nat) (L : List Nd), (lfsL (mrgF k g L)).Perm (lfsL L)
  | 0, _, _ => List.Perm.refl _
  | k + 1, _, [] => List.Perm.refl _
  | k + 1, _, [_] => List.Perm.refl _
  | k + 1, g, a :: b :: L => by
    rw [mrgF]
    refine (lfsL_mrg k (g + 1) _).trans ((lfsL_ins _ _).trans ?_)
    simp [lfsL, lfs]
theorem mrgF_one : ∀ (k g : Nat) (L : List Nd), 0 < L.length → L.length ≤ k + 1 → ∃ x, mrgF k g L = [x]
  | 0, _, [x], _, _ => ⟨x, rfl⟩
  | k + 1, _, [x], _, _ => ⟨x, rfl⟩
  | k + 1, g, a :: b :: L, _, h => by
    rw [mrgF]
    refine mrgF_one k (g + 1) _ (by rw [insS_len]; omega) (by rw [insS_len]; simp at h; omega)
  | 0, _, a :: b :: L, _, h => by simp at h
/-- the leaves, symbol by symbol -/
theorem leavesF_lfs : ∀ (l : List Int) (k : Nat), lfsL (leavesF l k) = ((l.zipIdx k).filter fun p => decide (0 < p.1)).map fun p => (p.1, p.2)
  | [], _ => rfl
  | c :: l, k => by
    rw [leavesF, List.zipIdx_cons, List.filter_cons]
    by_cases h : 0 < c
    · rw [if_pos h]
      simp only [decide_eq_true h, if_true, List.map_cons]
      rw [← leavesF_lfs l (k + 1)]
      rfl
    · rw [if_neg h]
      simp only [decide_eq_false h]
      exact leavesF_lfs l (k + 1)
theorem zip_pos (l : List Int) (k : Nat) (c : Int) (s : Nat) : (c, s) ∈ ((l.zipIdx k).filter fun p => decide (0 < p.1)).map (fun p => (p.1, p.2)) ↔ k ≤ s ∧ l[s - k]? = some c ∧ 0 < c := by
  simp only [List.mem_map, List.mem_filter, decide_eq_true_eq, Prod.mk.injEq, Prod.exists]
  constructor
  · rintro ⟨a, b, ⟨h, hp⟩, rfl, rfl⟩
    have := List.mem_zipIdx_iff_le_and_getElem?_sub.1 h
    exact ⟨this.1, this.2, hp⟩
  · rintro ⟨h1, h2, h3⟩
    exact ⟨c, s, ⟨List.mem_zipIdx_iff_le_and_getElem?_sub.2 ⟨h1, h2⟩, h3⟩, rfl, rfl⟩
theorem zip_nodup : ∀ (l : List Int) (k : Nat), ((((l.zipIdx k).filter fun p => decide (0 < p.1)).map fun p => (p.1, p.2)).map (·.2)).Nodup
  | [], _ => List.nodup_nil
  | c :: l, k => by
    have ih := zip_nodup l (k + 1)
    rw [List.zipIdx_cons, List.filter_cons]
    by_cases h : 0 < c
    · simp only [decide_eq_true h, if_true, List.map_cons]
      refine List.nodup_cons.2 ⟨fun hm => ?_, ih⟩
      obtain ⟨⟨a, b⟩, hp, hb⟩ := List.mem_map.1 hm
      have := (zip_pos l (k + 1) a b).1 hp
      simp at hb
      omega
    · simp only [decide_eq_false h]
      exact ih
/-- what is set, where symbols are apart -/
theorem setAll_at : ∀ (T : List (Int × Nat × Nat)) (L : List Int) (s : Nat), (T.map (·.2.1)).Nodup → s < L.length →
    ((∀ c d, (c, s, d) ∉ T) ∧ (setAll L T)[s]? = L[s]?) ∨ ∃ c d, (c, s, d) ∈ T ∧ (setAll L T)[s]? = some (d : Int)
  | [], L, s, _, _ => .inl ⟨by simp, rfl⟩
  | (c, s', d) :: T, L, s, hn, hs => by
    rw [List.map_cons, List.nodup_cons] at hn
    have ih := setAll_at T (L.set s' d) s hn.2 (by rw [List.length_set]; exact hs)
    have e : setAll L ((c, s', d) :: T) = setAll (L.set s' d) T := rfl
    rw [e]
    rcases ih with ⟨h1, h2⟩ | ⟨c2, d2, h1, h2⟩
    · by_cases hss : s' = s
      · subst hss
        exact .inr ⟨c, d, by simp, by rw [h2, List.getElem?_set_self hs]⟩
      · refine .inl ⟨fun c3 d3 hm => ?_, by rw [h2, List.getElem?_set_ne hss]⟩
        rcases List.mem_cons.1 hm with h | h
        · injection h with _ h; injection h with h _; exact hss h.symm
        · exact h1 c3 d3 h
    · exact .inr ⟨c2, d2, by simp [h1], h2⟩
/-- the tree of two counts or more -/
def treeN (l : List Int) : Nd := ((mrgF (leavesF l 0).length 0 (srtS (leavesF l 0)))[0]?).getD default
theorem tree_mrg (l : List Int) (h : 0 < (leavesF l 0).length) : mrgF (leavesF l 0).length 0 (srtS (leavesF l 0)) = [treeN l] := by
  have hl : (srtS (leavesF l 0)).length = (leavesF l 0).length := (srtS_perm _).length_eq
  obtain ⟨x, hx⟩ := mrgF_one (leavesF l 0).length 0 (srtS (leavesF l 0)) (by omega) (by omega)
  unfold treeN
  rw [hx]
  rfl
theorem tree_lfs (l : List Int) (h : 0 < (leavesF l 0).length) : (lfs (treeN l)).Perm (((l.zipIdx 0).filter fun p => decide (0 < p.1)).map fun p => (p.1, p.2)) := by
  have h1 := lfsL_mrg (leavesF l 0).length 0 (srtS (leavesF l 0))
  rw [tree_mrg l h] at h1
  have h2 := h1.trans (lfsL_srt _)
  rw [leavesF_lfs] at h2
  simpa [lfsL] using h2
theorem deepN_tree (l : List Int) (h : 2 ≤ (leavesF l 0).length) : deepN l = setAll (zers l.length) (lvs (treeN l) 0) := by
  rw [deepN_more (by omega), tree_mrg l (by omega), topD, setD_all]
theorem tree_nodup (l : List Int) (h : 0 < (leavesF l 0).length) : ((lvs (treeN l) 0).map (·.2.1)).Nodup := by
  have h1 : (lvs (treeN l) 0).map (·.2.1) = (lfs (treeN l)).map (·.2) := by rw [← lvs_lfs (treeN l) 0, List.map_map]; rfl
  rw [h1]
  exact (((tree_lfs l h).map (·.2)).nodup_iff).2 (zip_nodup l 0)
/-- each positive count has its depth; none else -/
theorem deepN_at (l : List Int) (h : 2 ≤ (leavesF l 0).length) (s : Nat) (c : Int) (hs : l[s]? = some c) :
    (c ≤ 0 ∧ (deepN l)[s]? = some 0) ∨ (0 < c ∧ ∃ d : Nat, (c, s, d) ∈ lvs (treeN l) 0 ∧ (deepN l)[s]? = some (d : Int)) := by
  have hsl := (List.getElem?_eq_some_iff.1 hs).1
  have hmem : ∀ c' d, (c', s, d) ∈ lvs (treeN l) 0 → c' = c ∧ 0 < c := fun c' d hm => by
    have h1 : (c', s) ∈ lfs (treeN l) := by rw [← lvs_lfs (treeN l) 0]; exact List.mem_map.2 ⟨_, hm, rfl⟩
    have h2 := (zip_pos l 0 c' s).1 ((tree_lfs l (by omega)).mem_iff.1 h1)
    rw [Nat.sub_zero, hs] at h2
    have := Option.some.inj h2.2.1
    subst this
    exact ⟨rfl, h2.2.2⟩
  rw [deepN_tree l h]
  rcases setAll_at (lvs (treeN l) 0) (zers l.length) s (tree_nodup l (by omega)) (by rw [zers, List.length_replicate]; exact hsl) with ⟨h1, h2⟩ | ⟨c2, d, h1, h2⟩
  · refine .inl ⟨?_, by rw [h2, zers, List.getElem?_replicate, if_pos hsl]⟩
    refine Int.not_lt.1 (fun hc => ?_)
    have h3 : (c, s) ∈ lfs (treeN l) := (tree_lfs l (by omega)).mem_iff.2 ((zip_pos l 0 c s).2 ⟨Nat.zero_le _, by simpa using hs, hc⟩)
    rw [← lvs_lfs (treeN l) 0] at h3
    obtain ⟨⟨c3, s3, d3⟩, h4, h5⟩ := List.mem_map.1 h3
    simp at h5
    obtain ⟨rfl, rfl⟩ := h5
    exact h1 _ _ h4
  · obtain ⟨rfl, hc⟩ := hmem c2 d h1
    exact .inr ⟨hc, d, h1, h2⟩
theorem lvs_hgt : ∀ (x : Nd) (d : Nat) (t : Int × Nat × Nat), t ∈ lvs x d → t.2.2 ≤ d + hgt x
  | .leaf _ _, d, t, h => by rw [lvs, List.mem_singleton] at h; subst h; simp [hgt]
  | .join _ _ a b, d, t, h => by
    rw [lvs] at h
    rcases List.mem_append.1 h with h | h
    · have := lvs_hgt a (d + 1) t h; rw [hgt]; omega
    · have := lvs_hgt b (d + 1) t h; rw [hgt]; omega
theorem lvs_pos : ∀ (x : Nd) (d : Nat) (t : Int × Nat × Nat), t ∈ lvs x d → d ≤ t.2.2
  | .leaf _ _, d, t, h => by rw [lvs, List.mem_singleton] at h; subst h; simp
  | .join _ _ a b, d, t, h => by
    rw [lvs] at h
    rcases List.mem_append.1 h with h | h
    · have := lvs_pos a (d + 1) t h; omega
    · have := lvs_pos b (d + 1) t h; omega
end Go.Proofs.Ytchhgbhbldfofaa.Hu
