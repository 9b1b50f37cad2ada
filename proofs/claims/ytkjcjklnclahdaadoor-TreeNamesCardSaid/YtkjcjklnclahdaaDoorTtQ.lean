/-
  law17: plain: what TreeNames tells of.
-/
import Derived.Test.YtkjcjklnclahdaaDoorTtN
namespace Go.Proofs.YtkjcjklnclahdaaDoor.Tr
open Go.RowKit

abbrev nA : ByteArray := ⟨#[65]⟩
abbrev nB : ByteArray := ⟨#[66]⟩
theorem ck_num' (n : Int) (h : -2147483647 ≤ n ∧ n ≤ 2147483647) : checkN [numNd n] = 0 := one_ok rfl (by simp [numNd]) (by simp [bareN, numNd]; exact decide_eq_true h)
theorem ab_ne : nA ≠ nB := fun h => by have := tl_inj.2 h; rw [ByteArray.toList_eq, ByteArray.toList_eq] at this; revert this; decide
theorem lt_ab : ltB nA nB := less_ab
theorem tn_twice : dictionN [nA, nA] [[nullNd], [nullNd]] = ([], 6) := by
  rw [diction_is rfl (by simp [nm_a]) (by simp [firstN, ck_null]), dictN_twice]
  simp
theorem tn_short : dictionN [nA] [] = ([], 2) := by rw [dictionN, if_pos (.inl (by simp))]
/-- the array of 7 and the example -/
def aL : List Nd := wholeN 7 [[numNd 7], exL]
theorem dep_one {x : Nd} (hk : x.kids = []) : depsN [x] = [1] := by
  obtain ⟨a, b, c, d, e⟩ := x
  simp only at hk
  subst hk
  rfl
theorem dep_ex : depsN exL = [1, 2, 2, 2, 2] := by rw [depsN, sh_ex]
theorem ck_a : checkN aL = 0 := by
  have hc : ∀ x ∈ [[numNd 7], exL], checkN x = 0 := fun x hx => by
    simp only [List.mem_cons, List.not_mem_nil, or_false] at hx
    rcases hx with rfl | rfl
    · exact ck_num' 7 (by omega)
    · exact ck_ex
  rcases whole_check hc (root7 _) with ⟨h, -⟩ | ⟨-, h⟩
  · exact h
  · exfalso
    rcases h with h | h
    · revert h; decide
    · refine h (fun x hx d hd => ?_)
      simp only [List.mem_cons, List.not_mem_nil, or_false] at hx
      rcases hx with rfl | rfl
      · rw [dep_one rfl] at hd; simp at hd; omega
      · rw [dep_ex] at hd; simp at hd; omega
theorem tn_array : arrayN [[numNd 7], exL] = (aL, 0) := by
  have hf : firstN [[numNd 7], exL] = 0 := by rw [firstN, if_pos (ck_num' 7 (by omega)), firstN, if_pos ck_ex, firstN]
  rw [arrayN, if_pos hf, under_is, if_pos (show checkN (wholeN 7 [[numNd 7], exL]) = 0 from ck_a)]
  rfl
theorem len_a : aL.length = 7 := rfl
theorem dep_a : depsN aL = [1, 2, 2, 3, 3, 3, 3] := by
  obtain ⟨E, hE⟩ := whole_shape 7 [[numNd 7], exL] (fun x hx => by
    simp only [List.mem_cons, List.not_mem_nil, or_false] at hx
    rcases hx with rfl | rfl
    · exact shape_checked (ck_num' 7 (by omega))
    · exact shape_checked ck_ex)
  rw [depsN, aL, hE]
  simp only [deepsN, List.flatMap_cons, List.flatMap_nil, dep_one (x := numNd 7) rfl, dep_ex]
  rfl
theorem tn_depth : depthN aL = 3 := by rw [depthN, if_pos ck_a, dep_a]; rfl
theorem sub_a : subN aL 2 = exL := by
  have := whole_subs (kind := 7) (ls := [[numNd 7], exL]) ck_a
  simp only [posN, List.map_cons, List.cons.injEq] at this
  exact this.2.1
theorem tn_sub : subXN aL 2 = exL := by rw [subXN, if_pos ⟨ck_a, by omega, by rw [len_a]; omega⟩]; exact sub_a
theorem tn_end : endN aL 2 = 7 := by
  have := (cuts_ok (p := 2) ck_a (by rw [len_a]; omega)).fin
  rw [sub_a] at this
  rw [endN, if_pos ⟨ck_a, by omega, by rw [len_a]; omega⟩]
  exact this
theorem tn_items : itemsN aL = [[numNd 7], exL] := items_whole ck_a
/-! the dict with A set to 2 -/
def exP : List Ent := [(nA, [nullNd]), (nB, [numNd 1])]
def sP : List Ent := [(nA, [numNd 2]), (nB, [numNd 1])]
theorem ex_wd : exL = wd exP := rfl
theorem up_two (a b : List Nd) : Up [(nA, a), (nB, b)] := by
  simp only [Up, List.pairwise_cons, List.mem_singleton, List.not_mem_nil, false_implies, implies_true, and_true, List.Pairwise.nil]
  rintro p rfl
  exact lt_ab
theorem ck_two {a b : Nd} (ha : checkN [a] = 0) (hb : checkN [b] = 0) (hka : a.kids = []) (hkb : b.kids = []) : checkN (wd [(nA, [a]), (nB, [b])]) = 0 := by
  rcases wd_check (S := [(nA, [a]), (nB, [b])]) (fun p hp => by
    simp only [List.mem_cons, List.not_mem_nil, or_false] at hp
    rcases hp with rfl | rfl
    · exact ⟨nm_a, ha⟩
    · exact ⟨nm_b, hb⟩) (up_two _ _) with ⟨h, -⟩ | ⟨-, h⟩
  · exact h
  · exfalso
    rcases h with h | h
    · rw [wd_len] at h; simp [lenE] at h
    · refine h (fun x hx d hd => ?_)
      obtain ⟨p, hp, hx⟩ := mem_all.1 hx
      simp only [List.mem_cons, List.not_mem_nil, or_false] at hp
      rcases hp with rfl | rfl <;> rcases hx with rfl | rfl
      · rw [dep_one rfl] at hd; simp at hd; omega
      · rw [dep_one hka] at hd; simp at hd; omega
      · rw [dep_one rfl] at hd; simp at hd; omega
      · rw [dep_one hkb] at hd; simp at hd; omega
theorem ck_s : checkN (wd sP) = 0 := ck_two (ck_num' 2 (by omega)) (ck_num' 1 (by omega)) rfl rfl
theorem ck_exP : checkN (wd exP) = 0 := ck_two ck_null (ck_num' 1 (by omega)) rfl rfl
theorem perm_s : ([(nB, [numNd 1]), (nA, [numNd 2])] : List Ent).Perm sP := List.Perm.swap _ _ _
theorem but_a {a b : List Nd} : butE [(nA, a), (nB, b)] nA = [(nB, b)] := by
  rw [butE, List.filter_cons, List.filter_cons]
  simp
theorem but_b {a b : List Nd} : butE [(nA, a), (nB, b)] nB = [(nA, a)] := by
  rw [butE, List.filter_cons, List.filter_cons]
  simp
theorem tn_set : setN exL nA [numNd 2] = (wd sP, 0) := by
  rw [ex_wd, set_is ck_exP, if_neg (by simp [ck_num' 2 (by omega)]), if_neg (by simp [nm_a])]
  show dictN (butE exP nA ++ [(nA, [numNd 2])]) = _
  rw [exP, but_a, show ([(nB, [numNd 1])] ++ [(nA, [numNd 2])] : List Ent) = [(nB, [numNd 1]), (nA, [numNd 2])] from rfl]
  rw [dictN_perm perm_s, dictN_of (P := sP) (up_nodup (up_two _ _)), show srt sP = sP from srt_self (up_two _ _)]
  rw [if_pos ck_s]
theorem ck_d : checkN (wd [(nA, [numNd 2])]) = 0 := by
  have h := part_check (P := sP) (Q := [(nA, [numNd 2])]) (R := [(nB, [numNd 1])]) (List.Perm.refl _) (fun p hp => by
    simp only [sP, List.mem_cons, List.not_mem_nil, or_false] at hp
    rcases hp with rfl | rfl
    · exact ⟨nm_a, ck_num' 2 (by omega)⟩
    · exact ⟨nm_b, ck_num' 1 (by omega)⟩) (up_nodup (up_two _ _)) (by rw [show srt sP = sP from srt_self (up_two _ _)]; exact ck_s)
  exact h.2.2
theorem tn_drop : dropN (wd sP) nB = wd [(nA, [numNd 2])] := by
  rw [drop_is ck_s, sP, but_b, dictN_of (by simp), show srt [(nA, [numNd 2])] = [(nA, [numNd 2])] from rfl, if_pos ck_d]
theorem tn_names : namesN (wd [(nA, [numNd 2])]) = [nA] := names_whole ck_d
theorem tn_set1 : setN [numNd 1] nA [nullNd] = ([], 2) := by
  have hf : firstN [[numNd 1], [nullNd]] = 0 := by simp [firstN, ck_null, ck_num' 1 (by omega)]
  rw [setN, hf, if_neg (by simp), if_pos (.inl (by show (3 : Int) ≠ 8; omega))]
def realNd : Nd := ⟨4, 0, 0, ⟨#[49, 46, 53, 48]⟩, []⟩
def refNd : Nd := ⟨9, 3, 1, ⟨#[]⟩, []⟩
theorem tn_real : oneN realNd = ([], 2) := by
  have h : bareN realNd = false := by
    have : Nu.realN (Nu.B realNd.s) ≠ (Nu.B realNd.s, 0) := by decide +kernel
    simp [bareN, realNd] at this ⊢
    exact decide_eq_false this
  rw [oneN, if_pos (.inr h)]
theorem bare_ref : bareN refNd = true := by simp [bareN, refNd]
theorem tn_one : oneN refNd = ([refNd], 0) := by rw [oneN, if_neg (by rw [bare_ref]; simp [refNd])]
theorem tn_refs : refsN [refNd] = [(3, 1)] := by
  rw [refsN, if_pos (one_ok rfl (by simp [refNd]) bare_ref)]
  rfl
/-! arrays one in the other -/
def deepL : Nat → List Nd
  | 0 => [nullNd]
  | i + 1 => (arrayN [deepL i]).1
theorem deep_facts : ∀ i, i ≤ 255 → checkN (deepL i) = 0 ∧ Lib.maxOf (depsN (deepL i)) = (i : Int) + 1 ∧ (deepL i).length = i + 1 ∧ (∀ x ∈ deepL i, x.s.size = 0) ∧ depsN (deepL i) ≠ []
  | 0, _ => ⟨ck_null, by rw [deepL, dep_one rfl]; rfl, rfl, fun x hx => by obtain rfl : x = nullNd := by simpa [deepL] using hx
                                                                           rfl, by rw [deepL, dep_one rfl]; simp⟩
  | i + 1, h => by
    obtain ⟨h1, h2, h3, h4, h5⟩ := deep_facts i (by omega)
    have hc : ∀ x ∈ [deepL i], checkN x = 0 := by simpa using h1
    have hsh : shallow [deepL i] := fun x hx d hd => by
      obtain rfl : x = deepL i := by simpa using hx
      have := le_maxOf hd
      omega
    have hw : checkN (wholeN 7 [deepL i]) = 0 := by
      rcases whole_check hc (root7 _) with ⟨h, -⟩ | ⟨-, h⟩
      · exact h
      · exfalso
        rcases h with h | h
        · rw [whole_len] at h; simp [lenN] at h; omega
        · exact h hsh
    have hd : deepL (i + 1) = wholeN 7 [deepL i] := by
      rw [deepL, arrayN, if_pos (by rw [firstN, if_pos h1, firstN]), under_is, if_pos hw]
    obtain ⟨E, hE⟩ := whole_shape 7 [deepL i] (fun x hx => shape_checked (hc x hx))
    have hdep : depsN (deepL (i + 1)) = 1 :: (depsN (deepL i)).map (· + 1) := by
      rw [hd, depsN, hE]
      simp [deepsN]
    refine ⟨by rw [hd]; exact hw, ?_, by rw [hd, whole_len]; simp [lenN]; omega, fun x hx => ?_, by rw [hdep]; simp⟩
    · rw [hdep]
      refine Int.le_antisymm (maxOf_le (by simp) (fun x hx => ?_)) ?_
      · rcases List.mem_cons.1 hx with rfl | hx
        · omega
        · obtain ⟨y, hy, rfl⟩ := List.mem_map.1 hx
          have := le_maxOf hy
          omega
      · have hm : Lib.maxOf (depsN (deepL i)) ∈ depsN (deepL i) ∨ Lib.maxOf (depsN (deepL i)) ≤ (i : Int) := by
          refine Classical.byContradiction fun hn => ?_
          rw [not_or] at hn
          have : Lib.maxOf (depsN (deepL i)) ≤ (i : Int) := maxOf_le h5 (fun x hx => by
            have h9 := le_maxOf hx
            rcases Int.lt_or_eq_of_le h9 with q | q
            · omega
            · rw [q] at hx; exact absurd hx hn.1)
          exact hn.2 this
        rcases hm with hm | hm
        · have := le_maxOf (D := 1 :: (depsN (deepL i)).map (· + 1)) (x := (i : Int) + 1 + 1) (List.mem_cons_of_mem _ (List.mem_map.2 ⟨_, hm, by rw [h2]⟩))
          omega
        · omega
    · rw [hd] at hx
      rcases List.mem_cons.1 hx with rfl | hx
      · rfl
      · obtain ⟨l, hl, y, hy, he⟩ := body_mem _ _ _ hx
        obtain rfl : l = deepL i := by simpa using hl
        rw [he]
        exact h4 y hy
theorem deep_last : deepL 256 = [] := by
  obtain ⟨h1, h2, h3, h4, h5⟩ := deep_facts 255 (Nat.le_refl _)
  have hc : ∀ x ∈ [deepL 255], checkN x = 0 := by simpa using h1
  have hns : ¬ shallow [deepL 255] := fun h => by
    have : Lib.maxOf (depsN (deepL 255)) ≤ 255 := maxOf_le h5 (fun x hx => h _ (by simp) x hx)
    omega
  have hw : checkN (wholeN 7 [deepL 255]) = 3 := by
    rcases whole_check hc (root7 _) with ⟨-, -, h⟩ | ⟨h, -⟩
    · exact absurd h hns
    · exact h
  rw [deepL, arrayN, if_pos (by rw [firstN, if_pos h1, firstN]), under_is, hw, if_neg (by omega)]
theorem tn_bad : checkN [⟨7, 0, 0, ⟨#[]⟩, [2]⟩, nullNd] = 2 := rfl
theorem tn_none : checkN [] = 2 := rfl
theorem tn_ne : sameL aL (wd sP) = false := by
  cases h : sameL aL (wd sP) with
  | false => rfl
  | true => exact absurd (congrArg List.length ((sameL_iff _ _).1 h)) (by decide)
end Go.Proofs.YtkjcjklnclahdaaDoor.Tr
