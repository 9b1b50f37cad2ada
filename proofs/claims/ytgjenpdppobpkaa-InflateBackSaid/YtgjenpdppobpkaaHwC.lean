/-
  The statement HuffLeast walked.
-/
import Derived.Test.YtgjenpdppobpkaaPkJ
import Derived.Test.YtgjenpdppobpkaaHwB
namespace Go.Proofs.Ytgjenpdppobpkaa.Hu
open Go.RowKit

theorem dot_snoc (O : List Int) (x : Int) : ∀ (l : List Int) (k : Nat), dot (l ++ [x]) O k = dot l O k + x * O.getD (k + l.length) 0
  | [], k => by simp [dot]
  | c :: l, k => by
    rw [List.cons_append, dot, dot, dot_snoc O x l (k + 1), List.length_cons, show k + 1 + l.length = k + (l.length + 1) by omega]
    omega
theorem dot_take (l O : List Int) (i : Nat) (x y : Int) (hx : l[i]? = some x) (hy : O[i]? = some y) : dot (l.take (i + 1)) O 0 = dot (l.take i) O 0 + x * y := by
  have hi := (List.getElem?_eq_some_iff.1 hx).1
  rw [ints_take l i x hx, dot_snoc, Nat.zero_add, List.length_take, Nat.min_eq_left (by omega), List.getD_eq_getElem?_getD, hy]
  rfl
theorem mul_bd {x y : Int} (h1 : 0 ≤ x) (h2 : x ≤ 20) (h3 : 0 ≤ y) (h4 : y ≤ 15) : 0 ≤ x * y ∧ x * y ≤ 300 :=
  ⟨Int.mul_nonneg h1 h3, Int.le_trans (Int.mul_le_mul h2 h4 h3 (by omega)) (by omega)⟩
/-- all of a statement's counts are small -/
structure Small (f O : List Int) (i : Nat) : Prop where
  rng : ∀ j c, j < i → f[j]? = some c → 0 ≤ c ∧ c ≤ 20
  pos : ∀ j c y, j < i → f[j]? = some c → O[j]? = some y → 0 < c → y ≠ 0
theorem Small.lens {f O : List Int} (h : Small f O f.length) (hl : f.length ≤ 60) : lensErr f 15 = false ∧ lensO f 15 = deepN f := by
  have hr : ∀ c ∈ f, 0 ≤ c ∧ c ≤ 20 := fun c hc => by
    obtain ⟨j, hj⟩ := List.getElem?_of_mem hc
    exact h.rng j c (List.getElem?_eq_some_iff.1 hj).1 hj
  have he : lensErr f 15 = false := by
    unfold lensErr
    rw [Bool.or_eq_false_iff, List.any_eq_false]
    refine ⟨fun x hx => by have := hr x hx; simp; omega, decide_eq_false ?_⟩
    have := someN_le f
    have e : ((2 ^ (15 : Int).toNat : Nat) : Int) = 32768 := by decide
    rw [e]
    omega
  refine ⟨he, ?_⟩
  unfold lensO
  rw [he]
  show lensF 40 15 f = deepN f
  rw [lensF, if_pos (small_fit f hl hr)]
theorem least_all {f O : List Int} (h : Small f O f.length) (hlen : f.length ≤ O.length) (hO : ∀ y ∈ O, 0 ≤ y ∧ y ≤ 15) (hk : kra O ≤ 32768) : dot f (deepN f) 0 ≤ dot f O 0 := by
  have hr : ∀ c ∈ f, 0 ≤ c := fun c hc => by
    obtain ⟨j, hj⟩ := List.getElem?_of_mem hc
    exact (h.rng j c (List.getElem?_eq_some_iff.1 hj).1 hj).1
  have hp : ∀ i c, f[i]? = some c → 0 < c → 0 < O.getD i 0 := fun i c hi hc => by
    have hil := (List.getElem?_eq_some_iff.1 hi).1
    have hO2 : O[i]? = some O[i] := List.getElem?_eq_getElem (by omega)
    have := h.pos i c _ hil hi hO2 hc
    have := hO O[i] (List.getElem_mem _)
    rw [List.getD_eq_getElem?_getD, hO2]
    simp only [Option.getD_some]
    omega
  by_cases h2 : 2 ≤ (leavesF f 0).length
  · exact least f O hr h2 hO (by rw [← kra_sum O hO]; exact hk) hp
  · rw [dot_cost _ (deepN_nn f) f 0 hr, dot_cost _ (fun y hy => (hO y hy).1) f 0 hr]
    have hz := leaves_zs f 0
    match hleaf : leavesF f 0, h2 with
    | [], _ =>
      rw [hleaf] at hz
      have : Zs f 0 = [] := by
        have := congrArg List.length hz
        exact List.eq_nil_of_length_eq_zero (by simpa using this.symm)
      rw [this]
      exact Int.le_refl _
    | [x], _ =>
      rw [hleaf] at hz
      obtain ⟨c, s, rfl, _, hsl, hc, hs⟩ := leavesF_mem f 0 x (by rw [hleaf]; simp)
      rw [Nat.sub_zero] at hs
      rw [Nat.zero_add] at hsl
      have hZ : Zs f 0 = [(c, s)] := by
        have h3 := leavesF_lfs f 0
        rw [hleaf] at h3
        simpa [lfsL, lfs, Zs] using h3.symm
      have hD : (deepN f).getD s 0 = 1 := by
        rw [deepN_one hleaf, List.getD_eq_getElem?_getD]
        show ((zers f.length).set s 1)[s]?.getD 0 = 1
        rw [List.getElem?_set_self (by rw [zers_len]; exact hsl)]
        rfl
      have hO1 := hp s c hs hc
      rw [hZ]
      show c * ((((deepN f).getD s 0).toNat : Nat) : Int) + 0 ≤ c * (((O.getD s 0).toNat : Nat) : Int) + 0
      rw [hD]
      have := Int.mul_le_mul_of_nonneg_left (show (((1 : Int).toNat : Nat) : Int) ≤ (((O.getD s 0).toNat : Nat) : Int) by omega) (show 0 ≤ c by omega)
      omega
    | _ :: _ :: _, h2 => simp at h2
theorem deepN_15 {f : List Int} (h : okB 15 f = true) : ∀ y ∈ deepN f, 0 ≤ y ∧ y ≤ 15 := fun y hy => by
  refine ⟨deepN_nn f y hy, ?_⟩
  rw [okB_all] at h
  exact of_decide_eq_true (List.all_eq_true.1 h y hy)
end Go.Proofs.Ytgjenpdppobpkaa.Hu
