/-
  Plain: canonical codes are free of beginnings; more counts have no longer code.
-/
import Derived.Test.YtgjenpdppobpkaaHwC
import Derived.Test.YtgjenpdppobpkaaPkI
namespace Go.Proofs.Ytgjenpdppobpkaa.Hu
open Go.RowKit

theorem nxN_far (c : Nat → Nat) (m : Nat) : ∀ d, 2 ^ d * (2 * (nxN c m + c m)) ≤ nxN c (m + 1 + d)
  | 0 => by rw [Nat.pow_zero, Nat.one_mul]; exact Nat.le_refl _
  | d + 1 => by
    have ih := nxN_far c m d
    rw [show m + 1 + (d + 1) = (m + 1 + d) + 1 by omega, nxN, Nat.pow_succ, Nat.mul_comm (2 ^ d) 2, Nat.mul_assoc]
    omega
theorem codesN_get (l : List Int) (i : Nat) (x : Int) (hi : l[i]? = some x) (hx : 0 < x) : (codesN l)[i]? = some (nxN (cntF l) x.toNat + cntI (l.take i) x.toNat) := by
  have hil := (List.getElem?_eq_some_iff.1 hi).1
  have h := codesN_at l i hil
  have hg : l.getD i 0 = x := by rw [List.getD_eq_getElem?_getD, hi]; rfl
  rw [hg, if_pos hx] at h
  rw [List.getElem?_eq_getElem (by rw [codesN, codesF_len]; exact hil)]
  rw [List.getD_eq_getElem?_getD, List.getElem?_eq_getElem (by rw [codesN, codesF_len]; exact hil)] at h
  exact congrArg some h
theorem cnt_lt (l : List Int) (i : Nat) (x : Int) (hi : l[i]? = some x) (hx : 0 < x) : cntI (l.take i) x.toNat < cntF l x.toNat := by
  have h1 := cntI_snoc (l.take i) x x.toNat
  rw [← ints_take l i x hi, if_pos (by omega)] at h1
  have h2 := cntI_take_le l (i + 1) x.toNat
  unfold cntF
  rw [if_neg (by omega)]
  omega
theorem cnt_mono (l : List Int) {i k : Nat} (h : i ≤ k) (n : Nat) : cntI (l.take i) n ≤ cntI (l.take k) n := by
  have e : l.take i = (l.take k).take i := by rw [List.take_take, Nat.min_eq_left h]
  rw [e]
  exact cntI_take_le _ _ _
theorem codes_free (l : List Int) (i k : Nat) (x y : Int) (hi : l[i]? = some x) (hk : l[k]? = some y) (hx : 0 < x) (hxy : x < y) (ci ck : Nat) (hci : (codesN l)[i]? = some ci) (hck : (codesN l)[k]? = some ck) : ci < ck / 2 ^ (y - x).toNat := by
  rw [codesN_get l i x hi hx] at hci
  rw [codesN_get l k y hk (by omega)] at hck
  have h1 := Option.some.inj hci
  have h2 := Option.some.inj hck
  have h3 := cnt_lt l i x hi hx
  have h4 := nxN_far (cntF l) x.toNat ((y - x).toNat - 1)
  rw [show x.toNat + 1 + ((y - x).toNat - 1) = y.toNat by omega] at h4
  have e : 2 ^ ((y - x).toNat - 1) * (2 * (nxN (cntF l) x.toNat + cntF l x.toNat)) = (nxN (cntF l) x.toNat + cntF l x.toNat) * 2 ^ (y - x).toNat := by
    rw [show (y - x).toNat = ((y - x).toNat - 1) + 1 by omega, Nat.pow_succ, Nat.add_sub_cancel, ← Nat.mul_assoc, Nat.mul_comm]
  rw [e] at h4
  refine Nat.lt_of_lt_of_le (by omega : ci < nxN (cntF l) x.toNat + cntF l x.toNat) ?_
  rw [Nat.le_div_iff_mul_le (Nat.pow_pos (by omega))]
  omega
theorem codes_rise (l : List Int) (i k : Nat) (x : Int) (hi : l[i]? = some x) (hk : l[k]? = some x) (hx : 0 < x) (hik : i < k) (ci ck : Nat) (hci : (codesN l)[i]? = some ci) (hck : (codesN l)[k]? = some ck) : ci < ck := by
  rw [codesN_get l i x hi hx] at hci
  rw [codesN_get l k x hk hx] at hck
  have h1 := Option.some.inj hci
  have h2 := Option.some.inj hck
  have h3 := cntI_snoc (l.take i) x x.toNat
  rw [← ints_take l i x hi, if_pos (by omega)] at h3
  have h4 := cnt_mono l (show i + 1 ≤ k by omega) x.toNat
  omega
/-! ### more counts -/
theorem dot_set (O : List Int) (i : Nat) (v : Int) (hO : i < O.length) : ∀ (l : List Int) (k : Nat), k ≤ i → i < k + l.length → dot l (O.set i v) k = dot l O k + l.getD (i - k) 0 * (v - O.getD i 0)
  | [], k, h1, h2 => by simp at h2; omega
  | c :: l, k, h1, h2 => by
    rw [dot, dot]
    by_cases hk : k = i
    · subst hk
      have e : dot l (O.set k v) (k + 1) = dot l O (k + 1) := by
        have gen : ∀ (l : List Int) (j : Nat), k < j → dot l (O.set k v) j = dot l O j := by
          intro l
          induction l with
          | nil => intro j _; rfl
          | cons c l ih => intro j hj; rw [dot, dot, ih (j + 1) (by omega), List.getD_eq_getElem?_getD, List.getElem?_set_ne (by omega), ← List.getD_eq_getElem?_getD]
        exact gen l (k + 1) (by omega)
      rw [e, Nat.sub_self, List.getD_eq_getElem?_getD, List.getElem?_set_self hO]
      show c * v + _ = _ + c * (v - _)
      rw [Int.mul_sub]
      omega
    · rw [dot_set O i v hO l (k + 1) (by omega) (by simp at h2; omega), List.getD_eq_getElem?_getD, List.getElem?_set_ne (by omega), ← List.getD_eq_getElem?_getD, show i - k = (i - (k + 1)) + 1 by omega, List.getD_cons_succ]
      omega
theorem kraS_perm {L M : List Int} (h : L.Perm M) : kraS L = kraS M := by
  induction h with
  | nil => rfl
  | cons x _ ih => rw [kraS, kraS, ih]
  | swap x y l => rw [kraS, kraS, kraS, kraS]; omega
  | trans _ _ ih1 ih2 => rw [ih1, ih2]
theorem set_perm (D : List Int) (i k : Nat) (hi : i < D.length) (hk : k < D.length) : ((D.set i (D.getD k 0)).set k (D.getD i 0)).Perm D := swp_perm D i k hi hk
theorem leaves_two (l : List Int) (i k : Nat) (hik : i ≠ k) (a b : Int) (hi : l[i]? = some a) (hk : l[k]? = some b) (ha : 0 < a) (hb : 0 < b) : 2 ≤ (leavesF l 0).length := by
  have e := congrArg List.length (leaves_zs l 0)
  simp only [List.length_map] at e
  rw [e]
  have m1 : (a, i) ∈ Zs l 0 := (zip_pos l 0 a i).2 ⟨Nat.zero_le _, by simpa using hi, ha⟩
  have m2 : (b, k) ∈ Zs l 0 := (zip_pos l 0 b k).2 ⟨Nat.zero_le _, by simpa using hk, hb⟩
  match Zs l 0, m1, m2 with
  | [], h, _ => cases h
  | [p], h1, h2 =>
    rw [List.mem_singleton] at h1 h2
    rw [← h1] at h2
    have := congrArg Prod.snd h2
    exact absurd this.symm hik
  | _ :: _ :: _, _, _ => simp
theorem deep_pos (l : List Int) (hk : 2 ≤ (leavesF l 0).length) (t : Int × Nat × Nat) (ht : t ∈ lvs (treeN l) 0) : t.2.2 ≠ 0 := by
  intro h0
  cases hT : treeN l with
  | leaf c s =>
    have e := tree_lfs l (by omega : 0 < (leavesF l 0).length)
    rw [hT] at e
    have e2 := e.length_eq
    have e3 := congrArg List.length (leaves_zs l 0)
    simp only [List.length_map] at e3
    unfold Zs at e3
    rw [List.length_map] at e3 e2
    simp [lfs] at e2
    omega
  | join c g a b =>
    rw [hT, lvs] at ht
    rcases List.mem_append.1 ht with h | h
    · have := lvs_pos a _ _ h; omega
    · have := lvs_pos b _ _ h; omega
theorem more_short (l : List Int) (hl : ∀ c ∈ l, 0 ≤ c) (hok : okB 15 l = true) (i k : Nat) (a b x y : Int) (hi : l[i]? = some a) (hk : l[k]? = some b) (hab : b < a) (hb : 0 < b) (hx : (deepN l)[i]? = some x) (hy : (deepN l)[k]? = some y) : x ≤ y := by
  refine Int.not_lt.1 fun hlt => ?_
  have hik : i ≠ k := fun e => by subst e; rw [hi] at hk; have := Option.some.inj hk; omega
  have h2 := leaves_two l i k hik a b hi hk (by omega) hb
  have h15 := deepN_15 hok
  have hil := (List.getElem?_eq_some_iff.1 hx).1
  have hkl := (List.getElem?_eq_some_iff.1 hy).1
  have gx : (deepN l).getD i 0 = x := by rw [List.getD_eq_getElem?_getD, hx]; rfl
  have gy : (deepN l).getD k 0 = y := by rw [List.getD_eq_getElem?_getD, hy]; rfl
  have hpm := set_perm (deepN l) i k hil hkl
  rw [gx, gy] at hpm
  have hfull := full_deep l h2 (fun y hy => (h15 y hy).2)
  have hy00 := (h15 y (List.mem_of_getElem? hy)).1
  have hx0 : 0 < x := by omega
  have hy0 : 0 < y := by
    rcases deepN_at l h2 k b hk with ⟨h, _⟩ | ⟨_, d, hd, he⟩
    · omega
    · rw [hy] at he
      have hd0 : d ≠ 0 := deep_pos l h2 _ hd
      have := Option.some.inj he
      omega
  have hle := least l (((deepN l).set i y).set k x) hl h2 (fun z hz => h15 z (hpm.mem_iff.1 hz)) (by rw [kraS_perm hpm, hfull]; exact Nat.le_refl _) (fun j c hj hc => by
    have hjl : j < (deepN l).length := by rw [deepN_len]; exact (List.getElem?_eq_some_iff.1 hj).1
    rw [List.getD_eq_getElem?_getD]
    by_cases hjk : k = j
    · subst hjk
      rw [List.getElem?_set_self (by rw [List.length_set]; exact hjl)]
      exact hx0
    · rw [List.getElem?_set_ne hjk]
      by_cases hji : i = j
      · subst hji
        rw [List.getElem?_set_self hjl]
        exact hy0
      · rw [List.getElem?_set_ne hji]
        rcases deepN_at l h2 j c hj with ⟨h, _⟩ | ⟨_, d, hd, he⟩
        · omega
        · rw [he]
          have hd1 : d ≠ 0 := deep_pos l h2 _ hd
          simp only [Option.getD_some]
          omega)
  have hll : (deepN l).length = l.length := deepN_len l
  rw [dot_set ((deepN l).set i y) k x (by rw [List.length_set]; exact hkl) l 0 (Nat.zero_le _) (by omega), dot_set (deepN l) i y hil l 0 (Nat.zero_le _) (by omega)] at hle
  have g1 : ((deepN l).set i y).getD k 0 = y := by rw [List.getD_eq_getElem?_getD, List.getElem?_set_ne hik, hy]; rfl
  have ga : l.getD i 0 = a := by rw [List.getD_eq_getElem?_getD, hi]; rfl
  have gb : l.getD k 0 = b := by rw [List.getD_eq_getElem?_getD, hk]; rfl
  rw [g1, gx, Nat.sub_zero, Nat.sub_zero, ga, gb] at hle
  have hpos : 0 < (a - b) * (x - y) := Int.mul_pos (by omega) (by omega)
  rw [Int.sub_mul, Int.mul_sub, Int.mul_sub] at hpos
  rw [Int.mul_sub, Int.mul_sub] at hle
  omega
end Go.Proofs.Ytgjenpdppobpkaa.Hu
