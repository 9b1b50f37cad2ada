/-
  Plain: counts of symbols, their lengths, the bits that are written and where they are read.
-/
import Derived.Test.YtchhgbhbldfofaaHwH
namespace Go.Proofs.Ytchhgbhbldfofaa.Hu
open Bt

/-! ### counts -/
def fq (L : List Nat) : List Int := (List.range 288).map fun i => ((L.count i : Nat) : Int)
theorem fq_len (L : List Nat) : (fq L).length = 288 := by simp [fq]
theorem fq_at (L : List Nat) (i : Nat) (h : i < 288) : (fq L)[i]? = some ((L.count i : Nat) : Int) := by
  unfold fq
  rw [List.getElem?_map, List.getElem?_range h]
  rfl
theorem fq_nil : fq [] = zers 288 := by
  apply List.ext_getElem?
  intro i
  by_cases h : i < 288
  · rw [fq_at _ _ h, zers, List.getElem?_replicate, if_pos h]; rfl
  · rw [List.getElem?_eq_none (by rw [fq_len]; omega), List.getElem?_eq_none (by rw [zers_len]; omega)]
theorem fq_snoc (L : List Nat) (s : Nat) : (fq L).set s (((L.count s : Nat) : Int) + 1) = fq (L ++ [s]) := by
  apply List.ext_getElem?
  intro i
  by_cases h : i < 288
  · rw [fq_at _ _ h, List.count_append, List.getElem?_set]
    by_cases hsi : s = i
    · subst hsi
      rw [if_pos rfl, if_pos (by rw [fq_len]; exact h)]
      simp
    · rw [if_neg hsi, fq_at _ _ h, List.count_singleton]
      have : (s == i) = false := beq_eq_false_iff_ne.2 hsi
      rw [this]
      simp
  · rw [List.getElem?_eq_none (by rw [List.length_set, fq_len]; omega), List.getElem?_eq_none (by rw [fq_len]; omega)]
theorem fq_rng (L : List Nat) : ∀ c ∈ fq L, 0 ≤ c ∧ c ≤ L.length := fun c hc => by
  obtain ⟨i, _, rfl⟩ := List.mem_map.1 hc
  have := List.count_le_length (a := i) (l := L)
  omega
theorem fq_err (L : List Nat) (hl : L.length ≤ 300) (m : Int) (h1 : 9 ≤ m) (h2 : m ≤ 15) : lensErr (fq L) m = false := by
  unfold lensErr
  rw [Bool.or_eq_false_iff, List.any_eq_false]
  refine ⟨fun x hx => ?_, decide_eq_false ?_⟩
  · have := fq_rng L x hx
    simp
    omega
  · have h3 := someN_le (fq L)
    rw [fq_len] at h3 ⊢
    have h4 : 2 ^ 9 ≤ 2 ^ m.toNat := Nat.pow_le_pow_right (by omega) (by omega)
    omega
/-! ### their lengths -/
theorem lensF_shape (m : Int) : ∀ (K : Nat) (f : List Int), (∀ c ∈ f, 0 ≤ c) → fitB K m f = true →
    ∃ f' : List Int, f'.length = f.length ∧ (∀ i : Nat, 0 < f.getD i 0 ↔ 0 < f'.getD i 0) ∧ (∀ c ∈ f', 0 ≤ c) ∧ someN f' = someN f ∧ lensF K m f = deepN f' ∧ okB m f' = true
  | 0, f, h, hf => ⟨f, rfl, fun _ => Iff.rfl, h, rfl, rfl, hf⟩
  | K + 1, f, h, hf => by
    rw [lensF]
    by_cases ho : okB m f = true
    · rw [if_pos ho]
      exact ⟨f, rfl, fun _ => Iff.rfl, h, rfl, rfl, ho⟩
    · rw [if_neg ho]
      have ho2 : okB m f = false := by simpa using ho
      rw [fitB, ho2, Bool.false_or] at hf
      obtain ⟨f', h1, h2, h3, h5, h4⟩ := lensF_shape m K (halfL f) (fun c hc => by
        obtain ⟨x, hx, rfl⟩ := List.mem_map.1 hc
        have := h x hx
        omega) hf
      refine ⟨f', by rw [h1]; simp [halfL], fun i => ?_, h3, by rw [h5, some_half f h], h4⟩
      rw [← h2]
      unfold halfL
      rw [List.getD_eq_getElem?_getD, List.getD_eq_getElem?_getD, List.getElem?_map]
      cases hx : f[i]? with
      | none => simp
      | some x =>
        have := h x (List.mem_of_getElem? hx)
        simp
        omega
theorem deepN_pos (f : List Int) (i : Nat) (hi : i < f.length) : 0 < (deepN f).getD i 0 ↔ 0 < f.getD i 0 := by
  have hg : f[i]? = some (f.getD i 0) := by rw [List.getD_eq_getElem?_getD, List.getElem?_eq_getElem hi]; rfl
  by_cases hk : 2 ≤ (leavesF f 0).length
  · rcases deepN_at f hk i _ hg with ⟨h1, h2⟩ | ⟨h1, d, h2, h3⟩
    · have e1 : (deepN f).getD i 0 = 0 := by rw [List.getD_eq_getElem?_getD, h2]; rfl
      rw [e1]
      omega
    · have e1 : (deepN f).getD i 0 = (d : Int) := by rw [List.getD_eq_getElem?_getD, h3]; rfl
      rw [e1]
      have := deep_pos f hk _ h2
      simp only at this
      omega
  · match hleaf : leavesF f 0, hk with
    | [], _ =>
      have hz := leaves_some f 0
      rw [hleaf] at hz
      rw [deepN_more (by rw [hleaf]; simp), hleaf]
      show 0 < (zers f.length).getD i 0 ↔ _
      have h1 : ¬ 0 < f.getD i 0 := fun h => by
        have : 0 < someN f := List.countP_pos_iff.2 ⟨f.getD i 0, List.mem_of_getElem? hg, by simpa using h⟩
        simp at hz
        omega
      rw [List.getD_eq_getElem?_getD, zers, List.getElem?_replicate, if_pos hi]
      simp only [Option.getD_some]
      omega
    | [x], _ =>
      obtain ⟨c, s, rfl, _, hsl, hc, hs⟩ := leavesF_mem f 0 x (by rw [hleaf]; simp)
      rw [Nat.sub_zero] at hs
      rw [Nat.zero_add] at hsl
      rw [deepN_one hleaf]
      show 0 < ((zers f.length).set s 1).getD i 0 ↔ _
      by_cases hsi : s = i
      · subst hsi
        rw [List.getD_eq_getElem?_getD, List.getElem?_set_self (by rw [zers_len]; exact hi)]
        rw [hg] at hs
        have := Option.some.inj hs
        simp only [Option.getD_some]
        omega
      · rw [List.getD_eq_getElem?_getD, List.getElem?_set_ne hsi, zers, List.getElem?_replicate, if_pos hi]
        simp only [Option.getD_some]
        have h1 : ¬ 0 < f.getD i 0 := fun h => by
          have hz := leaves_zs f 0
          have hZ : Zs f 0 = [(c, s)] := by
            have h3 := leavesF_lfs f 0
            rw [hleaf] at h3
            simpa [lfsL, lfs, Zs] using h3.symm
          have m1 : (f.getD i 0, i) ∈ Zs f 0 := (zip_pos f 0 _ i).2 ⟨Nat.zero_le _, by rw [Nat.sub_zero]; exact hg, h⟩
          rw [hZ, List.mem_singleton] at m1
          exact hsi (congrArg Prod.snd m1).symm
        omega
    | _ :: _ :: _, hk => simp at hk
theorem deepN_kra (f : List Int) (h15 : ∀ y ∈ deepN f, y ≤ 15) : kraS (deepN f) ≤ 32768 ∧ (2 ≤ someN f → kraS (deepN f) = 32768) := by
  have hz := leaves_some f 0
  by_cases hk : 2 ≤ (leavesF f 0).length
  · have := full_deep f hk h15
    exact ⟨by omega, fun _ => this⟩
  · refine ⟨?_, fun h => by omega⟩
    match hleaf : leavesF f 0, hk with
    | [], _ =>
      rw [deepN_more (by rw [hleaf]; simp), hleaf]
      have : kraS (topD f.length []) = 0 := kra_zeros _ (fun x hx => List.eq_of_mem_replicate hx)
      show kraS (topD f.length []) ≤ _
      omega
    | [x], _ =>
      rw [deepN_one hleaf]
      have gen : ∀ (n s : Nat), kraS ((zers n).set s 1) ≤ 16384 := by
        intro n
        induction n with
        | zero => intro s; simp [zers, kraS]
        | succ n ih =>
          intro s
          have e : zers (n + 1) = 0 :: zers n := by simp [zers, List.replicate_succ]
          rw [e]
          cases s with
          | zero =>
            rw [List.set_cons_zero, kraS, kra_zeros (zers n) (fun x hx => List.eq_of_mem_replicate hx)]
            decide
          | succ s =>
            rw [List.set_cons_succ, kraS]
            have := ih s
            simp
            exact this
      exact Nat.le_trans (gen _ _) (by omega)
    | _ :: _ :: _, hk => simp at hk
structure Lengths (f D : List Int) (m : Int) : Prop where
  len : D.length = f.length
  rng : ∀ y ∈ D, 0 ≤ y ∧ y ≤ m
  pos : ∀ i, i < f.length → (0 < D.getD i 0 ↔ 0 < f.getD i 0)
  kra : Hu.kra D ≤ 32768
  full : 2 ≤ someN f → Hu.kra D = 32768
  bad : badL D = false
theorem lengths_of (f : List Int) (m : Int) (hm : m ≤ 15) (hl : f.length ≤ 288) (h : ∀ c ∈ f, 0 ≤ c) (hf : fitB 40 m f = true) : Lengths f (lensF 40 m f) m := by
  obtain ⟨f', h1, h2, h3, h4, h5, h6⟩ := lensF_shape m 40 f h hf
  rw [h5]
  have hr : ∀ y ∈ deepN f', 0 ≤ y ∧ y ≤ m := fun y hy => by
    refine ⟨deepN_nn f' y hy, ?_⟩
    rw [okB_all] at h6
    exact of_decide_eq_true (List.all_eq_true.1 h6 y hy)
  have hk := deepN_kra f' (fun y hy => Int.le_trans (hr y hy).2 hm)
  have he : Hu.kra (deepN f') = kraS (deepN f') := kra_sum _ (fun y hy => ⟨(hr y hy).1, Int.le_trans (hr y hy).2 hm⟩)
  refine ⟨by rw [deepN_len, h1], hr, fun i hi => by rw [deepN_pos f' i (by omega), h2], by rw [he]; exact hk.1, fun h => by rw [he]; exact hk.2 (by omega), ?_⟩
  unfold badL
  rw [Bool.or_eq_false_iff, List.any_eq_false]
  refine ⟨decide_eq_false (by rw [deepN_len]; omega), fun x hx => ?_⟩
  have := hr x hx
  simp
  omega
theorem Lengths.codes {f D : List Int} {m : Int} (h : Lengths f D m) : codesE D = 0 := by
  unfold codesE
  rw [h.bad, if_neg (by simp), if_neg (by have := h.kra; omega)]
theorem Lengths.state {f D : List Int} {m : Int} (h : Lengths f D m) : (stateN D).2 = 0 ∧ (2 ≤ someN f → (stateN D).1 = 0) := by
  unfold stateN
  rw [h.bad]
  refine ⟨rfl, fun h2 => ?_⟩
  rw [h.full h2]
  rfl
/-! ### the bits -/
def cdB (D : List Int) (s : Nat) : List Nat := cbits ((codesN D).getD s 0) (D.getD s 0).toNat
def allB (D : List Int) (L : List Nat) : List Nat := L.flatMap (cdB D)
theorem cdB_len (D : List Int) (s : Nat) : (cdB D s).length = (D.getD s 0).toNat := cbits_len _ _
theorem allB_snoc (D : List Int) (L : List Nat) (s : Nat) : allB D (L ++ [s]) = allB D L ++ cdB D s := by simp [allB]
theorem allB_bin (D : List Int) (L : List Nat) : Bin (allB D L) := fun x hx => by
  obtain ⟨s, _, h⟩ := List.mem_flatMap.1 hx
  exact cbits_bin _ _ x h
theorem dot_set_left (O : List Int) (i : Nat) (v : Int) : ∀ (l : List Int) (k : Nat), i < l.length → dot (l.set i v) O k = dot l O k + (v - l.getD i 0) * O.getD (k + i) 0
  | [], _, h => by simp at h
  | c :: l, k, h => by
    cases i with
    | zero =>
      rw [List.set_cons_zero, dot, dot]
      show _ = _ + (v - c) * O.getD (k + 0) 0
      simp only [Int.sub_mul, Nat.add_zero]
      omega
    | succ i =>
      rw [List.set_cons_succ, dot, dot, dot_set_left O i v l (k + 1) (by simpa using h), show k + 1 + i = k + (i + 1) by omega, List.getD_cons_succ]
      omega
theorem dot_zeros (O : List Int) : ∀ (n k : Nat), dot (zers n) O k = 0
  | 0, _ => rfl
  | n + 1, k => by
    have e : zers (n + 1) = 0 :: zers n := by simp [zers, List.replicate_succ]
    rw [e, dot, dot_zeros O n, Int.zero_mul]
    rfl
theorem allB_dot (D : List Int) (hD : ∀ y ∈ D, 0 ≤ y) : ∀ (n : Nat) (L : List Nat), L.length = n → (∀ s ∈ L, s < 288) → (((allB D L).length : Nat) : Int) = dot (fq L) D 0
  | 0, [], _, _ => by rw [fq_nil, dot_zeros]; rfl
  | n + 1, L, hn, h => by
    obtain ⟨M, s, rfl⟩ : ∃ M s, L = M ++ [s] := by
      have hne : L ≠ [] := fun e => by rw [e] at hn; simp at hn
      exact ⟨L.dropLast, L.getLast hne, (List.dropLast_concat_getLast hne).symm⟩
    have hs := h s (by simp)
    have ih := allB_dot D hD n M (by simpa using hn) (fun t ht => h t (by simp [ht]))
    rw [allB_snoc, List.length_append, cdB_len, ← fq_snoc M s, dot_set_left D s _ (fq M) 0 (by rw [fq_len]; exact hs), Nat.zero_add, ← ih]
    have hg : (fq M).getD s 0 = ((M.count s : Nat) : Int) := by rw [List.getD_eq_getElem?_getD, fq_at M s hs]; rfl
    have h0 : 0 ≤ D.getD s 0 := by
      rw [List.getD_eq_getElem?_getD]
      cases hk : D[s]? with
      | none => simp
      | some y => simpa using hD y (List.mem_of_getElem? hk)
    rw [hg]
    push_cast
    rw [Int.toNat_of_nonneg h0]
    have : (((M.count s : Nat) : Int) + 1 - ((M.count s : Nat) : Int)) * D.getD s 0 = D.getD s 0 := by
      rw [show (((M.count s : Nat) : Int) + 1 - ((M.count s : Nat) : Int)) = 1 by omega, Int.one_mul]
    omega
theorem cbits_at (c : Nat) : ∀ (n j : Nat), j < n → (cbits c n)[j]? = some (c / 2 ^ (n - 1 - j) % 2)
  | 0, j, h => by omega
  | n + 1, 0, _ => by rw [cbits, List.getElem?_cons_zero, Nat.add_sub_cancel, Nat.sub_zero]
  | n + 1, j + 1, h => by rw [cbits, List.getElem?_cons_succ, cbits_at c n j (by omega), show n + 1 - 1 - (j + 1) = n - 1 - j by omega]
/-- at each symbol's place it is read -/
theorem back_read (D : List Int) (hb : badL D = false) (hk : kra D ≤ 32768) (L : List Nat) (i s : Nat) (hs : L[i]? = some s) (hsD : 0 < D.getD s 0) :
    readN D (bit (txt (packB false (allB D L))) false) (8 * (txt (packB false (allB D L))).size) (allB D (L.take i)).length = (s, 0, (allB D (L.take (i + 1))).length) := by
  have hsl : s < D.length := by
    refine Nat.lt_of_not_le fun h => ?_
    rw [List.getD_eq_getElem?_getD, List.getElem?_eq_none h] at hsD
    simp at hsD
  obtain ⟨n, hn⟩ : ∃ n : Nat, D.getD s 0 = n := ⟨(D.getD s 0).toNat, by omega⟩
  have hDs : D[s]? = some (n : Int) := by rw [← hn, List.getD_eq_getElem?_getD, List.getElem?_eq_getElem hsl]; rfl
  have hn15 := (bad_false hb).2 _ (List.mem_of_getElem? hDs)
  obtain ⟨c, hc⟩ : ∃ c, (codesN D)[s]? = some c := ⟨_, List.getElem?_eq_getElem (by rw [codesN, codesF_len]; exact hsl)⟩
  have hcg : (codesN D).getD s 0 = c := by rw [List.getD_eq_getElem?_getD, hc]; rfl
  have hil := (List.getElem?_eq_some_iff.1 hs).1
  have hsplit : allB D L = allB D (L.take i) ++ (cbits c n ++ allB D (L.drop (i + 1))) := by
    have e : L = L.take i ++ s :: L.drop (i + 1) := by
      have := (List.getElem?_eq_some_iff.1 hs).2
      rw [← this, List.getElem_cons_drop hil, List.take_append_drop]
    have e2 : cdB D s = cbits c n := by unfold cdB; rw [hcg, hn, Int.toNat_natCast]
    exact calc allB D L = allB D (L.take i ++ s :: L.drop (i + 1)) := by rw [← e]
      _ = allB D (L.take i) ++ (cbits c n ++ allB D (L.drop (i + 1))) := by rw [← e2]; simp [allB]
  have htk : allB D (L.take (i + 1)) = allB D (L.take i) ++ cbits c n := by
    rw [List.take_add_one, hs, Option.toList_some, allB_snoc]
    unfold cdB
    rw [hcg, hn, Int.toNat_natCast]
  have hlen : (allB D (L.take i)).length + n ≤ (allB D L).length := by rw [hsplit, List.length_append, List.length_append, cbits_len]; omega
  have hsz : (txt (packB false (allB D L))).size = ((allB D L).length + 7) / 8 := by rw [txt_size, packB_length]
  have h1 := read_code D (bit (txt (packB false (allB D L))) false) (8 * (txt (packB false (allB D L))).size) s n c (allB D (L.take i)).length hDs (by omega) (by omega) hc (by rw [hsz]; omega) hk (fun j hj => by
    rw [bit_txt false (allB D L) (allB_bin D L) _ (by omega), hsplit, List.getD_eq_getElem?_getD, List.getElem?_append_right (by omega), List.getElem?_append_left (by rw [cbits_len]; omega), show (allB D (L.take i)).length + j - (allB D (L.take i)).length = j by omega, cbits_at c n j hj]
    rfl)
  rw [h1, htk, List.length_append, cbits_len]
end Go.Proofs.Ytchhgbhbldfofaa.Hu
