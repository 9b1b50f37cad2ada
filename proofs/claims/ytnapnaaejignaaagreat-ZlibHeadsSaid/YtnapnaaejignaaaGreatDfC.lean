/-
  deflate, plain: counts, trimming, the row of lengths and its reading back. No program is in sight here.
-/
import Derived.Test.YtnapnaaejignaaaGreatDfB
namespace Go.Proofs.YtnapnaaejignaaaGreat.De
open Go.RowKit Bt Hu If Mt

/-! ### counts -/
def inc (l : List Int) (i : Nat) : List Int := l.set i (l.getD i 0 + 1)
theorem inc_len (l : List Int) (i : Nat) : (inc l i).length = l.length := by simp [inc]
theorem getD_set (l : List Int) (i j : Nat) (v : Int) : (l.set i v).getD j 0 = if i = j ∧ i < l.length then v else l.getD j 0 := by
  rw [List.getD_eq_getElem?_getD, List.getElem?_set]
  by_cases h : i = j
  · subst h
    rw [if_pos rfl]
    by_cases h2 : i < l.length
    · rw [if_pos h2, if_pos ⟨rfl, h2⟩]; rfl
    · rw [if_neg h2, if_neg (fun h => h2 h.2), List.getD_eq_getElem?_getD, List.getElem?_eq_none (by omega)]
  · rw [if_neg h, if_neg (fun h' => h h'.1), List.getD_eq_getElem?_getD]
theorem inc_at (l : List Int) (i j : Nat) : (inc l i).getD j 0 = if i = j ∧ i < l.length then l.getD i 0 + 1 else l.getD j 0 := getD_set _ _ _ _
theorem sum_set (l : List Int) : ∀ (i : Nat) (v : Int), i < l.length → (l.set i v).sum = l.sum + (v - l.getD i 0) := by
  induction l with
  | nil => intro i v h; simp at h
  | cons x l ih =>
    intro i v h
    cases i with
    | zero => simp only [List.set_cons_zero, List.sum_cons, List.getD_cons_zero]; omega
    | succ i =>
      rw [List.set_cons_succ, List.sum_cons, List.sum_cons, List.getD_cons_succ, ih i v (by simpa using h)]
      omega
theorem inc_sum (l : List Int) (i : Nat) (h : i < l.length) : (inc l i).sum = l.sum + 1 := by
  unfold inc
  rw [sum_set l i _ h]
  omega
/-- numbers that are not below 0, and at most m -/
def Rg (m : Int) (l : List Int) : Prop := ∀ x ∈ l, 0 ≤ x ∧ x ≤ m
theorem Rg.at {m : Int} {l : List Int} (h : Rg m l) (hm : 0 ≤ m) (i : Nat) : 0 ≤ l.getD i 0 ∧ l.getD i 0 ≤ m := by
  rw [List.getD_eq_getElem?_getD]
  cases hi : l[i]? with
  | none => exact ⟨Int.le_refl _, hm⟩
  | some x => exact h x (List.mem_of_getElem? hi)
theorem Rg.inc {m : Int} {l : List Int} (h : Rg m l) (hm : 0 ≤ m) (i : Nat) : Rg (m + 1) (De.inc l i) := fun x hx => by
  rcases mem_set_cases hx with h1 | rfl
  · have := h x h1; omega
  · have := h.at hm i; omega
theorem Rg.mono {m n : Int} {l : List Int} (h : Rg m l) (hn : m ≤ n) : Rg n l := fun x hx => by have := h x hx; omega
theorem Rg.zers (n : Nat) : Rg 0 (Hu.zers n) := fun x hx => by rw [List.eq_of_mem_replicate hx]; omega
def cntL : List Pc → List Int → List Int → List Int × List Int
  | [], a, b => (a, b)
  | x :: l, a, b => if x.2.1 = 0 then cntL l (inc a x.1.toNat) b else cntL l (inc a (lsN x.2.1.toNat)) (inc b (dsN x.2.2.toNat))
def cntA (l : List Pc) : List Int := inc (cntL l (zers 286) (zers 30)).1 256
def cntB (l : List Pc) : List Int := (cntL l (zers 286) (zers 30)).2
structure CntOk (l : List Pc) (a b : List Int) (m : Int) (r : List Int × List Int) : Prop where
  len1 : r.1.length = 286
  len2 : r.2.length = 30
  rg1 : Rg (m + l.length) r.1
  rg2 : Rg (m + l.length) r.2
  up1 : ∀ i, a.getD i 0 ≤ r.1.getD i 0
  up2 : ∀ i, b.getD i 0 ≤ r.2.getD i 0
  use : ∀ x ∈ l, PcUse r.1 r.2 x
  sum : r.1.sum = a.sum + l.length
  diff : (r.1.drop 257).sum - r.2.sum = (a.drop 257).sum - b.sum
  end_ : r.1.getD 256 0 = a.getD 256 0
theorem drop_set_lt (l : List Int) (i k : Nat) (v : Int) (h : i < k) : (l.set i v).drop k = l.drop k := by
  rw [List.drop_set, if_pos h]
theorem drop_set_ge (l : List Int) (i k : Nat) (v : Int) (h : k ≤ i) : (l.set i v).drop k = (l.drop k).set (i - k) v := by
  rw [List.drop_set, if_neg (by omega)]
theorem inc_up (l : List Int) (i j : Nat) : l.getD j 0 ≤ (inc l i).getD j 0 := by
  rw [inc_at]
  split
  · rename_i h; rw [h.1]; omega
  · exact Int.le_refl _
theorem cnt_ok : ∀ (l : List Pc) (a b : List Int) (m : Int), badN l = false → a.length = 286 → b.length = 30 → 0 ≤ m → Rg m a → Rg m b → CntOk l a b m (cntL l a b)
  | [], a, b, m, _, ha, hb, _, ra, rb => ⟨ha, hb, by simpa [cntL] using ra, by simpa [cntL] using rb, fun _ => Int.le_refl _, fun _ => Int.le_refl _, fun x hx => (by cases hx), by simp [cntL], rfl, rfl⟩
  | x :: l, a, b, m, hbad, ha, hb, hm, ra, rb => by
    obtain ⟨m1, m2⟩ := bad_cons hbad
    have hm' := mayP_iff x m1
    rw [cntL]
    by_cases h0 : x.2.1 = 0
    · rw [if_pos h0]
      have hx := x.1.toNat_lt
      obtain ⟨c1, c2, c3, c4, c5, c6, c7, c8, c9, c10⟩ := cnt_ok l (inc a x.1.toNat) b (m + 1) m2 (by rw [inc_len]; exact ha) hb (by omega) (ra.inc hm _) (rb.mono (by omega))
      have e : m + ((x :: l).length : Nat) = m + 1 + (l.length : Nat) := by rw [List.length_cons]; omega
      refine ⟨c1, c2, by rw [e]; exact c3, by rw [e]; exact c4, fun i => Int.le_trans (inc_up _ _ _) (c5 i), c6, fun y hy => ?_, ?_, ?_, ?_⟩
      · rcases List.mem_cons.1 hy with rfl | hy
        · refine ⟨fun _ => ?_, fun h => absurd h0 h⟩
          have h1 := c5 y.1.toNat
          rw [inc_at, if_pos ⟨rfl, by omega⟩] at h1
          have := ra.at hm y.1.toNat
          omega
        · exact c7 y hy
      · rw [c8, inc_sum _ _ (by omega), List.length_cons]; omega
      · rw [c9]
        unfold inc
        rw [drop_set_lt _ _ _ _ (by omega)]
      · rw [c10, inc_at, if_neg (by omega)]
    · rw [if_neg h0]
      obtain ⟨a1, a2, _⟩ := ls_facts x.2.1.toNat (by omega) (by omega)
      obtain ⟨b1, _⟩ := ds_facts x.2.2.toNat (by omega) (by omega)
      obtain ⟨c1, c2, c3, c4, c5, c6, c7, c8, c9, c10⟩ := cnt_ok l (inc a (lsN x.2.1.toNat)) (inc b (dsN x.2.2.toNat)) (m + 1) m2 (by rw [inc_len]; exact ha) (by rw [inc_len]; exact hb) (by omega) (ra.inc hm _) (rb.inc hm _)
      have e : m + ((x :: l).length : Nat) = m + 1 + (l.length : Nat) := by rw [List.length_cons]; omega
      refine ⟨c1, c2, by rw [e]; exact c3, by rw [e]; exact c4, fun i => Int.le_trans (inc_up _ _ _) (c5 i), fun i => Int.le_trans (inc_up _ _ _) (c6 i), fun y hy => ?_, ?_, ?_, ?_⟩
      · rcases List.mem_cons.1 hy with rfl | hy
        · refine ⟨fun h => absurd h h0, fun _ => ?_⟩
          have h1 := c5 (lsN y.2.1.toNat)
          rw [inc_at, if_pos ⟨rfl, by omega⟩] at h1
          have h2 := c6 (dsN y.2.2.toNat)
          rw [inc_at, if_pos ⟨rfl, by omega⟩] at h2
          have := ra.at hm (lsN y.2.1.toNat)
          have := rb.at hm (dsN y.2.2.toNat)
          omega
        · exact c7 y hy
      · rw [c8, inc_sum _ _ (by omega), List.length_cons]; omega
      · rw [c9, inc_sum b _ (by omega)]
        unfold inc
        rw [drop_set_ge _ _ _ _ a1, sum_set _ _ _ (by rw [List.length_drop]; omega), List.getD_eq_getElem?_getD, List.getD_eq_getElem?_getD, List.getElem?_drop, show 257 + (lsN x.2.1.toNat - 257) = lsN x.2.1.toNat by omega]
        omega
      · rw [c10, inc_at, if_neg (by omega)]
/-! ### trimming -/
def trimF : Nat → Nat → List Int → List Int
  | 0, _, l => l
  | g + 1, k, l => if k < l.length ∧ l.getD (l.length - 1) 0 = 0 then trimF g k (l.take (l.length - 1)) else l
def trimN (k : Nat) (l : List Int) : List Int := trimF l.length k l
theorem trimF_spec : ∀ (g k : Nat) (l : List Int), ∃ m, trimF g k l = l.take m ∧ m ≤ l.length ∧ (k ≤ l.length → k ≤ m) ∧ ∀ i, m ≤ i → l.getD i 0 = 0
  | 0, k, l => ⟨l.length, by rw [trimF, List.take_length], Nat.le_refl _, fun h => h, fun i hi => by rw [List.getD_eq_getElem?_getD, List.getElem?_eq_none hi]; rfl⟩
  | g + 1, k, l => by
    rw [trimF]
    by_cases h : k < l.length ∧ l.getD (l.length - 1) 0 = 0
    · rw [if_pos h]
      obtain ⟨m, h1, h2, h3, h4⟩ := trimF_spec g k (l.take (l.length - 1))
      have ht : (l.take (l.length - 1)).length = l.length - 1 := by rw [List.length_take]; omega
      rw [ht] at h2 h3
      refine ⟨m, by rw [h1, List.take_take, Nat.min_eq_left h2], by omega, fun _ => h3 (by omega), fun i hi => ?_⟩
      by_cases h5 : i < l.length - 1
      · have := h4 i hi
        rw [List.getD_eq_getElem?_getD, List.getElem?_take, if_pos h5] at this
        rw [List.getD_eq_getElem?_getD]
        exact this
      · by_cases h6 : i = l.length - 1
        · rw [h6]; exact h.2
        · rw [List.getD_eq_getElem?_getD, List.getElem?_eq_none (by omega)]; rfl
    · rw [if_neg h]
      exact ⟨l.length, by rw [List.take_length], Nat.le_refl _, fun h => h, fun i hi => by rw [List.getD_eq_getElem?_getD, List.getElem?_eq_none hi]; rfl⟩
theorem trimN_spec (k : Nat) (l : List Int) : ∃ m, trimN k l = l.take m ∧ m ≤ l.length ∧ (k ≤ l.length → k ≤ m) ∧ ∀ i, m ≤ i → l.getD i 0 = 0 := trimF_spec _ k l
theorem take_getD {l : List Int} {m : Nat} (h : ∀ i, m ≤ i → l.getD i 0 = 0) (i : Nat) : (l.take m).getD i 0 = l.getD i 0 := by
  rw [List.getD_eq_getElem?_getD, List.getElem?_take]
  split
  · rw [List.getD_eq_getElem?_getD]
  · rw [h i (by omega)]; rfl
theorem kraS_take : ∀ (l : List Int) (m : Nat), (∀ i, m ≤ i → l.getD i 0 = 0) → kraS (l.take m) = kraS l
  | [], m, _ => by rw [List.take_nil]
  | x :: l, 0, h => by
    rw [List.take_zero]
    refine (kra_zeros _ fun y hy => ?_).symm
    obtain ⟨i, hi⟩ := List.getElem?_of_mem hy
    have := h i (Nat.zero_le _)
    rw [List.getD_eq_getElem?_getD, hi] at this
    exact this
  | x :: l, m + 1, h => by
    rw [List.take_succ_cons, kraS, kraS, kraS_take l m (fun i hi => by have := h (i + 1) (by omega); rwa [List.getD_cons_succ] at this)]
theorem kra_take {l : List Int} {m : Nat} (hr : ∀ x ∈ l, 0 ≤ x ∧ x ≤ 15) (h : ∀ i, m ≤ i → l.getD i 0 = 0) : kra (l.take m) = kra l := by
  have e1 : kra l = kraS l := kra_sum l hr
  have e2 : kra (l.take m) = kraS (l.take m) := kra_sum _ (fun x hx => hr x (List.mem_of_mem_take hx))
  rw [e1, e2, kraS_take l m h]
theorem bad_take8 {l : List Int} (h : badL l = false) (m : Nat) : badL (l.take m) = false := by
  obtain ⟨h1, h2⟩ := bad_false h
  unfold badL
  rw [Bool.or_eq_false_iff, List.any_eq_false]
  refine ⟨decide_eq_false (by rw [List.length_take]; omega), fun x hx => ?_⟩
  have := h2 x (List.mem_of_mem_take hx)
  simp
  omega
theorem sum_take : ∀ (l : List Int) (m : Nat), (∀ i, m ≤ i → l.getD i 0 = 0) → (l.take m).sum = l.sum
  | [], m, _ => by rw [List.take_nil]
  | x :: l, 0, h => by
    rw [List.take_zero]
    have hx := h 0 (Nat.le_refl _)
    have := sum_take l 0 (fun i _ => by have := h (i + 1) (Nat.zero_le _); rwa [List.getD_cons_succ] at this)
    rw [List.take_zero] at this
    rw [List.getD_cons_zero] at hx
    rw [List.sum_cons, hx, ← this]
    rfl
  | x :: l, m + 1, h => by
    rw [List.take_succ_cons, List.sum_cons, List.sum_cons, sum_take l m (fun i hi => by have := h (i + 1) (by omega); rwa [List.getD_cons_succ] at this)]
/-! ### the row of lengths as symbols -/
def sameF (v : Int) : List Int → Nat
  | [] => 0
  | x :: l => if x = v then sameF v l + 1 else 0
def sameN (l : List Int) : Nat := sameF (l.headD 0) l
theorem sameF_le (v : Int) : ∀ l : List Int, sameF v l ≤ l.length
  | [] => Nat.le_refl _
  | x :: l => by
    rw [sameF]
    split
    · have := sameF_le v l; rw [List.length_cons]; omega
    · exact Nat.zero_le _
theorem sameF_take (v : Int) : ∀ (l : List Int) (n : Nat), n ≤ sameF v l → l.take n = List.replicate n v
  | l, 0, _ => by rw [List.take_zero]; rfl
  | [], n + 1, h => by simp [sameF] at h
  | x :: l, n + 1, h => by
    rw [sameF] at h
    split at h
    · rename_i hx
      rw [List.take_succ_cons, hx, sameF_take v l n (by omega), List.replicate_succ]
    · omega
theorem sameN_pos (l : List Int) (h : 0 < l.length) : 1 ≤ sameN l := by
  cases l with
  | nil => simp at h
  | cons x l => unfold sameN; rw [sameF, List.headD_cons, if_pos rfl]; omega
theorem sameN_le (l : List Int) : sameN l ≤ l.length := sameF_le _ _
abbrev Td := Int × Nat × Nat
def rowW (v : Int) (l : List Int) : List Td :=
  if _h : 0 < l.length then
    if _h2 : 0 < v ∧ l.headD 0 = v ∧ 3 ≤ sameN l then (16, 2, min (sameN l) 6 - 3) :: rowW v (l.drop (min (sameN l) 6))
    else if 0 < l.headD 0 ∨ sameN l < 3 then (l.headD 0, 0, 0) :: rowW (l.headD 0) (l.drop 1)
    else if sameN l < 11 then (17, 3, sameN l - 3) :: rowW 0 (l.drop (sameN l))
    else (18, 7, min (sameN l) 138 - 11) :: rowW 0 (l.drop (min (sameN l) 138))
  else []
termination_by l.length
decreasing_by
  all_goals
    have := sameN_pos l _h
    rw [List.length_drop]
    omega
theorem rowW_nil (v : Int) : rowW v [] = [] := by rw [rowW]; simp
theorem rowW_same (v : Int) (l : List Int) (h : ¬ (0 < l.length ∧ 0 < v ∧ l.headD 0 = v ∧ 3 ≤ sameN l)) : rowW v l = rowW 0 l := by
  by_cases hl : 0 < l.length
  · conv => lhs; rw [rowW, dif_pos hl, dif_neg (fun h2 => h ⟨hl, h2⟩)]
    conv => rhs; rw [rowW, dif_pos hl, dif_neg (by omega)]
  · conv => lhs; rw [rowW, dif_neg hl]
    conv => rhs; rw [rowW, dif_neg hl]
theorem rowW_again (v : Int) (l : List Int) (hl : 0 < l.length) (h : 0 < v ∧ l.headD 0 = v ∧ 3 ≤ sameN l) : rowW v l = (16, 2, min (sameN l) 6 - 3) :: rowW v (l.drop (min (sameN l) 6)) := by
  rw [rowW, dif_pos hl, dif_pos h]
theorem rowW_step (l : List Int) (hl : 0 < l.length) : rowW 0 l = if 0 < l.headD 0 ∨ sameN l < 3 then (l.headD 0, 0, 0) :: rowW (l.headD 0) (l.drop 1)
    else if sameN l < 11 then (17, 3, sameN l - 3) :: rowW 0 (l.drop (sameN l))
    else (18, 7, min (sameN l) 138 - 11) :: rowW 0 (l.drop (min (sameN l) 138)) := by
  rw [rowW, dif_pos hl, dif_neg (by omega)]
def rowB (O : List Int) (R : List Td) : List Nat := R.flatMap fun x => cbD O x.1.toNat ++ bitsOf false x.2.2 x.2.1
theorem rowB_cons (O : List Int) (x : Td) (R : List Td) : rowB O (x :: R) = cbD O x.1.toNat ++ (bitsOf false x.2.2 x.2.1 ++ rowB O R) := by simp [rowB]
theorem rowB_bin (O : List Int) (R : List Td) : Bin (rowB O R) := fun x hx => by
  obtain ⟨y, _, h⟩ := List.mem_flatMap.1 hx
  rcases List.mem_append.1 h with h | h
  · exact cbD_bin _ _ x h
  · exact bitsOf_bin _ _ _ x h
/-- what a told symbol may be -/
def TdOk (x : Td) : Prop := (0 ≤ x.1 ∧ x.1 ≤ 15 ∧ x.2.1 = 0 ∧ x.2.2 = 0) ∨ (x.1 = 16 ∧ x.2.1 = 2 ∧ x.2.2 < 4) ∨ (x.1 = 17 ∧ x.2.1 = 3 ∧ x.2.2 < 8) ∨ (x.1 = 18 ∧ x.2.1 = 7 ∧ x.2.2 < 128)
theorem headD_at (l : List Int) (h : 0 < l.length) : l[0]? = some (l.headD 0) := by
  cases l with
  | nil => simp at h
  | cons x l => rfl
theorem rowW_ok : ∀ (k : Nat) (v : Int) (l : List Int), l.length ≤ k → (∀ x ∈ l, 0 ≤ x ∧ x ≤ 15) → (∀ x ∈ rowW v l, TdOk x) ∧ (rowW v l).length ≤ l.length
  | 0, v, l, h, _ => by
    obtain rfl : l = [] := List.eq_nil_of_length_eq_zero (by omega)
    rw [rowW_nil]
    exact ⟨fun x hx => (by cases hx), Nat.le_refl _⟩
  | k + 1, v, l, h, hr => by
    by_cases hl : 0 < l.length
    · have hs := sameN_pos l hl
      have hs2 := sameN_le l
      have hh := hr _ (List.mem_of_getElem? (headD_at l hl))
      have go : ∀ (n : Nat) (v' : Int), 1 ≤ n → (∀ x ∈ rowW v' (l.drop n), TdOk x) ∧ (rowW v' (l.drop n)).length ≤ l.length - n := fun n v' hn => by
        have := rowW_ok k v' (l.drop n) (by rw [List.length_drop]; omega) (fun x hx => hr x (List.mem_of_mem_drop hx))
        rwa [List.length_drop] at this
      rw [rowW, dif_pos hl]
      split
      · obtain ⟨g1, g2⟩ := go (min (sameN l) 6) v (by omega)
        refine ⟨fun x hx => ?_, by rw [List.length_cons]; omega⟩
        rcases List.mem_cons.1 hx with rfl | hx
        · exact .inr (.inl ⟨rfl, rfl, by show min (sameN l) 6 - 3 < 4; omega⟩)
        · exact g1 x hx
      · split
        · obtain ⟨g1, g2⟩ := go 1 (l.headD 0) (by omega)
          refine ⟨fun x hx => ?_, by rw [List.length_cons]; omega⟩
          rcases List.mem_cons.1 hx with rfl | hx
          · exact .inl ⟨hh.1, hh.2, rfl, rfl⟩
          · exact g1 x hx
        · rename_i h3
          split
          · rename_i h4
            obtain ⟨g1, g2⟩ := go (sameN l) 0 (by omega)
            refine ⟨fun x hx => ?_, by rw [List.length_cons]; omega⟩
            rcases List.mem_cons.1 hx with rfl | hx
            · exact .inr (.inr (.inl ⟨rfl, rfl, by show sameN l - 3 < 8; omega⟩))
            · exact g1 x hx
          · obtain ⟨g1, g2⟩ := go (min (sameN l) 138) 0 (by omega)
            refine ⟨fun x hx => ?_, by rw [List.length_cons]; omega⟩
            rcases List.mem_cons.1 hx with rfl | hx
            · exact .inr (.inr (.inr ⟨rfl, rfl, by show min (sameN l) 138 - 11 < 128; omega⟩))
            · exact g1 x hx
    · obtain rfl : l = [] := List.eq_nil_of_length_eq_zero (by omega)
      rw [rowW_nil]
      exact ⟨fun x hx => (by cases hx), Nat.le_refl _⟩
theorem take_same (l : List Int) (n : Nat) (h : n ≤ sameN l) : l = List.replicate n (l.headD 0) ++ l.drop n := by
  rw [← sameF_take (l.headD 0) l n h, List.take_append_drop]
theorem row_read (s : ByteArray) {O : List Int} (t : badL O = false ∧ kra O ≤ 32768) (out : List Nat) (n : Nat) :
    ∀ (k : Nat) (v : Int) (l d : List Int) (p g : Nat), l.length ≤ k → (∀ x ∈ l, 0 ≤ x ∧ x ≤ 15) → (∀ x ∈ rowW v l, 0 < O.getD x.1.toNat 0) → (0 < v → 0 < d.length ∧ d.getD (d.length - 1) 0 = v) → d.length + l.length = n →
      BitsAt s p (rowB O (rowW v l)) → 8 * s.size + 1 ≤ p + g → rowF s O n g d p out = .ok (d ++ l) (p + (rowB O (rowW v l)).length) out
  | 0, v, l, d, p, g, hk, _, _, _, hn, hb, hg => by
    obtain rfl : l = [] := List.eq_nil_of_length_eq_zero (by omega)
    have hp := hb.1
    obtain ⟨g, rfl⟩ : ∃ k, g = k + 1 := ⟨g - 1, by omega⟩
    rw [List.length_nil, Nat.add_zero] at hn
    rw [rowF, if_neg (by omega), if_pos hn, rowW_nil, List.append_nil]
    rfl
  | k + 1, v, l, d, p, g, hk, hr, hu, hv, hn, hb, hg => by
    have hp := hb.1
    obtain ⟨g, rfl⟩ : ∃ k, g = k + 1 := ⟨g - 1, by omega⟩
    by_cases hl : 0 < l.length
    · have hs := sameN_pos l hl
      have hs2 := sameN_le l
      have hh := hr _ (List.mem_of_getElem? (headD_at l hl))
      rw [rowF, if_pos (by omega)]
      -- one symbol, then the rest
      have one : ∀ (m x e : Nat) (u : Nat) (v' : Int), 1 ≤ m → m ≤ sameN l → rowW v l = ((x : Int), e, u) :: rowW v' (l.drop m) → u < 2 ^ e → (0 < v' → l.headD 0 = v') →
          ((symR s O p out).bind fun y p out => rowF s O n g (d ++ List.replicate m (l.headD 0)) (p + e) out) = Rs.ok (d ++ l) (p + (rowB O (rowW v l)).length) out ∧ symR s O p out = .ok x (p + (cbD O x).length) out ∧ getR s e (p + (cbD O x).length) out = .ok u (p + (cbD O x).length + e) out := by
        intro m x e u v' hm hms hW hu2 hv2
        rw [hW, rowB_cons] at hb
        rw [hW] at hu
        simp only [Int.toNat_natCast] at hb
        have hx : 0 < O.getD x 0 := by have := hu _ (List.mem_cons_self ..); simpa using this
        have es : symR s O p out = .ok x (p + (cbD O x).length) out := sym_bits out t.1 t.2 hx hb.left
        have eg : getR s e (p + (cbD O x).length) out = .ok u (p + (cbD O x).length + e) out := get_bits out hu2 hb.right.left
        refine ⟨?_, es, eg⟩
        have hb3 := hb.right.right
        rw [bitsOf_length] at hb3
        have hc0 : 0 < (cbD O x).length := by rw [cbD_len]; omega
        have ih := row_read s t out n k v' (l.drop m) (d ++ List.replicate m (l.headD 0)) (p + (cbD O x).length + e) g (by rw [List.length_drop]; omega) (fun y hy => hr y (List.mem_of_mem_drop hy)) (fun y hy => hu y (List.mem_cons_of_mem _ hy)) (fun h0 => by
          have hd : (d ++ List.replicate m (l.headD 0)).length = d.length + m := by simp
          refine ⟨by omega, ?_⟩
          rw [hd, List.getD_eq_getElem?_getD, List.getElem?_append_right (by omega), List.getElem?_replicate, if_pos (by omega)]
          exact hv2 h0) (by simp only [List.length_append, List.length_replicate, List.length_drop]; omega) hb3 (by omega)
        rw [es, Rs.bind_ok, ih, List.append_assoc, ← take_same l m hms, hW, rowB_cons]
        congr 1
        simp only [List.length_append, bitsOf_length, Int.toNat_natCast]
        omega
      by_cases h2 : 0 < v ∧ l.headD 0 = v ∧ 3 ≤ sameN l
      · have hW := rowW_again v l hl h2
        obtain ⟨e1, e2, e3⟩ := one (min (sameN l) 6) 16 2 (min (sameN l) 6 - 3) v (by omega) (by omega) hW (by omega) (fun _ => h2.2.1)
        obtain ⟨d1, d2⟩ := hv h2.1
        rw [e2, Rs.bind_ok] at e1 ⊢
        rw [if_pos rfl, if_neg (by omega), e3, Rs.bind_ok, d2, show min (sameN l) 6 - 3 + 3 = min (sameN l) 6 by omega]
        rw [h2.2.1] at e1
        exact e1
      · have hW0 : rowW v l = rowW 0 l := rowW_same v l (fun h => h2 h.2)
        have hst := rowW_step l hl
        by_cases h3 : 0 < l.headD 0 ∨ sameN l < 3
        · rw [if_pos h3] at hst
          obtain ⟨x, hx⟩ : ∃ x : Nat, l.headD 0 = x := ⟨(l.headD 0).toNat, by omega⟩
          have hst2 : rowW v l = ((x : Int), 0, 0) :: rowW (l.headD 0) (l.drop 1) := by rw [hW0, hst, hx]
          obtain ⟨e1, e2, e3⟩ := one 1 x 0 0 (l.headD 0) (by omega) hs hst2 (by decide) (fun _ => rfl)
          rw [e2, Rs.bind_ok] at e1 ⊢
          rw [if_neg (by omega), if_neg (by omega), if_neg (by omega)]
          rw [hx] at e1
          exact e1
        · rw [if_neg h3] at hst
          have hz : l.headD 0 = 0 := by omega
          by_cases h4 : sameN l < 11
          · rw [if_pos h4] at hst
            obtain ⟨e1, e2, e3⟩ := one (sameN l) 17 3 (sameN l - 3) 0 (by omega) (by omega) (by rw [hW0, hst]; rfl) (by omega) (fun h => by omega)
            rw [e2, Rs.bind_ok] at e1 ⊢
            rw [if_neg (by omega), if_pos rfl, e3, Rs.bind_ok, show sameN l - 3 + 3 = sameN l by omega]
            rw [hz] at e1
            exact e1
          · rw [if_neg h4] at hst
            obtain ⟨e1, e2, e3⟩ := one (min (sameN l) 138) 18 7 (min (sameN l) 138 - 11) 0 (by omega) (by omega) (by rw [hW0, hst]; rfl) (by omega) (fun h => by omega)
            rw [e2, Rs.bind_ok] at e1 ⊢
            rw [if_neg (by omega), if_neg (by omega), if_pos rfl, e3, Rs.bind_ok, show min (sameN l) 138 - 11 + 11 = min (sameN l) 138 by omega]
            rw [hz] at e1
            exact e1
    · obtain rfl : l = [] := List.eq_nil_of_length_eq_zero (by omega)
      rw [List.length_nil, Nat.add_zero] at hn
      rw [rowF, if_neg (by omega), if_pos hn, rowW_nil, List.append_nil]
      rfl
end Go.Proofs.YtnapnaaejignaaaGreat.De
