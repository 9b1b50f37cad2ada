/-
  number, plain: whole numbers' texts compare as the numbers do. No program is in sight here.
-/
import Derived.Test.YticahefindlmeaaGreatDoorNuM
namespace Go.Proofs.YticahefindlmeaaGreatDoor.Nu
open Go.RowKit

theorem valF_snoc (l : List UInt8) (acc : Nat) (c : UInt8) : valF acc (l ++ [c]) = valF acc l * 10 + (c.toNat - 48) := by
  unfold valF
  rw [List.foldl_append, List.foldl_cons, List.foldl_nil]
theorem dg_ok (d : Nat) (h : d < 10) : (UInt8.ofNat (48 + d)).toNat = 48 + d := by simp; omega
theorem dec_val : ∀ (k u : Nat), u < 10 ^ (k + 1) → valF 0 (Lib.decDigits u) = u ∧ (Lib.decDigits u).all digB = true ∧ (0 < u → ∃ c t, Lib.decDigits u = c :: t ∧ c ≠ 48)
  | 0, u, h => by
    have hu : u < 10 := by simpa using h
    rw [Lib.decDigits, dif_pos hu]
    refine ⟨?_, ?_, fun h0 => ⟨_, _, rfl, fun e => ?_⟩⟩
    · rw [valF_cons]
      show 0 * 10 + _ = u
      rw [dg_ok u hu]
      omega
    · rw [List.all_cons, List.all_nil, Bool.and_true]
      refine decide_eq_true ?_
      rw [dg_ok u hu]
      omega
    · have := congrArg UInt8.toNat e
      rw [dg_ok u hu] at this
      have h48 : (48 : UInt8).toNat = 48 := rfl
      omega
  | k + 1, u, h => by
    by_cases hu : u < 10
    · exact dec_val 0 u (by simpa using hu)
    · have ih := dec_val k (u / 10) (by rw [Nat.pow_succ] at h; omega)
      rw [Lib.decDigits, dif_neg hu]
      have hd : u % 10 < 10 := Nat.mod_lt _ (by decide)
      refine ⟨?_, ?_, fun _ => ?_⟩
      · rw [valF_snoc, ih.1, dg_ok _ hd]
        omega
      · rw [List.all_append, ih.2.1, List.all_cons, List.all_nil, Bool.and_true, Bool.true_and]
        refine decide_eq_true ?_
        rw [dg_ok _ hd]
        omega
      · obtain ⟨c, t, h1, h2⟩ := ih.2.2 (by omega)
        exact ⟨c, t ++ _, by rw [h1]; rfl, h2⟩
theorem dec_all {u : Nat} (h : u ≤ 2147483647) : valF 0 (Lib.decDigits u) = u ∧ (Lib.decDigits u).all digB = true ∧ (0 < u → ∃ c t, Lib.decDigits u = c :: t ∧ c ≠ 48) := dec_val 9 u (by omega)
def key (u : Nat) : List UInt8 := tl (Lib.decDigits u)
theorem key_pos {u : Nat} (h : u ≤ 2147483647) (h0 : 0 < u) : key u = Lib.decDigits u := by
  obtain ⟨c, t, h1, h2⟩ := (dec_all h).2.2 h0
  unfold key tl Lib.trimLeftB
  rw [h1, List.dropWhile_cons, if_neg (by simpa using h2)]
theorem key_zero : key 0 = [] := by
  unfold key
  rw [Lib.decDigits, dif_pos (by decide)]
  rfl
theorem key_val {u : Nat} (h : u ≤ 2147483647) : valF 0 (key u) = u ∧ (key u).all digB = true := by
  by_cases h0 : u = 0
  · subst h0
    rw [key_zero]
    exact ⟨rfl, rfl⟩
  · rw [key_pos h (by omega)]
    exact ⟨(dec_all h).1, (dec_all h).2.1⟩
theorem key_nil {u : Nat} (h : u ≤ 2147483647) : (key u).isEmpty = decide (u = 0) := by
  by_cases h0 : u = 0
  · subst h0
    rw [key_zero]
    rfl
  · rw [key_pos h (by omega), decide_eq_false h0]
    obtain ⟨c, t, h1, _⟩ := (dec_all h).2.2 (by omega)
    rw [h1]
    rfl
theorem valF_mono (l : List UInt8) : ∀ (m : List UInt8) (x y : Nat), l.all digB = true → m.all digB = true → l.length = m.length → x < y → valF x l < valF y m := by
  induction l with
  | nil =>
    intro m x y _ _ hl hxy
    obtain rfl : m = [] := List.eq_nil_of_length_eq_zero hl.symm
    exact hxy
  | cons c l ih =>
    intro m x y h1 h2 hl hxy
    cases m with
    | nil => simp at hl
    | cons d m =>
      rw [List.all_cons, Bool.and_eq_true] at h1 h2
      have hc := of_decide_eq_true h1.1
      have hd := of_decide_eq_true h2.1
      rw [valF_cons, valF_cons]
      exact ih m _ _ h1.2 h2.2 (by simpa using hl) (by omega)
theorem valF_cmp (l : List UInt8) : ∀ (m : List UInt8) (x : Nat), l.all digB = true → m.all digB = true → l.length = m.length → Lib.compareBytes l m = Lib.compareInt (valF x l) (valF x m) := by
  induction l with
  | nil =>
    intro m x _ _ hl
    obtain rfl : m = [] := List.eq_nil_of_length_eq_zero hl.symm
    unfold Lib.compareInt
    rw [if_neg (by omega), if_neg (by omega)]
    rfl
  | cons c l ih =>
    intro m x h1 h2 hl
    cases m with
    | nil => simp at hl
    | cons d m =>
      rw [List.all_cons, Bool.and_eq_true] at h1 h2
      have hc := of_decide_eq_true h1.1
      have hd := of_decide_eq_true h2.1
      rw [valF_cons, valF_cons]
      simp only [Lib.compareBytes]
      by_cases q1 : c < d
      · have hq : c.toNat < d.toNat := q1
        have := valF_mono l m (x * 10 + (c.toNat - 48)) (x * 10 + (d.toNat - 48)) h1.2 h2.2 (by simpa using hl) (by omega)
        rw [if_pos q1]
        unfold Lib.compareInt
        rw [if_pos (by omega)]
      · rw [if_neg q1]
        by_cases q2 : d < c
        · have hq : d.toNat < c.toNat := q2
          have := valF_mono m l (x * 10 + (d.toNat - 48)) (x * 10 + (c.toNat - 48)) h2.2 h1.2 (by simpa using hl.symm) (by omega)
          rw [if_pos q2]
          unfold Lib.compareInt
          rw [if_neg (by omega), if_pos (by omega)]
        · rw [if_neg q2]
          have e : c = d := UInt8.le_antisymm (UInt8.not_lt.1 q2) (UInt8.not_lt.1 q1)
          subst e
          exact ih m _ h1.2 h2.2 (by simpa using hl)
theorem valF_low (t : List UInt8) : ∀ (x : Nat), t.all digB = true → x * 10 ^ t.length ≤ valF x t := by
  induction t with
  | nil =>
    intro x _
    rw [List.length_nil, Nat.pow_zero, Nat.mul_one]
    exact Nat.le_refl x
  | cons c t ih =>
    intro x h
    rw [List.all_cons, Bool.and_eq_true] at h
    rw [valF_cons, List.length_cons, Nat.pow_succ, Nat.mul_comm (10 ^ t.length) 10, ← Nat.mul_assoc]
    exact Nat.le_trans (Nat.mul_le_mul_right _ (by omega)) (ih _ h.2)
theorem key_low {u : Nat} (h : u ≤ 2147483647) (h0 : 0 < u) : 10 ^ ((key u).length - 1) ≤ u ∧ 1 ≤ (key u).length := by
  obtain ⟨hv, ha⟩ := key_val h
  rw [key_pos h h0] at hv ha ⊢
  obtain ⟨c, t, h1, h2⟩ := (dec_all h).2.2 h0
  rw [h1] at hv ha ⊢
  rw [List.all_cons, Bool.and_eq_true] at ha
  have hc := of_decide_eq_true ha.1
  have hc2 : c.toNat ≠ 48 := fun e => h2 (UInt8.toNat_inj.1 e)
  have hl := valF_low t (0 * 10 + (c.toNat - 48)) ha.2
  rw [valF_cons] at hv
  rw [hv] at hl
  refine ⟨?_, by simp⟩
  show 10 ^ (t.length + 1 - 1) ≤ u
  rw [Nat.add_sub_cancel]
  exact Nat.le_trans (Nat.le_mul_of_pos_left _ (by omega)) hl
theorem key_cmp (k j : Nat) (n m : Bool) {u v : Nat} (hu : u ≤ 2147483647) (hv : v ≤ 2147483647) : sizeN ⟨k, n, key u, []⟩ ⟨j, m, key v, []⟩ = Lib.compareInt u v := by
  obtain ⟨u1, u2⟩ := key_val hu
  obtain ⟨v1, v2⟩ := key_val hv
  have lu := valF_lt (key u) 0 u2
  have lv := valF_lt (key v) 0 v2
  rw [u1, Nat.zero_add, Nat.one_mul] at lu
  rw [v1, Nat.zero_add, Nat.one_mul] at lv
  unfold sizeN orI
  have hnil : Lib.compareBytes ([] : List UInt8) [] = 0 := rfl
  by_cases q : (key u).length = (key v).length
  · have e1 : Lib.compareInt ((key u).length : Int) ((key v).length : Int) = 0 := by
      unfold Lib.compareInt
      rw [if_neg (by omega), if_neg (by omega)]
    show (if Lib.compareInt ((key u).length : Int) ((key v).length : Int) = 0 then _ else _) = _
    rw [if_pos e1]
    have e2 := valF_cmp (key u) (key v) 0 u2 v2 q
    rw [u1, v1] at e2
    show (if Lib.compareBytes (key u) (key v) = 0 then Lib.compareBytes ([] : List UInt8) [] else Lib.compareBytes (key u) (key v)) = _
    rw [hnil, e2]
    split <;> simp_all
  · by_cases q1 : (key u).length < (key v).length
    · have e1 : Lib.compareInt ((key u).length : Int) ((key v).length : Int) = -1 := by
        unfold Lib.compareInt
        rw [if_pos (by omega)]
      have v0 : 0 < v := by
        refine Nat.pos_of_ne_zero fun e => ?_
        subst e
        rw [key_zero] at q1
        simp at q1
      have h1 := (key_low hv v0).1
      have h2 : 10 ^ (key u).length ≤ 10 ^ ((key v).length - 1) := Nat.pow_le_pow_right (by decide) (by omega)
      show (if Lib.compareInt ((key u).length : Int) ((key v).length : Int) = 0 then _ else Lib.compareInt ((key u).length : Int) ((key v).length : Int)) = _
      rw [e1, if_neg (by decide)]
      unfold Lib.compareInt
      rw [if_pos (by omega)]
    · have e1 : Lib.compareInt ((key u).length : Int) ((key v).length : Int) = 1 := by
        unfold Lib.compareInt
        rw [if_neg (by omega), if_pos (by omega)]
      have u0 : 0 < u := by
        refine Nat.pos_of_ne_zero fun e => ?_
        subst e
        have hz : (key 0).length = 0 := by rw [key_zero]; rfl
        omega
      have h1 := (key_low hu u0).1
      have h2 : 10 ^ (key v).length ≤ 10 ^ ((key u).length - 1) := Nat.pow_le_pow_right (by decide) (by omega)
      show (if Lib.compareInt ((key u).length : Int) ((key v).length : Int) = 0 then _ else Lib.compareInt ((key u).length : Int) ((key v).length : Int)) = _
      rw [e1, if_neg (by decide)]
      unfold Lib.compareInt
      rw [if_neg (by omega), if_pos (by omega)]
/-! ### a whole number's text, cut up -/
theorem dig_no46 : ∀ (l t : List UInt8), l.all digB = true → befL (l ++ 46 :: t) = l ∧ aftL (l ++ 46 :: t) = t ∧ hasL (l ++ 46 :: t) = true ∧ befL l = l ∧ aftL l = [] ∧ hasL l = false
  | [], t, _ => ⟨rfl, rfl, by simp [hasL], rfl, rfl, rfl⟩
  | c :: l, t, h => by
    rw [List.all_cons, Bool.and_eq_true] at h
    have hc := of_decide_eq_true h.1
    have hb : (c != 46) = true := by
      refine bne_iff_ne.2 fun e => ?_
      subst e
      have h46 : (46 : UInt8).toNat = 46 := rfl
      omega
    have hb2 : ¬ (46 : UInt8) = c := fun e => by simp [← e] at hb
    obtain ⟨e1, e2, e3, e4, e5, e6⟩ := dig_no46 l t h.2
    unfold befL aftL hasL at *
    refine ⟨?_, ?_, ?_, ?_, ?_, ?_⟩
    · rw [List.cons_append, List.takeWhile_cons, if_pos hb, e1]
    · rw [List.cons_append, List.dropWhile_cons, if_pos hb, e2]
    · rw [List.cons_append, List.contains_cons, e3, Bool.or_true]
    · rw [List.takeWhile_cons, if_pos hb, e4]
    · rw [List.dropWhile_cons, if_pos hb, e5]
    · rw [List.contains_cons, e6, Bool.or_false]
      simpa using hb2
def itx (n : Int) : List UInt8 := itxt n
theorem itx_parts (n : Int) (tl' : List UInt8) : itxt n ++ tl' = if n < 0 then 45 :: (Lib.decDigits n.natAbs ++ tl') else Lib.decDigits n.natAbs ++ tl' := by
  unfold itxt Lib.itoa
  split
  · rfl
  · rw [show n.toNat = n.natAbs by omega]
theorem dec_sg {u : Nat} (h : u ≤ 2147483647) (t : List UInt8) : NoSg (Lib.decDigits u ++ t) := by
  have ha := (dec_all h).2.1
  have hp := dec_pos u
  cases hd : Lib.decDigits u with
  | nil => rw [hd] at hp; simp at hp
  | cons c r =>
    rw [hd, List.all_cons, Bool.and_eq_true] at ha
    have hc := of_decide_eq_true ha.1
    refine ⟨fun e => ?_, fun e => ?_⟩
    · have := congrArg UInt8.toNat (Option.some.inj e)
      have h43 : (43 : UInt8).toNat = 43 := rfl
      omega
    · have := congrArg UInt8.toNat (Option.some.inj e)
      have h45 : (45 : UInt8).toNat = 45 := rfl
      omega
/-- tail: nothing, a point, or a point and a nought -/
theorem cut_itx (n : Int) (h : n.natAbs ≤ 2147483647) (k : Nat) (b t : List UInt8) (ht : (k = 1 ∧ b = [] ∧ t = []) ∨ (k = 2 ∧ t = 46 :: b ∧ b.all digB = true)) :
    cutN (itxt n ++ t) = ⟨k, decide (n < 0), Lib.decDigits n.natAbs, b⟩ := by
  have ha := (dec_all h).2.1
  have hp := dec_pos n.natAbs
  have hne : (Lib.decDigits n.natAbs ++ b).isEmpty = false := by
    cases hd : Lib.decDigits n.natAbs with
    | nil => rw [hd] at hp; simp at hp
    | cons c r => rfl
  have key : ∀ ng : Bool, (if goodL (Lib.decDigits n.natAbs ++ t) then (⟨if hasL (Lib.decDigits n.natAbs ++ t) then 2 else 1, ng, befL (Lib.decDigits n.natAbs ++ t), aftL (Lib.decDigits n.natAbs ++ t)⟩ : Num) else ⟨0, false, [], []⟩) = ⟨k, ng, Lib.decDigits n.natAbs, b⟩ := fun ng => by
    rcases ht with ⟨rfl, rfl, rfl⟩ | ⟨rfl, rfl, hb⟩
    · obtain ⟨_, _, _, e4, e5, e6⟩ := dig_no46 (Lib.decDigits n.natAbs) [] ha
      rw [List.append_nil]
      unfold goodL
      rw [e4, e5, e6, ha, hne]
      rfl
    · obtain ⟨e1, e2, e3, _⟩ := dig_no46 (Lib.decDigits n.natAbs) b ha
      unfold goodL
      rw [e1, e2, e3, ha, hb, hne]
      rfl
  rw [itx_parts]
  by_cases hn : n < 0
  · rw [if_pos hn, cut_minus, decide_eq_true hn]
    exact key true
  · rw [if_neg hn, cut_no (dec_sg h t), decide_eq_false hn]
    exact key false
theorem bare_itx (n : Int) (h : n.natAbs ≤ 2147483647) (k : Nat) (b : List UInt8) (hb : tr b = []) : bareN ⟨k, decide (n < 0), Lib.decDigits n.natAbs, b⟩ = ⟨k, decide (n < 0), key n.natAbs, []⟩ := by
  unfold bareN
  show (⟨k, decide (n < 0) && !(key n.natAbs ++ tr b).isEmpty, key n.natAbs, tr b⟩ : Num) = _
  rw [hb, List.append_nil, key_nil h]
  congr 1
  by_cases hn : n < 0
  · rw [decide_eq_true hn, decide_eq_false (by omega)]
    rfl
  · rw [decide_eq_false hn]
    rfl
theorem cmp_itx (k j : Nat) (a b : Int) (ha : a.natAbs ≤ 2147483647) (hb : b.natAbs ≤ 2147483647) : cmpB ⟨k, decide (a < 0), key a.natAbs, []⟩ ⟨j, decide (b < 0), key b.natAbs, []⟩ = Lib.compareInt a b := by
  unfold cmpB
  by_cases h1 : a < 0
  · by_cases h2 : b < 0
    · rw [decide_eq_true h1, decide_eq_true h2]
      show sizeN _ _ = _
      rw [key_cmp _ _ _ _ hb ha]
      unfold Lib.compareInt
      split <;> split <;> first | omega | (split <;> first | omega | (split <;> omega))
    · rw [decide_eq_true h1, decide_eq_false h2]
      show (-1 : Int) = _
      unfold Lib.compareInt
      rw [if_pos (by omega)]
  · by_cases h2 : b < 0
    · rw [decide_eq_false h1, decide_eq_true h2]
      show (1 : Int) = _
      unfold Lib.compareInt
      rw [if_neg (by omega), if_pos (by omega)]
    · rw [decide_eq_false h1, decide_eq_false h2]
      show sizeN _ _ = _
      rw [key_cmp _ _ _ _ ha hb]
      unfold Lib.compareInt
      split <;> split <;> first | omega | (split <;> first | omega | (split <;> omega))
theorem cmpB_trans (x s y : Num) (h1 : cmpB x s ≤ 0) (h2 : cmpB s y ≤ 0) : cmpB x y ≤ 0 := by
  unfold cmpB at *
  cases hx : x.neg <;> cases hs : s.neg <;> cases hy : y.neg <;> (rw [hx, hs] at h1; rw [hs, hy] at h2) <;>
    first
      | exact (size_trans x s y h1 h2).1
      | exact (size_trans y s x h2 h1).1
      | exact absurd (show (1 : Int) ≤ 0 from h1) (by decide)
      | exact absurd (show (1 : Int) ≤ 0 from h2) (by decide)
      | exact (show (-1 : Int) ≤ 0 by decide)
end Go.Proofs.YticahefindlmeaaGreatDoor.Nu
