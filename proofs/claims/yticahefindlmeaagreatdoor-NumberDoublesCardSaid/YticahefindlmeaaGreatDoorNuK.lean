/-
  number, plain: signs and noughts. No program is in sight here.
-/
import Derived.Test.YticahefindlmeaaGreatDoorNuA
namespace Go.Proofs.YticahefindlmeaaGreatDoor.Nu
open Go.RowKit

def zs (n : Nat) : List UInt8 := List.replicate n 48
/-- a text without a sign -/
def NoSg (l : List UInt8) : Prop := l.head? ≠ some 43 ∧ l.head? ≠ some 45
theorem sg_no {l : List UInt8} (h : NoSg l) : sgnR l = l ∧ sgnB l = false := by
  unfold sgnR sgnB
  exact ⟨if_neg (fun q => q.elim h.1 h.2), beq_eq_false_iff_ne.2 h.2⟩
theorem cut_no {l : List UInt8} (h : NoSg l) : cutN l = if goodL l then ⟨if hasL l then 2 else 1, false, befL l, aftL l⟩ else ⟨0, false, [], []⟩ := by
  unfold cutN
  rw [(sg_no h).1, (sg_no h).2]
theorem cut_good {l : List UInt8} (h : NoSg l) (hk : (cutN l).kind ≠ 0) : goodL l = true := by
  rw [cut_no h] at hk
  cases hg : goodL l with
  | true => rfl
  | false => rw [hg] at hk; exact absurd rfl hk
theorem cut_minus (l : List UInt8) : cutN (45 :: l) = if goodL l then ⟨if hasL l then 2 else 1, true, befL l, aftL l⟩ else ⟨0, false, [], []⟩ := rfl
theorem cut_plus (l : List UInt8) : cutN (43 :: l) = if goodL l then ⟨if hasL l then 2 else 1, false, befL l, aftL l⟩ else ⟨0, false, [], []⟩ := rfl
theorem zs_succ (n : Nat) : zs (n + 1) = 48 :: zs n := rfl
theorem bef_zs : ∀ (n : Nat) (l : List UInt8), befL (zs n ++ l) = zs n ++ befL l
  | 0, _ => rfl
  | n + 1, l => by
    rw [zs_succ, List.cons_append, List.cons_append]
    unfold befL
    rw [List.takeWhile_cons, if_pos (by decide)]
    exact congrArg _ (bef_zs n l)
theorem aft_zs : ∀ (n : Nat) (l : List UInt8), aftL (zs n ++ l) = aftL l
  | 0, _ => rfl
  | n + 1, l => by
    rw [zs_succ, List.cons_append]
    unfold aftL
    rw [List.dropWhile_cons, if_pos (by decide)]
    exact aft_zs n l
theorem has_zs : ∀ (n : Nat) (l : List UInt8), hasL (zs n ++ l) = hasL l
  | 0, _ => rfl
  | n + 1, l => by
    rw [zs_succ, List.cons_append]
    have := has_zs n l
    unfold hasL at this ⊢
    rw [List.contains_cons, this]
    rfl
theorem all_zs (n : Nat) : (zs n).all digB = true := by
  unfold zs
  rw [List.all_eq_true]
  intro x hx
  rw [List.eq_of_mem_replicate hx]
  decide
theorem good_zs (n : Nat) (l : List UInt8) (h : goodL l = true) : goodL (zs n ++ l) = true := by
  unfold goodL at h ⊢
  rw [bef_zs, aft_zs, List.all_append, all_zs]
  simp only [Bool.and_eq_true, Bool.not_eq_true', List.isEmpty_eq_false_iff] at h ⊢
  refine ⟨⟨⟨trivial, h.1.1⟩, h.1.2⟩, fun e => h.2 ?_⟩
  rw [List.append_assoc] at e
  exact (List.append_eq_nil_iff.1 e).2
theorem no_zs (n : Nat) {l : List UInt8} (h : NoSg l) : NoSg (zs n ++ l) := by
  cases n with
  | zero => exact h
  | succ n => exact ⟨by rw [zs_succ]; simp, by rw [zs_succ]; simp⟩
theorem tl_zs : ∀ (n : Nat) (l : List UInt8), tl (zs n ++ l) = tl l
  | 0, _ => rfl
  | n + 1, l => by
    rw [zs_succ, List.cons_append]
    unfold tl Lib.trimLeftB
    rw [List.dropWhile_cons, if_pos (by decide)]
    exact tl_zs n l
theorem tr_zs (n : Nat) (l : List UInt8) : tr (l ++ zs n) = tr l := by
  unfold tr Lib.trimRightB
  rw [List.reverse_append, show (zs n).reverse = zs n by unfold zs; exact List.reverse_replicate]
  exact congrArg List.reverse (tl_zs n l.reverse)
/-- comparing looks at the digits alone -/
theorem size_digits (k k' : Nat) (n n' m m' : Bool) (j j' : Nat) (a b c d : List UInt8) : sizeN ⟨k, n, a, b⟩ ⟨j, m, c, d⟩ = sizeN ⟨k', n', a, b⟩ ⟨j', m', c, d⟩ := rfl
theorem size_nil (k j : Nat) (n m : Bool) (c d : List UInt8) (h : (c ++ d).isEmpty = false) : sizeN ⟨k, n, [], []⟩ ⟨j, m, c, d⟩ = -1 := by
  unfold sizeN orI
  cases c with
  | cons x c =>
    have : Lib.compareInt (([] : List UInt8).length : Int) ((x :: c).length : Int) = -1 := by
      unfold Lib.compareInt
      rw [if_pos (by simp)]
    rw [this]
    rfl
  | nil =>
    cases d with
    | nil => simp at h
    | cons y d => rfl
theorem minus_flip (k j : Nat) (a b c d : List UInt8) :
    cmpB ⟨k, !(a ++ b).isEmpty, a, b⟩ ⟨j, !(c ++ d).isEmpty, c, d⟩ = - sizeN ⟨k, false, a, b⟩ ⟨j, false, c, d⟩ := by
  unfold cmpB
  cases h1 : (a ++ b).isEmpty with
  | true =>
    obtain ⟨rfl, rfl⟩ := List.append_eq_nil_iff.1 (List.isEmpty_iff.1 h1)
    cases h2 : (c ++ d).isEmpty with
    | true =>
      obtain ⟨rfl, rfl⟩ := List.append_eq_nil_iff.1 (List.isEmpty_iff.1 h2)
      rfl
    | false =>
      rw [size_nil k j false false c d h2]
      rfl
  | false =>
    cases h2 : (c ++ d).isEmpty with
    | true =>
      obtain ⟨rfl, rfl⟩ := List.append_eq_nil_iff.1 (List.isEmpty_iff.1 h2)
      have e := size_nil j k false false a b h1
      rw [size_flip ⟨k, false, a, b⟩ ⟨j, false, [], []⟩] at e
      have : sizeN ⟨k, false, a, b⟩ ⟨j, false, [], []⟩ = 1 := by omega
      rw [this]
      rfl
    | false =>
      show sizeN _ _ = _
      exact size_flip ⟨k, false, a, b⟩ ⟨j, false, c, d⟩
theorem bef_le (l : List UInt8) : (befL l).length + (aftL l).length ≤ l.length := by
  unfold befL aftL
  have h := List.takeWhile_append_dropWhile (p := (· != 46)) (l := l)
  have h2 := congrArg List.length h
  rw [List.length_append] at h2
  rw [List.length_drop]
  omega
theorem tl_le (l : List UInt8) : (tl l).length ≤ l.length := (List.dropWhile_sublist _).length_le
theorem tr_le (l : List UInt8) : (tr l).length ≤ l.length := by
  unfold tr Lib.trimRightB
  rw [List.length_reverse]
  refine Nat.le_trans (List.dropWhile_sublist _).length_le ?_
  rw [List.length_reverse]
  exact Nat.le_refl _
theorem orS_le (l : List UInt8) : (orS l).length ≤ l.length + 1 := by
  unfold orS
  split
  · simp
  · omega
/-- what the law NumberSigns asks of comparing -/
theorem signs_cmp (s t : List UInt8) (n : Nat) (hs : NoSg s) (ht : NoSg t) (ks : (cutN s).kind ≠ 0) (kt : (cutN t).kind ≠ 0) (ls : s.length ≤ 20) (lt : t.length ≤ 20) (hn : n ≤ 10) :
    ∃ a : Int, (a = -1 ∨ a = 0 ∨ a = 1) ∧ cmpN s t = (a, 0) ∧ cmpN (45 :: s) (45 :: t) = (-a, 0) ∧ cmpN (43 :: s) t = (a, 0) ∧ cmpN (zs n ++ s) t = (a, 0) := by
  have gs := cut_good hs ks
  have gt := cut_good ht kt
  have b1 := bef_le s
  have b2 := bef_le t
  have c1 : cutN s = ⟨if hasL s then 2 else 1, false, befL s, aftL s⟩ := by rw [cut_no hs, if_pos gs]
  have c2 : cutN t = ⟨if hasL t then 2 else 1, false, befL t, aftL t⟩ := by rw [cut_no ht, if_pos gt]
  have c3 : cutN (45 :: s) = ⟨if hasL s then 2 else 1, true, befL s, aftL s⟩ := by rw [cut_minus, if_pos gs]
  have c4 : cutN (45 :: t) = ⟨if hasL t then 2 else 1, true, befL t, aftL t⟩ := by rw [cut_minus, if_pos gt]
  have c5 : cutN (43 :: s) = ⟨if hasL s then 2 else 1, false, befL s, aftL s⟩ := by rw [cut_plus, if_pos gs]
  have c6 : cutN (zs n ++ s) = ⟨if hasL s then 2 else 1, false, zs n ++ befL s, aftL s⟩ := by rw [cut_no (no_zs n hs), if_pos (good_zs n s gs), bef_zs, aft_zs, has_zs]
  have hk : ∀ l : List UInt8, (if hasL l then 2 else 1) ≠ 0 := fun l => by split <;> decide
  have lz : (zs n).length = n := List.length_replicate
  have key : ∀ (l m : List UInt8) (p q : Num), cutN l = p → cutN m = q → p.kind ≠ 0 → q.kind ≠ 0 → p.a.length + p.b.length ≤ 64 → q.a.length + q.b.length ≤ 64 → cmpN l m = (cmpB (bareN p) (bareN q), 0) := fun l m p q h1 h2 h3 h4 h5 h6 => by
    unfold cmpN
    rw [h1, h2, if_neg (fun h => h.elim h3 h4)]
    unfold longN
    rw [decide_eq_false (by omega), decide_eq_false (by omega)]
    rfl
  refine ⟨sizeN ⟨if hasL s then 2 else 1, false, tl (befL s), tr (aftL s)⟩ ⟨if hasL t then 2 else 1, false, tl (befL t), tr (aftL t)⟩, size_range _ _, ?_, ?_, ?_, ?_⟩
  · rw [key s t _ _ c1 c2 (hk s) (hk t) (by show (befL s).length + (aftL s).length ≤ 64; omega) (by show (befL t).length + (aftL t).length ≤ 64; omega)]
    rfl
  · rw [key _ _ _ _ c3 c4 (hk s) (hk t) (by show (befL s).length + (aftL s).length ≤ 64; omega) (by show (befL t).length + (aftL t).length ≤ 64; omega)]
    exact congrArg (fun x => (x, (0 : Int))) (minus_flip _ _ _ _ _ _)
  · rw [key _ t _ _ c5 c2 (hk s) (hk t) (by show (befL s).length + (aftL s).length ≤ 64; omega) (by show (befL t).length + (aftL t).length ≤ 64; omega)]
    rfl
  · rw [key _ t _ _ c6 c2 (hk s) (hk t) (by show (zs n ++ befL s).length + (aftL s).length ≤ 64; rw [List.length_append]; omega) (by show (befL t).length + (aftL t).length ≤ 64; omega)]
    show (cmpB ⟨_, _, tl (zs n ++ befL s), tr (aftL s)⟩ _, (0 : Int)) = _
    rw [tl_zs]
    rfl
theorem bef_has : ∀ (l m : List UInt8), hasL l = true → befL (l ++ m) = befL l ∧ aftL (l ++ m) = aftL l ++ m ∧ hasL (l ++ m) = true
  | [], _, h => by simp [hasL] at h
  | x :: l, m, h => by
    by_cases hx : x = 46
    · subst hx
      exact ⟨by simp [befL], by simp [aftL], by simp [hasL]⟩
    · have h2 : hasL l = true := by
        unfold hasL at h ⊢
        simpa [Ne.symm hx] using h
      obtain ⟨e1, e2, e3⟩ := bef_has l m h2
      have hb : (x != 46) = true := by simpa using hx
      refine ⟨?_, ?_, ?_⟩
      · rw [List.cons_append]
        unfold befL at e1 ⊢
        rw [List.takeWhile_cons, if_pos hb, e1, List.takeWhile_cons, if_pos hb]
      · rw [List.cons_append]
        unfold aftL at e2 ⊢
        rw [List.dropWhile_cons, if_pos hb, e2, List.dropWhile_cons, if_pos hb]
      · rw [List.cons_append]
        unfold hasL at e3 ⊢
        rw [List.contains_cons, e3, Bool.or_true]
/-- .. and of a real's text -/
theorem signs_real (s : List UInt8) (n : Nat) (hs : NoSg s) (ks : (cutN s).kind = 2) (ls : s.length ≤ 20) (hn : n ≤ 10) :
    ∃ r : List UInt8, realN s = (r, 0) ∧ realN (zs n ++ s ++ zs n) = (r, 0) := by
  have gs := cut_good hs (by rw [ks]; decide)
  have b1 := bef_le s
  have c1 : cutN s = ⟨if hasL s then 2 else 1, false, befL s, aftL s⟩ := by rw [cut_no hs, if_pos gs]
  have hh : hasL s = true := by
    rw [c1] at ks
    cases h : hasL s with
    | true => rfl
    | false => rw [h] at ks; exact absurd (show (1 : Nat) = 2 from ks) (by decide)
  rw [hh] at c1
  have g2 : NoSg (s ++ zs n) := by
    cases s with
    | nil => simp [hasL] at hh
    | cons x s => exact hs
  obtain ⟨e1, e2, e3⟩ := bef_has s (zs n) hh
  have gd : goodL (s ++ zs n) = true := by
    unfold goodL at gs ⊢
    rw [e1, e2, List.all_append, all_zs]
    simp only [Bool.and_eq_true, Bool.not_eq_true', List.isEmpty_eq_false_iff] at gs ⊢
    refine ⟨⟨gs.1.1, gs.1.2, trivial⟩, fun e => gs.2 ?_⟩
    rw [← List.append_assoc] at e
    exact (List.append_eq_nil_iff.1 e).1
  have c2 : cutN (zs n ++ s ++ zs n) = ⟨2, false, zs n ++ befL s, aftL s ++ zs n⟩ := by
    rw [List.append_assoc, cut_no (no_zs n g2), if_pos (good_zs n _ gd), bef_zs, aft_zs, has_zs, e1, e2, e3]
    rfl
  have lz : (zs n).length = n := List.length_replicate
  have t1 := tl_le (befL s)
  have t2 := tr_le (aftL s)
  have o1 := orS_le (tl (befL s))
  have o2 := orS_le (tr (aftL s))
  have hl : longN ⟨2, false, orS (tl (befL s)), orS (tr (aftL s))⟩ = false := decide_eq_false (by show ¬ 64 < (orS _).length + (orS _).length; omega)
  refine ⟨txtN ⟨2, false, tl (befL s), tr (aftL s)⟩, ?_, ?_⟩
  · unfold realN
    rw [c1, if_neg (by simp), show longN ⟨if true = true then 2 else 1, false, befL s, aftL s⟩ = false from decide_eq_false (by show ¬ 64 < (befL s).length + (aftL s).length; omega)]
    show (if longN ⟨2, false, orS (tl (befL s)), orS (tr (aftL s))⟩ then _ else _) = _
    rw [hl]
    rfl
  · unfold realN
    rw [c2, if_neg (by simp), show longN ⟨2, false, zs n ++ befL s, aftL s ++ zs n⟩ = false from decide_eq_false (by show ¬ 64 < (zs n ++ befL s).length + (aftL s ++ zs n).length; rw [List.length_append, List.length_append]; omega)]
    show (if longN ⟨2, false, orS (tl (zs n ++ befL s)), orS (tr (aftL s ++ zs n))⟩ then _ else (txtN ⟨2, false, tl (zs n ++ befL s), tr (aftL s ++ zs n)⟩, (0 : Int))) = _
    rw [tl_zs, tr_zs, hl]
    rfl
end Go.Proofs.YticahefindlmeaaGreatDoor.Nu
