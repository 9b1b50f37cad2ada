/-
  doubles, plain: the law NumberDoubles.
-/
import Derived.Test.YticahefindlmeaaGreatDoorNuZ
import Derived.Test.YticahefindlmeaaGreatDoorNuN
namespace Go.Proofs.YticahefindlmeaaGreatDoor.Nu
open Go.RowKit

theorem valF_app (l m : List UInt8) (x : Nat) : valF x (l ++ m) = valF (valF x l) m := by
  unfold valF
  rw [List.foldl_append]
theorem valF_zs : ∀ (z x : Nat), valF x (List.replicate z 48) = x * 10 ^ z
  | 0, x => (Nat.mul_one x).symm
  | z + 1, x => by
    rw [List.replicate_succ, valF_cons, valF_zs z, Nat.pow_succ', ← Nat.mul_assoc]
    rfl
theorem val_tl : ∀ l : List UInt8, valF 0 (tl l) = valF 0 l
  | [] => rfl
  | c :: r => by
    unfold tl Lib.trimLeftB
    rw [List.dropWhile_cons]
    by_cases h : (c == 48) = true
    · rw [if_pos h, eq_of_beq h, valF_cons]
      exact val_tl r
    · rw [if_neg h]
theorem tr_split (l : List UInt8) : ∃ z, l = tr l ++ List.replicate z 48 := by
  refine ⟨(l.reverse.takeWhile (· == 48)).length, ?_⟩
  have h1 : (l.reverse.takeWhile (· == 48)).reverse = List.replicate (l.reverse.takeWhile (· == 48)).length 48 := by
    rw [List.eq_replicate_iff]
    refine ⟨List.length_reverse, fun b hb => ?_⟩
    have := List.all_takeWhile (p := (· == (48 : UInt8))) (l := l.reverse)
    rw [List.all_eq_true] at this
    exact eq_of_beq (this b (List.mem_reverse.1 hb))
  rw [← h1]
  unfold tr Lib.trimRightB
  rw [← List.reverse_append, List.takeWhile_append_dropWhile, List.reverse_reverse]
def dtx (neg : Bool) (P : List UInt8) (a : Nat) : List UInt8 := (if neg then [45] else []) ++ P.take a ++ [46] ++ P.drop a
theorem all_take (P : List UInt8) (a : Nat) (h : P.all digB = true) : (P.take a).all digB = true := by
  rw [List.all_eq_true] at h ⊢
  exact fun x hx => h x (List.mem_of_mem_take hx)
theorem all_drop (P : List UInt8) (a : Nat) (h : P.all digB = true) : (P.drop a).all digB = true := by
  rw [List.all_eq_true] at h ⊢
  exact fun x hx => h x (List.mem_of_mem_drop hx)
theorem cut_AB (neg : Bool) (A B : List UInt8) (h1 : A.all digB = true) (h2 : B.all digB = true) (h3 : 1 ≤ A.length) : cutN ((if neg then [45] else []) ++ A ++ [46] ++ B) = ⟨2, neg, A, B⟩ := by
  obtain ⟨e1, e2, e3, _⟩ := dig_no46 A B h1
  have hne : (A ++ B).isEmpty = false := by
    cases A with
    | nil => simp at h3
    | cons c r => rfl
  have hg : goodL (A ++ 46 :: B) = true := by
    unfold goodL
    rw [e1, e2, h1, h2, hne]
    rfl
  cases neg with
  | true =>
    show cutN (45 :: (A ++ [46] ++ B)) = _
    rw [List.append_assoc, cut_minus]
    show (if goodL (A ++ 46 :: B) then (⟨if hasL (A ++ 46 :: B) then 2 else 1, true, befL (A ++ 46 :: B), aftL (A ++ 46 :: B)⟩ : Num) else _) = _
    rw [hg, e1, e2, e3]
    rfl
  | false =>
    show cutN (A ++ [46] ++ B) = _
    have hns : NoSg (A ++ 46 :: B) := by
      cases A with
      | nil => simp at h3
      | cons c r =>
        rw [List.all_cons, Bool.and_eq_true] at h1
        have hc := of_decide_eq_true h1.1
        refine ⟨fun e => ?_, fun e => ?_⟩
        · have := congrArg UInt8.toNat (Option.some.inj e)
          have h43 : (43 : UInt8).toNat = 43 := rfl
          omega
        · have := congrArg UInt8.toNat (Option.some.inj e)
          have h45 : (45 : UInt8).toNat = 45 := rfl
          omega
    rw [List.append_assoc]
    show cutN (A ++ 46 :: B) = _
    rw [cut_no hns, hg, e1, e2, e3]
    rfl
/-- what the law asks of its text -/
structure DblOk (n pl : Nat) (neg : Bool) (s : List UInt8) : Prop where
  all : ∃ (r : List UInt8) (x : Nat) (m : Int), realN s = (r, 0) ∧ (cutN s).kind ≠ 0 ∧ longN (cutN s) = false ∧ NearOk s x 0 ∧ OfOk x pl m ∧ realN (ofT m pl) = (r, 0) ∧ (F64.order x 0 == some .eq) = decide (n = 0) ∧ (F64.order x 0 == some .lt) = (neg && decide (0 < n))
  len : s.length ≤ 20
theorem ofok_nought (pl : Nat) (h : pl < 7) : OfOk 0 pl 0 := by
  have hm : ∀ pl, pl < 7 → F64.mul 0 (tenW.getD pl 0) = some 0 := by decide +kernel
  exact ⟨by omega, by kernel_rfl, ⟨0, by kernel_rfl, by kernel_rfl⟩, by kernel_rfl, by kernel_rfl,
    ⟨0, 0, false, 0, -1074, hm pl h, by kernel_rfl, by kernel_rfl, by kernel_rfl⟩, by decide⟩
theorem dec_nought : Lib.decDigits 0 = [48] := by
  rw [Lib.decDigits, dif_pos (by decide)]
  rfl
theorem nought_facts : ∀ pl, pl < 7 → ∀ neg : Bool, (realN (dtx neg (padN [48] pl) ((padN [48] pl).length - pl)) = ([48, 46, 48], 0) ∧ (cutN (dtx neg (padN [48] pl) ((padN [48] pl).length - pl))).kind = 2 ∧
    longN (cutN (dtx neg (padN [48] pl) ((padN [48] pl).length - pl))) = false ∧ realN (dtx false (padN [48] pl) ((padN [48] pl).length - pl)) = ([48, 46, 48], 0) ∧
    (digN (dtx neg (padN [48] pl) ((padN [48] pl).length - pl))).length ≤ 15 ∧ (bareN (cutN (dtx neg (padN [48] pl) ((padN [48] pl).length - pl)))).b.length < 10 ∧
    F64.div (floatOfInt .f64 (valF 0 (digN (dtx neg (padN [48] pl) ((padN [48] pl).length - pl))) : Nat)) (tenW.getD (bareN (cutN (dtx neg (padN [48] pl) ((padN [48] pl).length - pl)))).b.length 0) = some 0 ∧
    (bareN (cutN (dtx neg (padN [48] pl) ((padN [48] pl).length - pl)))).neg = false ∧ (dtx neg (padN [48] pl) ((padN [48] pl).length - pl)).length ≤ 20) := by decide +kernel
theorem dbl_nought (pl : Nat) (neg : Bool) (hpl : pl < 7) : DblOk 0 pl neg (dtx neg (padN (Lib.decDigits 0) pl) ((padN (Lib.decDigits 0) pl).length - pl)) := by
  have hof : ofT 0 pl = dtx false (padN (Lib.decDigits 0) pl) ((padN (Lib.decDigits 0) pl).length - pl) := rfl
  rw [dec_nought] at hof ⊢
  obtain ⟨f1, f2, f3, f4, f5, f6, f7, f8, f9⟩ := nought_facts pl hpl neg
  refine ⟨⟨[48, 46, 48], 0, 0, f1, by rw [f2]; decide, f3, .inr ⟨f5, f6, rfl, 0, f7, by rw [f8]; rfl⟩, ofok_nought pl hpl, by rw [hof]; exact f4, by kernel_rfl, ?_⟩, f9⟩
  rw [show decide ((0 : Nat) < 0) = false from rfl, Bool.and_false]
  kernel_rfl
theorem dbl_some (n pl : Nat) (neg : Bool) (hpl : pl < 7) (h0 : 0 < n) (hn : n ≤ 1000000000) : DblOk n pl neg (dtx neg (padN (Lib.decDigits n) pl) ((padN (Lib.decDigits n) pl).length - pl)) := by
  obtain ⟨d1, d2, _⟩ := dec_all (u := n) (by omega)
  have dl := dec_len' 9 n (by omega)
  have dp := dec_pos n
  have hof : ofT (if neg then -(n : Int) else (n : Int)) pl = dtx neg (padN (Lib.decDigits n) pl) ((padN (Lib.decDigits n) pl).length - pl) := by
    cases neg with
    | true =>
      show ofT (-(n : Int)) pl = _
      unfold ofT
      rw [if_pos (by omega), show (-(n : Int)).natAbs = n by omega]
      rfl
    | false =>
      show ofT (n : Int) pl = _
      unfold ofT
      rw [if_neg (by omega), show ((n : Int)).natAbs = n by omega]
      rfl
  generalize Lib.decDigits n = D at *
  have hPl : (padN D pl).length = pl + 1 - D.length + D.length := by
    unfold padN
    rw [List.length_append, List.length_replicate]
  have hPa : (padN D pl).all digB = true := by
    unfold padN
    rw [List.all_append, d2, Bool.and_true, List.all_eq_true]
    intro x hx
    rw [List.eq_of_mem_replicate hx]
    rfl
  have hPv : valF 0 (padN D pl) = n := by
    unfold padN
    rw [valF_app, valF_zs, Nat.zero_mul, d1]
  generalize padN D pl = P at *
  obtain ⟨a, ha⟩ : ∃ a, P.length - pl = a := ⟨_, rfl⟩
  rw [ha] at hof ⊢
  have hA := all_take P a hPa
  have hB := all_drop P a hPa
  have hAl : (P.take a).length = a := by rw [List.length_take]; omega
  have hBl : (P.drop a).length = pl := by rw [List.length_drop]; omega
  have hAB : P.take a ++ P.drop a = P := List.take_append_drop a P
  have hs : dtx neg P a = (if neg then [45] else []) ++ P.take a ++ [46] ++ P.drop a := rfl
  rw [hs] at hof ⊢
  clear hs
  generalize P.take a = A at *
  generalize P.drop a = B at *
  rw [← hAB, valF_app] at hPv
  have hcut := cut_AB neg A B hA hB (by omega)
  have hsl : ((if neg then [45] else []) ++ A ++ [46] ++ B : List UInt8).length ≤ 20 := by
    cases neg <;> simp <;> omega
  generalize ((if neg then [45] else []) ++ A ++ [46] ++ B : List UInt8) = s at *
  obtain ⟨z, hz⟩ := tr_split B
  have hzl : (tr B).length + z = pl := by
    have := congrArg List.length hz
    rw [List.length_append, List.length_replicate] at this
    omega
  have la := tl_le A
  have hNv : valF 0 (tl (tl A ++ tr B)) * 10 ^ z = n := by
    rw [val_tl, valF_app, val_tl, ← valF_zs, ← valF_app, ← hz]
    exact hPv
  have hN0 : valF 0 (tl (tl A ++ tr B)) ≠ 0 := by
    intro e
    rw [e, Nat.zero_mul] at hNv
    omega
  have hne : (tl A ++ tr B).isEmpty = false := by
    cases h : tl A ++ tr B with
    | nil => rw [h] at hN0; exact absurd rfl hN0
    | cons c r => rfl
  obtain ⟨q, m, e, hq, hf, hall⟩ := dbl (valF 0 (tl (tl A ++ tr B))) (tr B).length z hN0 (by omega) (by omega)
  rw [hNv, hzl] at hall
  have hlong : longN (cutN s) = false := by
    rw [hcut]
    exact decide_eq_false (by show ¬ 64 < A.length + B.length; omega)
  have hbare : bareN (cutN s) = ⟨2, neg, tl A, tr B⟩ := by
    rw [hcut]
    unfold bareN
    rw [hne]
    simp
  have hdig : digN s = tl (tl A ++ tr B) := by
    unfold digN
    rw [hbare]
  have hdl : (tl (tl A ++ tr B)).length ≤ 15 := by
    refine Nat.le_trans (tl_le _) ?_
    rw [List.length_append]
    omega
  have hreal : realN s = (txtN (bareN (cutN s)), 0) := by
    unfold realN
    have o1 := orS_le (tl A)
    have o2 := orS_le (tr B)
    have hl2 : longN ⟨2, neg, orS (tl A), orS (tr B)⟩ = false := decide_eq_false (by show ¬ 64 < (orS (tl A)).length + (orS (tr B)).length; omega)
    rw [hlong, hbare, hl2, hcut]
    rfl
  have hX : Fn (if neg then Op.negFloat .f64 q else q) neg m e := by
    cases neg with
    | true => exact neg_fn hf
    | false => exact hf
  refine ⟨⟨_, if neg then Op.negFloat .f64 q else q, if neg then -(n : Int) else (n : Int), hreal, by rw [hcut]; exact show (2 : Nat) ≠ 0 by decide, hlong, .inr ⟨by rw [hdig]; exact hdl, by rw [hbare]; show (tr B).length < 10; omega, rfl, q, by rw [hdig, hbare]; exact hq, by rw [hbare]⟩, hall neg _ hX, by rw [hof]; exact hreal, ?_, ?_⟩, hsl⟩
  · rw [ord_nought hX, decide_eq_false (by omega)]
    cases neg <;> rfl
  · rw [ord_nought hX, decide_eq_true h0]
    cases neg <;> rfl
end Go.Proofs.YticahefindlmeaaGreatDoor.Nu
